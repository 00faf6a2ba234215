/- More contracts of package power: which steps fail, whether it is off, and nil. -/
import Derived.Test.YtionjddcahgpkaaPower
set_option linter.unusedVariables false
set_option maxRecDepth 100000
namespace Go.Proofs.Ytionjddcahgpkaa
open Go.RowKit
open Go.Maps (Keyed)

theorem stepKeyed : Keyed Try.prog 88 := Keyed.of_law (deep_law_gate (by kernel_rfl) (of_decide_eq_true (by kernel_rfl)) (of_decide_eq_true (by kernel_rfl)) (by kernel_rfl) (by kernel_rfl))

theorem step_key (x : Int) (h : (Lit.int .i64 x).wf = true) : ∃ kl, keyOf Try.prog 88 (.agg #[.int .i64 x]) = some kl :=
  key_struct1 (of_decide_eq_true (by kernel_rfl)) Try.underlying88 (by kernel_rfl) (by kernel_rfl) (by kernel_rfl) rfl rfl Try.underlying3 (by kernel_rfl) x h

theorem zeroI (w : World) : (zeroValue 3).run Try.prog w = .ok (.int .i64 0) w := by kernel_rfl

theorem pow_fails (b : Nat) (F : List Nat) (s : PS) (w : World) (h : Pow w b F s) (hd : s.done ≤ 1000000000000) :
    Calls Try.prog 45 #[.pointer (some ⟨b, 0, none⟩)] w fun e w' => e = .returned (.bool s.failing) ∧ ∃ n, w' = w.drewN n := by
  obtain ⟨m, G, hb, hf, rfl, hnb, hl1, hl2⟩ := h
  rcases s with ⟨left, mask, off, fails, done⟩
  simp only at hd hl1 hl2 hf
  have c3 : w.cell? ⟨b, 3, none⟩ = some (.map m) := hb.cell 3 _ rfl
  have c4 : w.cell? ⟨b, 4, none⟩ = some (.int .i64 (done : Int)) := hb.cell 4 _ rfl
  by_cases h0 : done = 0
  · subst h0
    go_enter Try.func45, Try.ntmps45
    go_wp2_with fail
    go_ret
    exact ⟨rfl, 0, rfl⟩
  · have hwf : (Lit.int .i64 ((done : Int) - 1)).wf = true := by simp [Lit.wf, IntKind.min, IntKind.max, IntKind.signed, IntKind.bits]; omega
    obtain ⟨kl, hkey⟩ := step_key _ hwf
    have hfail : PS.failing ⟨left, mask, off, fails, done⟩ = fails.contains ((done : Int) - 1) := by simp [PS.failing, show 0 < done by omega]
    have hrun : ∃ u, ∀ n, (Instr.lookup 72 (.map m) (.agg #[.int .i64 ((done : Int) - 1)]) true).run Try.prog (w.drewN n) = .ok (.tuple #[u, .bool (fails.contains ((done : Int) - 1))]) (w.drewN n) := by
      rcases hf with ⟨rfl, rfl, _⟩ | ⟨mb, n, f, rfl, h1, h2, _⟩
      · exact ⟨_, fun n => look_none stepKeyed Try.underlying72 (zeroI _) true hkey⟩
      · refine ⟨(f (.agg #[.int .i64 ((done : Int) - 1)])).getD (.int .i64 0), fun n => ?_⟩
        rw [← h2 _ hwf]
        exact (h1.only ((Only.refl [] w).drewN n) (by simp)).look stepKeyed Try.underlying72 (zeroI _) true hkey
    obtain ⟨u, hrun⟩ := hrun
    have hrun0 := hrun 0
    rw [hfail]
    have hz : ((done : Int) == 0) = false := by simp; omega
    have hw : IntKind.i64.wrap ((done : Int) - 1) = (done : Int) - 1 := IntWalk.i64_in _ (by omega)
    clear hfail hkey hf hb
    generalize fails.contains ((done : Int) - 1) = q at *
    go_enter Try.func45, Try.ntmps45
    go_wp2_with fail
    go_quiet (fail)
    go_wp2_with fail
    go_ret
    exact ⟨rfl, nq, rfl⟩

theorem take_snoc_contains (l : List Int) (k : Nat) (hk : k < l.length) (x : Int) : (l.take (k + 1)).contains x = ((l.take k).contains x || (x == l[k])) := by
  rw [List.take_succ_eq_append_getElem hk]
  simp only [List.contains_eq_any_beq, List.any_append, List.any_cons, List.any_nil, Bool.or_false]

/-- What a map that was filled with the first k numbers holds. -/
def FilledTo (f : Value → Option Value) (l : List Int) (k : Nat) : Prop := ∀ x, (Lit.int .i64 x).wf = true → (f (.agg #[.int .i64 x])).isSome = (l.take k).contains x

theorem FilledTo.put {f : Value → Option Value} {l : List Int} {k : Nat} (h : FilledTo f l k) (hk : k < l.length) (v : Value) : FilledTo (updV f (.agg #[.int .i64 l[k]]) (some v)) l (k + 1) := by
  intro x hx
  rw [take_snoc_contains l k hk]
  by_cases e : x = l[k]
  · subst e; rw [updV_same]; simp
  · rw [updV_other _ _ _ (by simpa using e), h x hx]
    have : (x == l[k]) = false := by simpa using e
    rw [this, Bool.or_false]

theorem pow_fail (b : Nat) (F : List Nat) (s : PS) (A : Option Addr) (c : Nat) (l : List Int) (w : World) (h : Pow w b F s) (hi : Ints w A l) (hwf : ∀ x ∈ l, (Lit.int .i64 x).wf = true) (hA : ∀ x, A = some x → 0 < l.length → x.block ≠ b) (hl : l.length ≤ 140737488351232) :
    Calls Try.prog 19 #[.pointer (some ⟨b, 0, none⟩), .slice A l.length c] w fun e w' => e = .returned (.tuple #[]) ∧ (∃ mb, w.heap.size ≤ mb ∧ Pow w' b [b, mb] (s.failOn l)) ∧ Only [b] w w' := by
  obtain ⟨m, G, hb, hf, rfl, hnb, hl1, hl2⟩ := h
  rcases s with ⟨left, mask, off, fails, done⟩
  simp only at hl1 hl2
  have c3 : w.cell? ⟨b, 3, none⟩ = some (.map m) := hb.cell 3 _ rfl
  have f3 := hb.frz 3
  have hbl := hb.lt
  have hmk := @run_makeMap Try.prog
  have hse : (w.setCell ⟨b, 3, none⟩ (.map (some w.heap.size))).heap.size = w.heap.size := by simp [World.setCell]
  have hb1 := (hb.set 3 (.map (some w.heap.size))).alloc (.map #[] 0)
  have ho1 : Only [b] w ((w.setCell ⟨b, 3, none⟩ (.map (some w.heap.size))).alloc (.map #[] 0)) := ((Only.refl [b] w).setCell (by simp) _).alloc _
  have hm1 := MapIs.made (w.setCell ⟨b, 3, none⟩ (.map (some w.heap.size))) Try.prog 88
  rw [hse] at hm1
  have c3' : (w.alloc (.map #[] 0)).cell? ⟨b, 3, none⟩ = some (.map m) := (hb.alloc _).cell 3 _ rfl
  have f3' := (hb.alloc (.map #[] 0)).frz 3
  have hmn : b ≠ w.heap.size := by omega
  have hms := Nat.le_refl w.heap.size
  have HM := Lib.hid hm1
  have HB := Lib.hid hb1
  have HO := Lib.hid ho1
  clear hf hb hnb hm1 hb1 ho1 hse
  obtain ⟨w0, rfl⟩ : ∃ w0 : World, w0 = w := ⟨_, rfl⟩
  go_enter Try.func19, Try.ntmps19
  go_upto_region 2 with fail
  have hm1 := HM.out
  have hb1 := HB.out
  have ho1 := HO.out
  clear HM HB HO c3 f3 c3' f3' hmk
  generalize (w0.setCell ⟨b, 3, none⟩ (.map (some w0.heap.size))).alloc (.map #[] 0) = w1 at *
  have hi1 := hi.only ho1 (fun x hx h0 => by have := hA x hx h0; simpa using this)
  have hAl : ∀ x, A = some x → 0 < l.length → x.block ≠ w0.heap.size := fun x hx h0 => by
    obtain ⟨b', o', e, hc'⟩ := hi.at h0
    rw [hx] at e
    cases e
    have := World.block_lt_of_cell? w0 _ hc'
    show b' ≠ _
    simp at this
    omega
  clear hi
  generalize hmb : w0.heap.size = mb at *
  have hms2 : w0.heap.size ≤ mb := by omega
  clear hmb
  go_upto_region 3 with fail
  go_loopw [14, 5] (fun v14 _ wr => ∃ k f, k ≤ l.length ∧ v14 = .int .i64 (k : Int) ∧ MapIs wr Try.prog 88 mb k f ∧ FilledTo f l k ∧ Blk wr b 74 [.int .i64 left, .int .u8 (mask.toNat : Int), .bool off, .map (some mb), .int .i64 (done : Int)] ∧ Ints wr A l ∧ Only [b, mb] w1 wr)
    (fun v14 _ _ => l.length - (intOf v14).toNat)
  case atStart => exact ⟨0, _, Nat.zero_le _, rfl, hm1, (fun x hx => by simp), hb1, hi1, Only.refl _ _⟩
  case round =>
    clear hm1 hb1 hi1
    obtain ⟨k, f, hk, rfl, hm, hfl, hb, hi, ho⟩ := hrel
    by_cases hlt : k < l.length
    · obtain ⟨bb, off', rfl, hcell⟩ := hi.at hlt
      have c3 := hb.cell 3 _ rfl
      have hx := hwf l[k] (List.getElem_mem hlt)
      obtain ⟨kl, hkey⟩ := step_key _ hx
      have hput := fun v => hfl.put hlt v
      have HPUT := Lib.hid hput
      clear hput hfl hx
      have hkm : k < maxLen := by unfold maxLen; omega
      have hAm : bb ≠ mb := hAl _ rfl (by omega)
      generalize l[k] = x at *
      go_wp2_with (at_mapUpdate; refine wpList_wanted (by rfl) fun K hK => wp_mapUpdate_is _ _ _ rfl stepKeyed Try.underlying72 rfl hm hkm rfl rfl hkey ?_; intro w2 hm2 hg2; refine hK _ _ ?_; clear hK K)
      go_roundw
      case rel => exact ⟨k + 1, _, by omega, by go_num, hm2, HPUT.out _, hb.only (Only.of_grown hg2) (by simpa using hmn), hi.only (Only.of_grown hg2) (by intro x hx _; cases hx; simpa using hAm), ho.trans' (Only.of_grown hg2) (by simp)⟩
      case measure => simp [intOf]; omega
    · obtain rfl : k = l.length := by omega
      have hP : Pow wr b [b, mb] ⟨left, mask, off, l, done⟩ := ⟨some mb, [mb], hb, Or.inr ⟨mb, _, f, rfl, hm, fun x hx => by rw [hfl x hx, List.take_length], rfl⟩, rfl, by simpa using hmn, hl1, hl2⟩
      have HP := Lib.hid hP
      have HO := Lib.hid (ho1.trans' ho (S' := [b, mb]) (by simp; exact Or.inr hms2))
      clear hP hm hb hi ho hfl
      go_wp2_with fail
      go_end0
      exact ⟨rfl, ⟨mb, hms2, HP.out⟩, HO.out⟩
end Go.Proofs.Ytionjddcahgpkaa
