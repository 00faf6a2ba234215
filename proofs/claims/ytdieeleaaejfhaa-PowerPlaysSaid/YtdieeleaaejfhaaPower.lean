/- The contracts of package power: an object as it lies in memory, and what each call makes of it. -/
import Derived.Test.YtdieeleaaejfhaaOnly
import Derived.Test.YtdieeleaaejfhaaPowerP
import Derived.Test.YtdieeleaaejfhaaKinds
import Derived.Outline
import Derived.Deep.QuietTactic
import Derived.BigQuiet
import Derived.Deep.DeepCutAuto
import Derived.Deep.CutBlock
import Derived.IntWalk
set_option linter.unusedVariables false
namespace Go.Proofs.Ytdieeleaaejfhaa
open Go.RowKit
open Go.Maps (Keyed)

theorem stepKeyed : Keyed Try.prog 87 := Keyed.of_law (deep_law_gate (by kernel_rfl) (of_decide_eq_true (by kernel_rfl)) (of_decide_eq_true (by kernel_rfl)) (by kernel_rfl) (by kernel_rfl))

theorem step_key (x : Int) (h : (Lit.int .i64 x).wf = true) : ∃ kl, keyOf Try.prog 87 (.agg #[.int .i64 x]) = some kl :=
  key_struct1 (of_decide_eq_true (by kernel_rfl)) Try.underlying87 (by kernel_rfl) (by kernel_rfl) (by kernel_rfl) rfl rfl Try.underlying3 (by kernel_rfl) x h

theorem zeroI (w : World) : (zeroValue 3).run Try.prog w = .ok (.int .i64 0) w := by kernel_rfl

def powCells (s : PS) (m : Option Nat) : List Value := [.int .i64 s.left, .int .u8 (s.mask.toNat : Int), .bool s.off, .map m, .int .i64 (s.done : Int)]

/-- Which steps fail, as the map in the object has them. -/
def FailsAt (w : World) (m : Option Nat) (l : List Int) (G : List Nat) : Prop :=
  (m = none ∧ l = [] ∧ G = []) ∨
  ∃ mb n f, m = some mb ∧ MapIs w Try.prog 87 mb n f ∧ (∀ x, (Lit.int .i64 x).wf = true → (f (.agg #[.int .i64 x])).isSome = l.contains x) ∧ G = [mb]

theorem FailsAt.only {w w' : World} {m : Option Nat} {l : List Int} {G S : List Nat} (h : FailsAt w m l G) (ho : Only S w w') (hn : ∀ x ∈ G, x ∉ S) : FailsAt w' m l G := by
  rcases h with h | ⟨mb, n, f, rfl, h1, h2, rfl⟩
  · exact Or.inl h
  · exact Or.inr ⟨mb, n, f, rfl, h1.only ho (hn mb (by simp)), h2, rfl⟩
theorem FailsAt.lt {w : World} {m : Option Nat} {l : List Int} {G : List Nat} (h : FailsAt w m l G) : ∀ x ∈ G, x < w.heap.size := by
  rcases h with ⟨_, _, rfl⟩ | ⟨mb, n, f, rfl, h1, h2, rfl⟩
  · simp
  · intro x hx; simp at hx; rw [hx]; exact h1.lt

/-- The object at block b, in the blocks of F, is this. -/
def Pow (w : World) (b : Nat) (F : List Nat) (s : PS) : Prop :=
  ∃ m G, Blk w b 85 (powCells s m) ∧ FailsAt w m s.fails G ∧ F = b :: G ∧ b ∉ G ∧ -1 ≤ s.left ∧ s.left ≤ 9223372036854775807

theorem Pow.only {w w' : World} {b : Nat} {F S : List Nat} {s : PS} (h : Pow w b F s) (ho : Only S w w') (hn : ∀ x ∈ F, x ∉ S) : Pow w' b F s := by
  obtain ⟨m, G, h1, h2, rfl, h3⟩ := h
  exact ⟨m, G, h1.only ho (hn b (by simp)), h2.only ho (fun x hx => hn x (by simp [hx])), rfl, h3⟩
theorem Pow.lt {w : World} {b : Nat} {F : List Nat} {s : PS} (h : Pow w b F s) : ∀ x ∈ F, x < w.heap.size := by
  obtain ⟨m, G, h1, h2, rfl, h3⟩ := h
  intro x hx
  rcases List.mem_cons.1 hx with rfl | hx
  · exact h1.lt
  · exact h2.lt x hx
theorem Pow.below {w w' : World} {b : Nat} {F : List Nat} {s : PS} (h : Pow w b F s) (hb : Below w.heap.size w w') : Pow w' b F s :=
  h.only (Only.of_below hb []) (fun x _ => by simp)

set_option maxHeartbeats 400000 in
theorem pow_new (w : World) : Calls Try.prog 15 #[] w (Ret fun v w' => ∃ b, v = .pointer (some ⟨b, 0, none⟩) ∧ w.heap.size ≤ b ∧ b < w'.heap.size ∧ Pow w' b [b] PS.new ∧ Below w.heap.size w w') := by
  go_enter Try.func15, Try.ntmps15
  go_wp2_with fail
  go_ret
  exact Ret.mk ⟨w.heap.size, rfl, Nat.le_refl _, by simp, ⟨none, [], Blk.new w (powCells PS.new none) _, Or.inl ⟨rfl, rfl, rfl⟩, rfl, by simp, by decide, by decide⟩, below_alloc w _⟩

set_option maxHeartbeats 400000 in
theorem pow_cut (b : Nat) (F : List Nat) (s : PS) (n : Int) (k : UInt8) (w : World) (h : Pow w b F s) (hn : n ≤ 9223372036854775807) :
    Calls Try.prog 18 #[.pointer (some ⟨b, 0, none⟩), .int .i64 n, .int .u8 (k.toNat : Int)] w fun e w' => e = .returned (.tuple #[]) ∧ Pow w' b F (s.cut n k) ∧ Only [b] w w' := by
  obtain ⟨m, G, hb, hf, rfl, hnb, hl1, hl2⟩ := h
  have c0 := hb.cell 0 _ rfl
  have c1 := hb.cell 1 _ rfl
  have f0 := hb.frz 0
  have f1 := hb.frz 1
  go_enter Try.func18, Try.ntmps18
  have ho : Only [b] w ((w.setCell ⟨b, 0, none⟩ (.int .i64 (max n (-1)))).setCell ⟨b, 1, none⟩ (.int .u8 (k.toNat : Int))) := ((Only.refl [b] w).setCell (by simp) _).setCell (by simp) _
  have hp : Pow ((w.setCell ⟨b, 0, none⟩ (.int .i64 (max n (-1)))).setCell ⟨b, 1, none⟩ (.int .u8 (k.toNat : Int))) b (b :: G) (s.cut n k) :=
    ⟨m, G, (hb.set 0 (.int .i64 (max n (-1)))).set 1 (.int .u8 (k.toNat : Int)), hf.only ho (fun x hx => by simp; rintro rfl; exact hnb hx), rfl, hnb, by show -1 ≤ max n (-1); omega, by show max n (-1) ≤ _; omega⟩
  have HP := Lib.hid hp
  have HO := Lib.hid ho
  clear hp ho
  by_cases hn1 : n < -1
  · have hm : max n (-1) = -1 := by omega
    rw [hm] at HP HO
    clear hm
    go_wp2_with fail
    go_end0
    exact ⟨rfl, HP.out, HO.out⟩
  · have hm : max n (-1) = n := by omega
    rw [hm] at HP HO
    clear hm
    go_wp2_with fail
    go_end0
    exact ⟨rfl, HP.out, HO.out⟩

set_option maxHeartbeats 400000 in
theorem pow_on (b : Nat) (F : List Nat) (s : PS) (w : World) (h : Pow w b F s) :
    Calls Try.prog 21 #[.pointer (some ⟨b, 0, none⟩)] w fun e w' => e = .returned (.tuple #[]) ∧ Pow w' b F s.on ∧ Only [b] w w' := by
  obtain ⟨m, G, hb, hf, rfl, hnb, hl1, hl2⟩ := h
  have c0 := hb.cell 0 _ rfl
  have c2 := hb.cell 2 _ rfl
  have f0 := hb.frz 0
  have f2 := hb.frz 2
  have ho : Only [b] w ((w.setCell ⟨b, 2, none⟩ (.bool false)).setCell ⟨b, 0, none⟩ (.int .i64 (-1))) := ((Only.refl [b] w).setCell (by simp) _).setCell (by simp) _
  have hp : Pow ((w.setCell ⟨b, 2, none⟩ (.bool false)).setCell ⟨b, 0, none⟩ (.int .i64 (-1))) b (b :: G) s.on :=
    ⟨m, G, (hb.set 2 (.bool false)).set 0 (.int .i64 (-1)), hf.only ho (fun x hx => by simp; rintro rfl; exact hnb hx), rfl, hnb, by show (-1 : Int) ≤ -1; omega, by show (-1 : Int) ≤ _; omega⟩
  have HP := Lib.hid hp
  have HO := Lib.hid ho
  clear hp ho
  go_enter Try.func21, Try.ntmps21
  go_wp2_with fail
  go_end0
  exact ⟨rfl, HP.out, HO.out⟩

set_option maxHeartbeats 400000 in
theorem pow_off (b : Nat) (F : List Nat) (s : PS) (w : World) (h : Pow w b F s) :
    Calls Try.prog 27 #[.pointer (some ⟨b, 0, none⟩)] w fun e w' => e = .returned (.bool s.off) ∧ w = w' := by
  obtain ⟨m, G, hb, hf, rfl, hnb, hl1, hl2⟩ := h
  have c2 := hb.cell 2 _ rfl
  go_enter Try.func27, Try.ntmps27
  go_wp2_with fail
  go_ret
  exact ⟨rfl, rfl⟩

set_option maxHeartbeats 400000 in
theorem pow_mask (b : Nat) (F : List Nat) (s : PS) (w : World) (h : Pow w b F s) :
    Calls Try.prog 28 #[.pointer (some ⟨b, 0, none⟩)] w fun e w' => e = .returned (.int .u8 (s.mask.toNat : Int)) ∧ w = w' := by
  obtain ⟨m, G, hb, hf, rfl, hnb, hl1, hl2⟩ := h
  have c1 := hb.cell 1 _ rfl
  go_enter Try.func28, Try.ntmps28
  go_wp2_with fail
  go_ret
  exact ⟨rfl, rfl⟩

set_option maxHeartbeats 400000 in
theorem pow_steps (b : Nat) (F : List Nat) (s : PS) (w : World) (h : Pow w b F s) :
    Calls Try.prog 29 #[.pointer (some ⟨b, 0, none⟩)] w fun e w' => e = .returned (.int .i64 (s.done : Int)) ∧ w = w' := by
  obtain ⟨m, G, hb, hf, rfl, hnb, hl1, hl2⟩ := h
  have c4 := hb.cell 4 _ rfl
  go_enter Try.func29, Try.ntmps29
  go_wp2_with fail
  go_ret
  exact ⟨rfl, rfl⟩

set_option maxHeartbeats 400000 in
theorem pow_step (b : Nat) (F : List Nat) (s : PS) (w : World) (h : Pow w b F s) (hd : s.done ≤ 1000000000000) :
    Calls Try.prog 23 #[.pointer (some ⟨b, 0, none⟩)] w fun e w' => e = .returned (.tuple #[.bool s.did, .bool s.torn]) ∧ Pow w' b F s.next ∧ Only [b] w w' := by
  obtain ⟨m, G, hb, hf, rfl, hnb, hl1, hl2⟩ := h
  rcases s with ⟨left, mask, off, fails, done⟩
  simp only at hd hl1 hl2 hf
  have c0 : w.cell? ⟨b, 0, none⟩ = some (.int .i64 left) := hb.cell 0 _ rfl
  have c2 : w.cell? ⟨b, 2, none⟩ = some (.bool off) := hb.cell 2 _ rfl
  have c4 : w.cell? ⟨b, 4, none⟩ = some (.int .i64 (done : Int)) := hb.cell 4 _ rfl
  have f0 := hb.frz 0
  have f2 := hb.frz 2
  have f4 := hb.frz 4
  have hnG : ∀ x ∈ G, x ∉ [b] := fun x hx => by simp; rintro rfl; exact hnb hx
  cases off with
  | true =>
    have HP := Lib.hid (show Pow w b (b :: G) ⟨left, mask, true, fails, done⟩ from ⟨m, G, hb, hf, rfl, hnb, hl1, hl2⟩)
    clear hb hf hnG
    go_enter Try.func23, Try.ntmps23
    go_wp2_with fail
    go_ret2
    exact ⟨rfl, HP.out, Only.refl _ _⟩
  | false =>
    by_cases h0 : left = 0
    · subst h0
      have ho : Only [b] w (w.setCell ⟨b, 2, none⟩ (.bool true)) := (Only.refl [b] w).setCell (by simp) _
      have HP := Lib.hid (show Pow (w.setCell ⟨b, 2, none⟩ (.bool true)) b (b :: G) ⟨0, mask, true, fails, done⟩ from ⟨m, G, hb.set 2 (.bool true), hf.only ho hnG, rfl, hnb, hl1, hl2⟩)
      have HO := Lib.hid ho
      clear hb hf hnG ho
      go_enter Try.func23, Try.ntmps23
      go_wp2_with fail
      go_ret2
      exact ⟨rfl, HP.out, HO.out⟩
    · have hdid : PS.did ⟨left, mask, false, fails, done⟩ = true := by simp [PS.did, h0]
      have htorn : PS.torn ⟨left, mask, false, fails, done⟩ = false := by simp [PS.torn, h0]
      by_cases hp : 0 < left
      · have hnext : PS.next ⟨left, mask, false, fails, done⟩ = ⟨left - 1, mask, false, fails, done + 1⟩ := by simp [PS.next, h0, hp]
        have hz : (left == 0) = false := by simpa using h0
        rw [hdid, htorn, hnext]
        have ho : Only [b] w ((w.setCell ⟨b, 0, none⟩ (.int .i64 (left - 1))).setCell ⟨b, 4, none⟩ (.int .i64 ((done : Int) + 1))) := ((Only.refl [b] w).setCell (by simp) _).setCell (by simp) _
        have HP := Lib.hid (show Pow ((w.setCell ⟨b, 0, none⟩ (.int .i64 (left - 1))).setCell ⟨b, 4, none⟩ (.int .i64 ((done : Int) + 1))) b (b :: G) ⟨left - 1, mask, false, fails, done + 1⟩ from
          ⟨m, G, (hb.set 0 (.int .i64 (left - 1))).set 4 (.int .i64 ((done : Int) + 1)), hf.only ho hnG, rfl, hnb, by show -1 ≤ left - 1; omega, by show left - 1 ≤ _; omega⟩)
        have HO := Lib.hid ho
        clear hb hf hnG ho hdid htorn hnext
        go_enter Try.func23, Try.ntmps23
        go_wp2_with fail
        go_ret2
        exact ⟨rfl, HP.out, HO.out⟩
      · have hnext : PS.next ⟨left, mask, false, fails, done⟩ = ⟨left, mask, false, fails, done + 1⟩ := by simp [PS.next, h0, hp]
        have hz : (left == 0) = false := by simpa using h0
        rw [hdid, htorn, hnext]
        have ho : Only [b] w (w.setCell ⟨b, 4, none⟩ (.int .i64 ((done : Int) + 1))) := (Only.refl [b] w).setCell (by simp) _
        have HP := Lib.hid (show Pow (w.setCell ⟨b, 4, none⟩ (.int .i64 ((done : Int) + 1))) b (b :: G) ⟨left, mask, false, fails, done + 1⟩ from
          ⟨m, G, hb.set 4 (.int .i64 ((done : Int) + 1)), hf.only ho hnG, rfl, hnb, hl1, hl2⟩)
        have HO := Lib.hid ho
        clear hb hf hnG ho hdid htorn hnext
        go_enter Try.func23, Try.ntmps23
        go_wp2_with fail
        go_ret2
        exact ⟨rfl, HP.out, HO.out⟩

set_option maxHeartbeats 400000 in
theorem pow_fails (b : Nat) (F : List Nat) (s : PS) (w : World) (h : Pow w b F s) (hd : s.done ≤ 1000000000000) :
    Calls Try.prog 25 #[.pointer (some ⟨b, 0, none⟩)] w fun e w' => e = .returned (.bool s.failing) ∧ ∃ n, w' = w.drewN n := by
  obtain ⟨m, G, hb, hf, rfl, hnb, hl1, hl2⟩ := h
  rcases s with ⟨left, mask, off, fails, done⟩
  simp only at hd hl1 hl2 hf
  have c3 : w.cell? ⟨b, 3, none⟩ = some (.map m) := hb.cell 3 _ rfl
  have c4 : w.cell? ⟨b, 4, none⟩ = some (.int .i64 (done : Int)) := hb.cell 4 _ rfl
  by_cases h0 : done = 0
  · subst h0
    go_enter Try.func25, Try.ntmps25
    go_wp2_with fail
    go_ret
    exact ⟨rfl, 0, rfl⟩
  · have hwf : (Lit.int .i64 ((done : Int) - 1)).wf = true := by simp [Lit.wf, IntKind.min, IntKind.max, IntKind.signed, IntKind.bits]; omega
    obtain ⟨kl, hkey⟩ := step_key _ hwf
    have hfail : PS.failing ⟨left, mask, off, fails, done⟩ = fails.contains ((done : Int) - 1) := by simp [PS.failing, show 0 < done by omega]
    have hrun : ∃ u, ∀ n, (Instr.lookup 83 (.map m) (.agg #[.int .i64 ((done : Int) - 1)]) true).run Try.prog (w.drewN n) = .ok (.tuple #[u, .bool (fails.contains ((done : Int) - 1))]) (w.drewN n) := by
      rcases hf with ⟨rfl, rfl, _⟩ | ⟨mb, n, f, rfl, h1, h2, _⟩
      · exact ⟨_, fun n => look_none stepKeyed Try.underlying83 (zeroI _) true hkey⟩
      · refine ⟨(f (.agg #[.int .i64 ((done : Int) - 1)])).getD (.int .i64 0), fun n => ?_⟩
        rw [← h2 _ hwf]
        exact (h1.only ((Only.refl [] w).drewN n) (by simp)).look stepKeyed Try.underlying83 (zeroI _) true hkey
    obtain ⟨u, hrun⟩ := hrun
    have hrun0 := hrun 0
    rw [hfail]
    have hz : ((done : Int) == 0) = false := by simp; omega
    have hw : IntKind.i64.wrap ((done : Int) - 1) = (done : Int) - 1 := IntWalk.i64_in _ (by omega)
    clear hfail hkey hf hb
    generalize fails.contains ((done : Int) - 1) = q at *
    go_enter Try.func25, Try.ntmps25
    go_wp2_with fail
    go_quiet (fail)
    go_wp2_with fail
    go_ret
    exact ⟨rfl, nq, rfl⟩

theorem take_snoc_contains (l : List Int) (k : Nat) (hk : k < l.length) (x : Int) : (l.take (k + 1)).contains x = ((l.take k).contains x || (x == l[k])) := by
  rw [List.take_succ_eq_append_getElem hk]
  simp only [List.contains_eq_any_beq, List.any_append, List.any_cons, List.any_nil, Bool.or_false]

/-- What a map that was filled with the first k numbers holds. -/
def FilledTo (f : Value → Option Value) (l : List Int) (k : Nat) : Prop := ∀ x, (Lit.int .i64 x).wf = true → (f (.agg #[.int .i64 x])).isSome = (l.take k).contains x

theorem FilledTo.put {f : Value → Option Value} {l : List Int} {k : Nat} (h : FilledTo f l k) (hk : k < l.length) (v : Value) : FilledTo (updV f (.agg #[.int .i64 l[k]]) (some v)) l (k + 1) := by
  intro x hx
  rw [take_snoc_contains l k hk]
  by_cases e : x = l[k]
  · subst e; rw [updV_same]; simp
  · rw [updV_other _ _ _ (by simpa using e), h x hx]
    have : (x == l[k]) = false := by simpa using e
    rw [this, Bool.or_false]

set_option maxRecDepth 100000 in
set_option maxHeartbeats 1000000 in
theorem pow_fail (b : Nat) (F : List Nat) (s : PS) (A : Option Addr) (c : Nat) (l : List Int) (w : World) (h : Pow w b F s) (hi : Ints w A l) (hwf : ∀ x ∈ l, (Lit.int .i64 x).wf = true) (hA : ∀ x, A = some x → 0 < l.length → x.block ≠ b) (hl : l.length ≤ 140737488351232) :
    Calls Try.prog 20 #[.pointer (some ⟨b, 0, none⟩), .slice A l.length c] w fun e w' => e = .returned (.tuple #[]) ∧ (∃ mb, w.heap.size ≤ mb ∧ Pow w' b [b, mb] (s.failOn l)) ∧ Only [b] w w' := by
  obtain ⟨m, G, hb, hf, rfl, hnb, hl1, hl2⟩ := h
  rcases s with ⟨left, mask, off, fails, done⟩
  simp only at hl1 hl2
  have c3 : w.cell? ⟨b, 3, none⟩ = some (.map m) := hb.cell 3 _ rfl
  have f3 := hb.frz 3
  have hbl := hb.lt
  have hmk := @run_makeMap Try.prog
  have hse : (w.setCell ⟨b, 3, none⟩ (.map (some w.heap.size))).heap.size = w.heap.size := by simp [World.setCell]
  have hb1 := (hb.set 3 (.map (some w.heap.size))).alloc (.map #[] 0)
  have ho1 : Only [b] w ((w.setCell ⟨b, 3, none⟩ (.map (some w.heap.size))).alloc (.map #[] 0)) := ((Only.refl [b] w).setCell (by simp) _).alloc _
  have hm1 := MapIs.made (w.setCell ⟨b, 3, none⟩ (.map (some w.heap.size))) Try.prog 87
  rw [hse] at hm1
  have c3' : (w.alloc (.map #[] 0)).cell? ⟨b, 3, none⟩ = some (.map m) := (hb.alloc _).cell 3 _ rfl
  have f3' := (hb.alloc (.map #[] 0)).frz 3
  have hmn : b ≠ w.heap.size := by omega
  have hms := Nat.le_refl w.heap.size
  have HM := Lib.hid hm1
  have HB := Lib.hid hb1
  have HO := Lib.hid ho1
  clear hf hb hnb hm1 hb1 ho1 hse
  obtain ⟨w0, rfl⟩ : ∃ w0 : World, w0 = w := ⟨_, rfl⟩
  go_enter Try.func20, Try.ntmps20
  go_upto_region 2 with fail
  have hm1 := HM.out
  have hb1 := HB.out
  have ho1 := HO.out
  clear HM HB HO c3 f3 c3' f3' hmk
  generalize (w0.setCell ⟨b, 3, none⟩ (.map (some w0.heap.size))).alloc (.map #[] 0) = w1 at *
  have hi1 := hi.only ho1 (fun x hx h0 => by have := hA x hx h0; simpa using this)
  have hAl : ∀ x, A = some x → 0 < l.length → x.block ≠ w0.heap.size := fun x hx h0 => by
    obtain ⟨b', o', e, hc'⟩ := hi.at h0
    rw [hx] at e
    cases e
    have := World.block_lt_of_cell? w0 _ hc'
    show b' ≠ _
    simp at this
    omega
  clear hi
  generalize hmb : w0.heap.size = mb at *
  have hms2 : w0.heap.size ≤ mb := by omega
  clear hmb
  go_upto_region 3 with fail
  go_loopw [14, 5] (fun v14 _ wr => ∃ k f, k ≤ l.length ∧ v14 = .int .i64 (k : Int) ∧ MapIs wr Try.prog 87 mb k f ∧ FilledTo f l k ∧ Blk wr b 85 [.int .i64 left, .int .u8 (mask.toNat : Int), .bool off, .map (some mb), .int .i64 (done : Int)] ∧ Ints wr A l ∧ Only [b, mb] w1 wr)
    (fun v14 _ _ => l.length - (intOf v14).toNat)
  case atStart => exact ⟨0, _, Nat.zero_le _, rfl, hm1, (fun x hx => by simp), hb1, hi1, Only.refl _ _⟩
  case round =>
    clear hm1 hb1 hi1
    obtain ⟨k, f, hk, rfl, hm, hfl, hb, hi, ho⟩ := hrel
    by_cases hlt : k < l.length
    · obtain ⟨bb, off', rfl, hcell⟩ := hi.at hlt
      have c3 := hb.cell 3 _ rfl
      have hx := hwf l[k] (List.getElem_mem hlt)
      obtain ⟨kl, hkey⟩ := step_key _ hx
      have hput := fun v => hfl.put hlt v
      have HPUT := Lib.hid hput
      clear hput hfl hx
      have hkm : k < maxLen := by unfold maxLen; omega
      have hAm : bb ≠ mb := hAl _ rfl (by omega)
      generalize l[k] = x at *
      go_wp2_with (at_mapUpdate; refine wpList_wanted (by rfl) fun K hK => wp_mapUpdate_is _ _ _ rfl stepKeyed Try.underlying83 rfl hm hkm rfl rfl hkey ?_; intro w2 hm2 hg2; refine hK _ _ ?_; clear hK K)
      go_roundw
      case rel => exact ⟨k + 1, _, by omega, by go_num, hm2, HPUT.out _, hb.only (Only.of_grown hg2) (by simpa using hmn), hi.only (Only.of_grown hg2) (by intro x hx _; cases hx; simpa using hAm), ho.trans' (Only.of_grown hg2) (by simp)⟩
      case measure => simp [intOf]; omega
    · obtain rfl : k = l.length := by omega
      have hP : Pow wr b [b, mb] ⟨left, mask, off, l, done⟩ := ⟨some mb, [mb], hb, Or.inr ⟨mb, _, f, rfl, hm, fun x hx => by rw [hfl x hx, List.take_length], rfl⟩, rfl, by simpa using hmn, hl1, hl2⟩
      have HP := Lib.hid hP
      have HO := Lib.hid (ho1.trans' ho (S' := [b, mb]) (by simp; exact Or.inr hms2))
      clear hP hm hb hi ho hfl
      go_wp2_with fail
      go_end0
      exact ⟨rfl, ⟨mb, hms2, HP.out⟩, HO.out⟩
/-! ### nil -/

set_option maxHeartbeats 400000 in
theorem pow_nil_cut (n : Int) (k : UInt8) (w : World) : Calls Try.prog 18 #[.pointer none, .int .i64 n, .int .u8 (k.toNat : Int)] w fun e w' => e = .returned (.tuple #[]) ∧ w = w' := by
  go_enter Try.func18, Try.ntmps18
  go_wp2_with fail
  go_end0
  exact ⟨rfl, rfl⟩
set_option maxHeartbeats 400000 in
theorem pow_nil_on (w : World) : Calls Try.prog 21 #[.pointer none] w fun e w' => e = .returned (.tuple #[]) ∧ w = w' := by
  go_enter Try.func21, Try.ntmps21
  go_wp2_with fail
  go_end0
  exact ⟨rfl, rfl⟩
set_option maxHeartbeats 400000 in
theorem pow_nil_fail (v : Value) (w : World) : Calls Try.prog 20 #[.pointer none, v] w fun e w' => e = .returned (.tuple #[]) ∧ w = w' := by
  go_enter Try.func20, Try.ntmps20
  go_wp2_with fail
  refine bodyPost_ret (results_none rfl _ _ _) rfl ?_
  exact ⟨rfl, rfl⟩
set_option maxHeartbeats 400000 in
theorem pow_nil_step (w : World) : Calls Try.prog 23 #[.pointer none] w fun e w' => e = .returned (.tuple #[.bool true, .bool false]) ∧ w = w' := by
  go_enter Try.func23, Try.ntmps23
  go_wp2_with fail
  go_ret2
  exact ⟨rfl, rfl⟩
set_option maxHeartbeats 400000 in
theorem pow_nil_off (w : World) : Calls Try.prog 27 #[.pointer none] w fun e w' => e = .returned (.bool false) ∧ w = w' := by
  go_enter Try.func27, Try.ntmps27
  go_wp2_with fail
  go_ret
  exact ⟨rfl, rfl⟩
set_option maxHeartbeats 400000 in
theorem pow_nil_fails (w : World) : Calls Try.prog 25 #[.pointer none] w fun e w' => e = .returned (.bool false) ∧ w = w' := by
  go_enter Try.func25, Try.ntmps25
  go_wp2_with fail
  go_ret
  exact ⟨rfl, rfl⟩
set_option maxHeartbeats 400000 in
theorem pow_nil_mask (w : World) : Calls Try.prog 28 #[.pointer none] w fun e w' => e = .returned (.int .u8 0) ∧ w = w' := by
  go_enter Try.func28, Try.ntmps28
  go_wp2_with fail
  go_ret
  exact ⟨rfl, rfl⟩
set_option maxHeartbeats 400000 in
theorem pow_nil_steps (w : World) : Calls Try.prog 29 #[.pointer none] w fun e w' => e = .returned (.int .i64 0) ∧ w = w' := by
  go_enter Try.func29, Try.ntmps29
  go_wp2_with fail
  go_ret
  exact ⟨rfl, rfl⟩
end Go.Proofs.Ytdieeleaaejfhaa
