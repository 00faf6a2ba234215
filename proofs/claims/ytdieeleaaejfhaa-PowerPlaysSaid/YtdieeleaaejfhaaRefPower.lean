/- The contracts of the reference's power. -/
import Derived.Test.YtdieeleaaejfhaaPower
set_option linter.unusedVariables false
namespace Go.Proofs.Ytdieeleaaejfhaa
open Go.RowKit

/-- The reference's object at block b, in the blocks of G, is this. -/
def RPow (w : World) (b : Nat) (G : List Nat) (s : PS) : Prop :=
  ∃ A c H, Blk w b 32 [.bool s.off, .int .i64 s.left, .int .u8 (s.mask.toNat : Int), .int .i64 (s.done : Int), .slice A s.fails.length c] ∧ Ints w A s.fails ∧
    G = b :: H ∧ b ∉ H ∧ (∀ x, A = some x → 0 < s.fails.length → x.block ∈ H) ∧ (∀ x ∈ H, x < w.heap.size) ∧ -1 ≤ s.left ∧ s.left ≤ 9223372036854775807 ∧ s.fails.length ≤ 140737488351232

theorem RPow.only {w w' : World} {b : Nat} {F S : List Nat} {s : PS} (h : RPow w b F s) (ho : Only S w w') (hn : ∀ x ∈ F, x ∉ S) : RPow w' b F s := by
  obtain ⟨A, c, H, h1, h2, rfl, h3, h4, h5, h6⟩ := h
  exact ⟨A, c, H, h1.only ho (hn b (by simp)), h2.only ho (fun x hx h0 => hn x.block (by simp [h4 x hx h0])), rfl, h3, h4, fun x hx => Nat.lt_of_lt_of_le (h5 x hx) ho.size, h6⟩
theorem RPow.below {w w' : World} {b : Nat} {F : List Nat} {s : PS} (h : RPow w b F s) (hb : Below w.heap.size w w') : RPow w' b F s :=
  h.only (Only.of_below hb []) (fun x _ => by simp)
theorem RPow.lt {w : World} {b : Nat} {F : List Nat} {s : PS} (h : RPow w b F s) : ∀ x ∈ F, x < w.heap.size := by
  obtain ⟨A, c, H, h1, h2, rfl, h3, h4, h5, h6⟩ := h
  intro x hx
  rcases List.mem_cons.1 hx with rfl | hx
  · exact h1.lt
  · exact h5 x hx
theorem RPow.mem {w : World} {b : Nat} {F : List Nat} {s : PS} (h : RPow w b F s) : b ∈ F := by
  obtain ⟨A, c, H, h1, h2, rfl, h3⟩ := h
  simp
theorem RPow.blk {w : World} {b : Nat} {F : List Nat} {s : PS} (h : RPow w b F s) : ∃ A c, Blk w b 32 [.bool s.off, .int .i64 s.left, .int .u8 (s.mask.toNat : Int), .int .i64 (s.done : Int), .slice A s.fails.length c] := by
  obtain ⟨A, c, H, h1, _⟩ := h
  exact ⟨A, c, h1⟩

/-- Other numbers of steps that fail, in a row of the call's own. -/
theorem RPow.which {w : World} {b B : Nat} {G : List Nat} {s : PS} {v : Value} {l : List Int} (h : RPow w b G s) (hv : kInt.Own w B v l) (hb : ∀ g, v.ownBlock = some g → g ≠ b) (hl : l.length ≤ 140737488351232) :
    RPow (w.setCell ⟨b, 4, none⟩ v) b (b :: v.ownBlock.toList) (s.failOn l) := by
  obtain ⟨A, c, H, h1, h2, rfl, h3, h4, h5, h6, h7, h8⟩ := h
  have hlt := fun g => hv.lt (b := g)
  obtain ⟨A', c', rfl, _, hat, hx⟩ := hv.read
  have hbl : ∀ x, A' = some x → (Value.slice A' l.length c').ownBlock = some x.block := fun x e => by
    rw [e, (hx x e).2]; rfl
  have hi : Ints (w.setCell ⟨b, 4, none⟩ (.slice A' l.length c')) A' l := by
    refine (kInt_ints hat).only ((Only.refl [b] w).setCell (by simp) _) (fun x e _ => ?_)
    simpa using hb _ (hbl x e)
  refine ⟨A', c', _, h1.set 4 (.slice A' l.length c'), hi, rfl, ?_, ?_, ?_, h6, h7, hl⟩
  · intro hm
    rw [Option.mem_toList] at hm
    exact hb _ hm rfl
  · intro x e _
    rw [Option.mem_toList]
    exact hbl x e
  · intro x hm
    rw [Option.mem_toList] at hm
    have := (hlt x hm).2
    simpa [World.setCell] using this

set_option maxHeartbeats 400000 in
theorem rpow_new (w : World) : Calls Try.prog 16 #[] w (Ret fun v w' => ∃ b, v = .pointer (some ⟨b, 0, none⟩) ∧ w.heap.size ≤ b ∧ b < w'.heap.size ∧ RPow w' b [b] PS.new ∧ Below w.heap.size w w') := by
  go_enter Try.func16, Try.ntmps16
  go_wp2_with fail
  go_ret
  exact Ret.mk ⟨w.heap.size, rfl, Nat.le_refl _, by simp, ⟨none, 0, [], Blk.new w _ _, Or.inl rfl, rfl, by simp, by simp, by simp, by decide, by decide, by decide⟩, below_alloc w _⟩

set_option maxHeartbeats 400000 in
theorem rpow_cut (b : Nat) (F : List Nat) (s : PS) (n : Int) (k : UInt8) (w : World) (h : RPow w b F s) (hn : n ≤ 9223372036854775807) :
    Calls Try.prog 19 #[.pointer (some ⟨b, 0, none⟩), .int .i64 n, .int .u8 (k.toNat : Int)] w fun e w' => e = .returned (.tuple #[]) ∧ RPow w' b F (s.cut n k) ∧ Only [b] w w' := by
  obtain ⟨A, c, H, hb, hi, rfl, hnb, hA, hHl, hl1, hl2, hl3⟩ := h
  have c1 := hb.cell 1 _ rfl
  have c2 := hb.cell 2 _ rfl
  have f1 := hb.frz 1
  have f2 := hb.frz 2
  have ho : Only [b] w ((w.setCell ⟨b, 1, none⟩ (.int .i64 (max n (-1)))).setCell ⟨b, 2, none⟩ (.int .u8 (k.toNat : Int))) := ((Only.refl [b] w).setCell (by simp) _).setCell (by simp) _
  have hp : RPow ((w.setCell ⟨b, 1, none⟩ (.int .i64 (max n (-1)))).setCell ⟨b, 2, none⟩ (.int .u8 (k.toNat : Int))) b (b :: H) (s.cut n k) :=
    ⟨A, c, H, (hb.set 1 (.int .i64 (max n (-1)))).set 2 (.int .u8 (k.toNat : Int)), hi.only ho (fun x hx h0 => by simp; rintro rfl; exact hnb (hA x hx h0)), rfl, hnb, hA, fun x hx => Nat.lt_of_lt_of_le (hHl x hx) ho.size, by show -1 ≤ max n (-1); omega, by show max n (-1) ≤ _; omega, hl3⟩
  have HP := Lib.hid hp
  have HO := Lib.hid ho
  clear hp ho hi
  by_cases hn1 : -1 < n
  · have hm : max n (-1) = n := by omega
    rw [hm] at HP HO
    clear hm
    go_enter Try.func19, Try.ntmps19
    go_wp2_with fail
    go_end0
    exact ⟨rfl, HP.out, HO.out⟩
  · have hm : max n (-1) = -1 := by omega
    rw [hm] at HP HO
    clear hm
    go_enter Try.func19, Try.ntmps19
    go_wp2_with fail
    go_end0
    exact ⟨rfl, HP.out, HO.out⟩

set_option maxHeartbeats 400000 in
theorem rpow_on (b : Nat) (F : List Nat) (s : PS) (w : World) (h : RPow w b F s) :
    Calls Try.prog 22 #[.pointer (some ⟨b, 0, none⟩)] w fun e w' => e = .returned (.tuple #[]) ∧ RPow w' b F s.on ∧ Only [b] w w' := by
  obtain ⟨A, c, H, hb, hi, rfl, hnb, hA, hHl, hl1, hl2, hl3⟩ := h
  have c1 := hb.cell 1 _ rfl
  have c0 := hb.cell 0 _ rfl
  have f1 := hb.frz 1
  have f0 := hb.frz 0
  have ho : Only [b] w ((w.setCell ⟨b, 0, none⟩ (.bool false)).setCell ⟨b, 1, none⟩ (.int .i64 (-1))) := ((Only.refl [b] w).setCell (by simp) _).setCell (by simp) _
  have hp : RPow ((w.setCell ⟨b, 0, none⟩ (.bool false)).setCell ⟨b, 1, none⟩ (.int .i64 (-1))) b (b :: H) s.on :=
    ⟨A, c, H, (hb.set 0 (.bool false)).set 1 (.int .i64 (-1)), hi.only ho (fun x hx h0 => by simp; rintro rfl; exact hnb (hA x hx h0)), rfl, hnb, hA, fun x hx => Nat.lt_of_lt_of_le (hHl x hx) ho.size, by show (-1 : Int) ≤ -1; omega, by show (-1 : Int) ≤ _; omega, hl3⟩
  have HP := Lib.hid hp
  have HO := Lib.hid ho
  clear hp ho hi
  go_enter Try.func22, Try.ntmps22
  go_wp2_with fail
  go_end0
  exact ⟨rfl, HP.out, HO.out⟩

set_option maxHeartbeats 400000 in
theorem rpow_step (b : Nat) (F : List Nat) (s : PS) (w : World) (h : RPow w b F s) (hd : s.done ≤ 1000000000000) :
    Calls Try.prog 24 #[.pointer (some ⟨b, 0, none⟩)] w fun e w' => e = .returned (.tuple #[.bool s.did, .bool s.torn]) ∧ RPow w' b F s.next ∧ Only [b] w w' := by
  obtain ⟨A, c, H, hb, hi, rfl, hnb, hA, hHl, hl1, hl2, hl3⟩ := h
  rcases s with ⟨left, mask, off, fails, done⟩
  simp only at hd hl1 hl2 hl3 hi hb
  have c0 : w.cell? ⟨b, 0, none⟩ = some (.bool off) := hb.cell 0 _ rfl
  have c1 : w.cell? ⟨b, 1, none⟩ = some (.int .i64 left) := hb.cell 1 _ rfl
  have c3 : w.cell? ⟨b, 3, none⟩ = some (.int .i64 (done : Int)) := hb.cell 3 _ rfl
  have f0 := hb.frz 0
  have f1 := hb.frz 1
  have f3 := hb.frz 3
  have hAb : ∀ x, A = some x → 0 < fails.length → x.block ∉ [b] := fun x hx h0 => by simp; rintro rfl; exact hnb (hA x hx h0)
  cases off with
  | true =>
    have HP := Lib.hid (show RPow w b (b :: H) ⟨left, mask, true, fails, done⟩ from ⟨A, c, H, hb, hi, rfl, hnb, hA, hHl, hl1, hl2, hl3⟩)
    clear hb hi hAb
    go_enter Try.func24, Try.ntmps24
    go_wp2_with fail
    go_ret2
    exact ⟨rfl, HP.out, Only.refl _ _⟩
  | false =>
    by_cases h0 : left = 0
    · subst h0
      have ho : Only [b] w (w.setCell ⟨b, 0, none⟩ (.bool true)) := (Only.refl [b] w).setCell (by simp) _
      have HP := Lib.hid (show RPow (w.setCell ⟨b, 0, none⟩ (.bool true)) b (b :: H) ⟨0, mask, true, fails, done⟩ from ⟨A, c, H, hb.set 0 (.bool true), hi.only ho hAb, rfl, hnb, hA, fun x hx => Nat.lt_of_lt_of_le (hHl x hx) ho.size, hl1, hl2, hl3⟩)
      have HO := Lib.hid ho
      clear hb hi hAb ho
      go_enter Try.func24, Try.ntmps24
      go_wp2_with fail
      go_ret2
      exact ⟨rfl, HP.out, HO.out⟩
    · have hdid : PS.did ⟨left, mask, false, fails, done⟩ = true := by simp [PS.did, h0]
      have htorn : PS.torn ⟨left, mask, false, fails, done⟩ = false := by simp [PS.torn, h0]
      by_cases hp : 0 < left
      · have hnext : PS.next ⟨left, mask, false, fails, done⟩ = ⟨left - 1, mask, false, fails, done + 1⟩ := by simp [PS.next, h0, hp]
        have hz : (left == 0) = false := by simpa using h0
        rw [hdid, htorn, hnext]
        have ho : Only [b] w ((w.setCell ⟨b, 1, none⟩ (.int .i64 (left - 1))).setCell ⟨b, 3, none⟩ (.int .i64 ((done : Int) + 1))) := ((Only.refl [b] w).setCell (by simp) _).setCell (by simp) _
        have HP := Lib.hid (show RPow ((w.setCell ⟨b, 1, none⟩ (.int .i64 (left - 1))).setCell ⟨b, 3, none⟩ (.int .i64 ((done : Int) + 1))) b (b :: H) ⟨left - 1, mask, false, fails, done + 1⟩ from
          ⟨A, c, H, (hb.set 1 (.int .i64 (left - 1))).set 3 (.int .i64 ((done : Int) + 1)), hi.only ho hAb, rfl, hnb, hA, fun x hx => Nat.lt_of_lt_of_le (hHl x hx) ho.size, by show -1 ≤ left - 1; omega, by show left - 1 ≤ _; omega, hl3⟩)
        have HO := Lib.hid ho
        clear hb hi hAb ho hdid htorn hnext
        go_enter Try.func24, Try.ntmps24
        go_wp2_with fail
        go_ret2
        exact ⟨rfl, HP.out, HO.out⟩
      · have hnext : PS.next ⟨left, mask, false, fails, done⟩ = ⟨left, mask, false, fails, done + 1⟩ := by simp [PS.next, h0, hp]
        have hz : (left == 0) = false := by simpa using h0
        rw [hdid, htorn, hnext]
        have ho : Only [b] w (w.setCell ⟨b, 3, none⟩ (.int .i64 ((done : Int) + 1))) := (Only.refl [b] w).setCell (by simp) _
        have HP := Lib.hid (show RPow (w.setCell ⟨b, 3, none⟩ (.int .i64 ((done : Int) + 1))) b (b :: H) ⟨left, mask, false, fails, done + 1⟩ from
          ⟨A, c, H, hb.set 3 (.int .i64 ((done : Int) + 1)), hi.only ho hAb, rfl, hnb, hA, fun x hx => Nat.lt_of_lt_of_le (hHl x hx) ho.size, hl1, hl2, hl3⟩)
        have HO := Lib.hid ho
        clear hb hi hAb ho hdid htorn hnext
        go_enter Try.func24, Try.ntmps24
        go_wp2_with fail
        go_ret2
        exact ⟨rfl, HP.out, HO.out⟩

theorem retB {a b : Bool} (h : a = b) : Ending.returned (.bool a) = .returned (.bool b) := by rw [h]

set_option maxHeartbeats 400000 in
theorem in_int (A : Option Addr) (c : Nat) (l : List Int) (x : Int) (w : World) (hi : Ints w A l) (hl : l.length ≤ 140737488351232) :
    Calls Try.prog 51 #[.slice A l.length c, .int .i64 x] w fun e w' => e = .returned (.bool (l.contains x)) ∧ w' = w := by
  obtain ⟨q, hq⟩ : ∃ q, l.contains x = q := ⟨_, rfl⟩
  rw [hq]
  have HQ := Lib.hid hq
  clear hq
  go_enter Try.func51, Try.ntmps51
  go_wp2_with fail
  go_loop [5] (fun v5 => ∃ k : Nat, k ≤ l.length ∧ v5 = .int .i64 (k : Int) ∧ Hid ((l.take k).contains x = false)) (fun v5 => l.length - (intOf v5).toNat)
  case atStart => exact ⟨0, Nat.zero_le _, rfl, (by show _ = _; simp)⟩
  case round =>
    obtain ⟨k, hk, rfl, hno⟩ := hrel
    by_cases hlt : k < l.length
    · obtain ⟨b, off, rfl, hcell⟩ := hi.at hlt
      have hlt' : (k : Int) < (l.length : Int) := by omega
      by_cases hx : l[k] = x
      · have hin : l.contains x = true := by rw [List.contains_iff_mem]; exact hx ▸ List.getElem_mem hlt
        have HIN := Lib.hid hin
        have hxx : (l[k] == x) = true := by simpa using hx
        clear hin hx hi
        generalize l[k] = y at *
        go_wp2_with fail
        go_ret
        exact ⟨retB (HIN.out.symm.trans HQ.out), rfl⟩
      · have HN : Hid ((l.take (k + 1)).contains x = false) := by
          show _ = _
          rw [take_snoc_contains l k hlt, hno.out]
          simpa using fun e => hx e.symm
        have hxx : (l[k] == x) = false := by simpa using hx
        clear hx hi hno
        generalize l[k] = y at *
        go_wp2_with fail
        go_round
        case rel => exact ⟨k + 1, by omega, by go_num, HN⟩
        case measure => simp [intOf]; omega
    · obtain rfl : k = l.length := by omega
      have HN := Lib.hid (show l.contains x = false by have := hno.out; rwa [List.take_length] at this)
      clear hno
      go_wp2_with fail
      go_ret
      exact ⟨retB (HN.out.symm.trans HQ.out), rfl⟩

set_option maxHeartbeats 400000 in
theorem rpow_fails (b : Nat) (F : List Nat) (s : PS) (w : World) (h : RPow w b F s) (hd : s.done ≤ 1000000000000) :
    Calls Try.prog 26 #[.pointer (some ⟨b, 0, none⟩)] w fun e w' => e = .returned (.bool s.failing) ∧ ∃ n, w' = w.drewN n := by
  obtain ⟨A, c, H, hb, hi, rfl, hnb, hA, hHl, hl1, hl2, hl3⟩ := h
  rcases s with ⟨left, mask, off, fails, done⟩
  simp only at hd hl1 hl2 hl3 hi hb
  have c3 : w.cell? ⟨b, 3, none⟩ = some (.int .i64 (done : Int)) := hb.cell 3 _ rfl
  have c4 : w.cell? ⟨b, 4, none⟩ = some (.slice A fails.length c) := hb.cell 4 _ rfl
  by_cases h0 : done = 0
  · have hfail : PS.failing ⟨left, mask, off, fails, done⟩ = false := by simp [PS.failing, h0]
    rw [hfail]
    have hz : decide (0 < done) = false := by simp; omega
    clear h0 hfail hi hb
    go_enter Try.func26, Try.ntmps26
    go_wp2_with fail
    go_quiet (fail)
    go_wp2_with fail
    go_ret
    exact ⟨rfl, nq, rfl⟩
  · have hfail : PS.failing ⟨left, mask, off, fails, done⟩ = fails.contains ((done : Int) - 1) := by simp [PS.failing, show 0 < done by omega]
    rw [hfail]
    have hz : decide (0 < done) = true := by simp; omega
    have hw : IntKind.i64.wrap ((done : Int) - 1) = (done : Int) - 1 := IntWalk.i64_in _ (by omega)
    have hin := fun n => in_int A c fails ((done : Int) - 1) (w.drewN n) (hi.only ((Only.refl [] w).drewN n) (by simp)) hl3
    have HIN := Lib.hid hin
    clear hin hi hb hfail
    generalize fails.contains ((done : Int) - 1) = q at *
    go_enter Try.func26, Try.ntmps26
    go_wp2_with fail
    go_quiet ((go_at_call 51; exact Calls.quiet_of_same (HIN.out _)))
    go_wp2_with fail
    go_ret
    exact ⟨rfl, nq, rfl⟩
end Go.Proofs.Ytdieeleaaejfhaa
