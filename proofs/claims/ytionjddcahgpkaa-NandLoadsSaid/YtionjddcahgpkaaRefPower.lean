/- The contracts of the reference's power. -/
import Derived.Test.YtionjddcahgpkaaPower
set_option linter.unusedVariables false
set_option maxRecDepth 100000
namespace Go.Proofs.Ytionjddcahgpkaa
open Go.RowKit

/-- The reference's object at block b, in the blocks of G, is this. -/
def RPow (w : World) (b : Nat) (G : List Nat) (s : PS) : Prop :=
  ∃ A c H, Blk w b 56 [.bool s.off, .int .i64 s.left, .int .u8 (s.mask.toNat : Int), .int .i64 (s.done : Int), .slice A s.fails.length c] ∧ Ints w A s.fails ∧
    G = b :: H ∧ b ∉ H ∧ (∀ x, A = some x → 0 < s.fails.length → x.block ∈ H) ∧ (∀ x ∈ H, x < w.heap.size) ∧ -1 ≤ s.left ∧ s.left ≤ 9223372036854775807 ∧ s.fails.length ≤ 140737488351232

theorem RPow.only {w w' : World} {b : Nat} {F S : List Nat} {s : PS} (h : RPow w b F s) (ho : Only S w w') (hn : ∀ x ∈ F, x ∉ S) : RPow w' b F s := by
  obtain ⟨A, c, H, h1, h2, rfl, h3, h4, h5, h6⟩ := h
  exact ⟨A, c, H, h1.only ho (hn b (by simp)), h2.only ho (fun x hx h0 => hn x.block (by simp [h4 x hx h0])), rfl, h3, h4, fun x hx => Nat.lt_of_lt_of_le (h5 x hx) ho.size, h6⟩
theorem RPow.below {w w' : World} {b : Nat} {F : List Nat} {s : PS} (h : RPow w b F s) (hb : Below w.heap.size w w') : RPow w' b F s :=
  h.only (Only.of_below hb []) (fun x _ => by simp)
theorem RPow.lt {w : World} {b : Nat} {F : List Nat} {s : PS} (h : RPow w b F s) : ∀ x ∈ F, x < w.heap.size := by
  obtain ⟨A, c, H, h1, h2, rfl, h3, h4, h5, h6⟩ := h
  intro x hx
  rcases List.mem_cons.1 hx with rfl | hx
  · exact h1.lt
  · exact h5 x hx
theorem RPow.mem {w : World} {b : Nat} {F : List Nat} {s : PS} (h : RPow w b F s) : b ∈ F := by
  obtain ⟨A, c, H, h1, h2, rfl, h3⟩ := h
  simp
theorem RPow.blk {w : World} {b : Nat} {F : List Nat} {s : PS} (h : RPow w b F s) : ∃ A c, Blk w b 56 [.bool s.off, .int .i64 s.left, .int .u8 (s.mask.toNat : Int), .int .i64 (s.done : Int), .slice A s.fails.length c] := by
  obtain ⟨A, c, H, h1, _⟩ := h
  exact ⟨A, c, h1⟩

/-- Other numbers of steps that fail, in a row of the call's own. -/
theorem RPow.which {w : World} {b B : Nat} {G : List Nat} {s : PS} {v : Value} {l : List Int} (h : RPow w b G s) (hv : kInt.Own w B v l) (hb : ∀ g, v.ownBlock = some g → g ≠ b) (hl : l.length ≤ 140737488351232) :
    RPow (w.setCell ⟨b, 4, none⟩ v) b (b :: v.ownBlock.toList) (s.failOn l) := by
  obtain ⟨A, c, H, h1, h2, rfl, h3, h4, h5, h6, h7, h8⟩ := h
  have hlt := fun g => hv.lt (b := g)
  obtain ⟨A', c', rfl, _, hat, hx⟩ := hv.read
  have hbl : ∀ x, A' = some x → (Value.slice A' l.length c').ownBlock = some x.block := fun x e => by
    rw [e, (hx x e).2]; rfl
  have hi : Ints (w.setCell ⟨b, 4, none⟩ (.slice A' l.length c')) A' l := by
    refine (kInt_ints hat).only ((Only.refl [b] w).setCell (by simp) _) (fun x e _ => ?_)
    simpa using hb _ (hbl x e)
  refine ⟨A', c', _, h1.set 4 (.slice A' l.length c'), hi, rfl, ?_, ?_, ?_, h6, h7, hl⟩
  · intro hm
    rw [Option.mem_toList] at hm
    exact hb _ hm rfl
  · intro x e _
    rw [Option.mem_toList]
    exact hbl x e
  · intro x hm
    rw [Option.mem_toList] at hm
    have := (hlt x hm).2
    simpa [World.setCell] using this

set_option maxHeartbeats 400000 in
theorem rpow_new (w : World) : Calls Try.prog 23 #[] w (Ret fun v w' => ∃ b, v = .pointer (some ⟨b, 0, none⟩) ∧ w.heap.size ≤ b ∧ b < w'.heap.size ∧ RPow w' b [b] PS.new ∧ Below w.heap.size w w') := by
  go_enter Try.func23, Try.ntmps23
  go_wp2_with fail
  go_ret
  exact Ret.mk ⟨w.heap.size, rfl, Nat.le_refl _, by simp, ⟨none, 0, [], Blk.new w _ _, Or.inl rfl, rfl, by simp, by simp, by simp, by decide, by decide, by decide⟩, below_alloc w _⟩

set_option maxHeartbeats 400000 in
theorem rpow_cut (b : Nat) (F : List Nat) (s : PS) (n : Int) (k : UInt8) (w : World) (h : RPow w b F s) (hn : n ≤ 9223372036854775807) :
    Calls Try.prog 28 #[.pointer (some ⟨b, 0, none⟩), .int .i64 n, .int .u8 (k.toNat : Int)] w fun e w' => e = .returned (.tuple #[]) ∧ RPow w' b F (s.cut n k) ∧ Only [b] w w' := by
  obtain ⟨A, c, H, hb, hi, rfl, hnb, hA, hHl, hl1, hl2, hl3⟩ := h
  have c1 := hb.cell 1 _ rfl
  have c2 := hb.cell 2 _ rfl
  have f1 := hb.frz 1
  have f2 := hb.frz 2
  have ho : Only [b] w ((w.setCell ⟨b, 1, none⟩ (.int .i64 (max n (-1)))).setCell ⟨b, 2, none⟩ (.int .u8 (k.toNat : Int))) := ((Only.refl [b] w).setCell (by simp) _).setCell (by simp) _
  have hp : RPow ((w.setCell ⟨b, 1, none⟩ (.int .i64 (max n (-1)))).setCell ⟨b, 2, none⟩ (.int .u8 (k.toNat : Int))) b (b :: H) (s.cut n k) :=
    ⟨A, c, H, (hb.set 1 (.int .i64 (max n (-1)))).set 2 (.int .u8 (k.toNat : Int)), hi.only ho (fun x hx h0 => by simp; rintro rfl; exact hnb (hA x hx h0)), rfl, hnb, hA, fun x hx => Nat.lt_of_lt_of_le (hHl x hx) ho.size, by show -1 ≤ max n (-1); omega, by show max n (-1) ≤ _; omega, hl3⟩
  have HP := Lib.hid hp
  have HO := Lib.hid ho
  clear hp ho hi
  by_cases hn1 : -1 < n
  · have hm : max n (-1) = n := by omega
    rw [hm] at HP HO
    clear hm
    go_enter Try.func28, Try.ntmps28
    go_wp2_with fail
    go_end0
    exact ⟨rfl, HP.out, HO.out⟩
  · have hm : max n (-1) = -1 := by omega
    rw [hm] at HP HO
    clear hm
    go_enter Try.func28, Try.ntmps28
    go_wp2_with fail
    go_end0
    exact ⟨rfl, HP.out, HO.out⟩

set_option maxHeartbeats 400000 in
theorem rpow_on (b : Nat) (F : List Nat) (s : PS) (w : World) (h : RPow w b F s) :
    Calls Try.prog 29 #[.pointer (some ⟨b, 0, none⟩)] w fun e w' => e = .returned (.tuple #[]) ∧ RPow w' b F s.on ∧ Only [b] w w' := by
  obtain ⟨A, c, H, hb, hi, rfl, hnb, hA, hHl, hl1, hl2, hl3⟩ := h
  have c1 := hb.cell 1 _ rfl
  have c0 := hb.cell 0 _ rfl
  have f1 := hb.frz 1
  have f0 := hb.frz 0
  have ho : Only [b] w ((w.setCell ⟨b, 0, none⟩ (.bool false)).setCell ⟨b, 1, none⟩ (.int .i64 (-1))) := ((Only.refl [b] w).setCell (by simp) _).setCell (by simp) _
  have hp : RPow ((w.setCell ⟨b, 0, none⟩ (.bool false)).setCell ⟨b, 1, none⟩ (.int .i64 (-1))) b (b :: H) s.on :=
    ⟨A, c, H, (hb.set 0 (.bool false)).set 1 (.int .i64 (-1)), hi.only ho (fun x hx h0 => by simp; rintro rfl; exact hnb (hA x hx h0)), rfl, hnb, hA, fun x hx => Nat.lt_of_lt_of_le (hHl x hx) ho.size, by show (-1 : Int) ≤ -1; omega, by show (-1 : Int) ≤ _; omega, hl3⟩
  have HP := Lib.hid hp
  have HO := Lib.hid ho
  clear hp ho hi
  go_enter Try.func29, Try.ntmps29
  go_wp2_with fail
  go_end0
  exact ⟨rfl, HP.out, HO.out⟩

set_option maxHeartbeats 400000 in
theorem rpow_step (b : Nat) (F : List Nat) (s : PS) (w : World) (h : RPow w b F s) (hd : s.done ≤ 1000000000000) :
    Calls Try.prog 53 #[.pointer (some ⟨b, 0, none⟩)] w fun e w' => e = .returned (.tuple #[.bool s.did, .bool s.torn]) ∧ RPow w' b F s.next ∧ Only [b] w w' := by
  obtain ⟨A, c, H, hb, hi, rfl, hnb, hA, hHl, hl1, hl2, hl3⟩ := h
  rcases s with ⟨left, mask, off, fails, done⟩
  simp only at hd hl1 hl2 hl3 hi hb
  have c0 : w.cell? ⟨b, 0, none⟩ = some (.bool off) := hb.cell 0 _ rfl
  have c1 : w.cell? ⟨b, 1, none⟩ = some (.int .i64 left) := hb.cell 1 _ rfl
  have c3 : w.cell? ⟨b, 3, none⟩ = some (.int .i64 (done : Int)) := hb.cell 3 _ rfl
  have f0 := hb.frz 0
  have f1 := hb.frz 1
  have f3 := hb.frz 3
  have hAb : ∀ x, A = some x → 0 < fails.length → x.block ∉ [b] := fun x hx h0 => by simp; rintro rfl; exact hnb (hA x hx h0)
  cases off with
  | true =>
    have HP := Lib.hid (show RPow w b (b :: H) ⟨left, mask, true, fails, done⟩ from ⟨A, c, H, hb, hi, rfl, hnb, hA, hHl, hl1, hl2, hl3⟩)
    clear hb hi hAb
    go_enter Try.func53, Try.ntmps53
    go_wp2_with fail
    go_ret2
    exact ⟨rfl, HP.out, Only.refl _ _⟩
  | false =>
    by_cases h0 : left = 0
    · subst h0
      have ho : Only [b] w (w.setCell ⟨b, 0, none⟩ (.bool true)) := (Only.refl [b] w).setCell (by simp) _
      have HP := Lib.hid (show RPow (w.setCell ⟨b, 0, none⟩ (.bool true)) b (b :: H) ⟨0, mask, true, fails, done⟩ from ⟨A, c, H, hb.set 0 (.bool true), hi.only ho hAb, rfl, hnb, hA, fun x hx => Nat.lt_of_lt_of_le (hHl x hx) ho.size, hl1, hl2, hl3⟩)
      have HO := Lib.hid ho
      clear hb hi hAb ho
      go_enter Try.func53, Try.ntmps53
      go_wp2_with fail
      go_ret2
      exact ⟨rfl, HP.out, HO.out⟩
    · have hdid : PS.did ⟨left, mask, false, fails, done⟩ = true := by simp [PS.did, h0]
      have htorn : PS.torn ⟨left, mask, false, fails, done⟩ = false := by simp [PS.torn, h0]
      by_cases hp : 0 < left
      · have hnext : PS.next ⟨left, mask, false, fails, done⟩ = ⟨left - 1, mask, false, fails, done + 1⟩ := by simp [PS.next, h0, hp]
        have hz : (left == 0) = false := by simpa using h0
        rw [hdid, htorn, hnext]
        have ho : Only [b] w ((w.setCell ⟨b, 1, none⟩ (.int .i64 (left - 1))).setCell ⟨b, 3, none⟩ (.int .i64 ((done : Int) + 1))) := ((Only.refl [b] w).setCell (by simp) _).setCell (by simp) _
        have HP := Lib.hid (show RPow ((w.setCell ⟨b, 1, none⟩ (.int .i64 (left - 1))).setCell ⟨b, 3, none⟩ (.int .i64 ((done : Int) + 1))) b (b :: H) ⟨left - 1, mask, false, fails, done + 1⟩ from
          ⟨A, c, H, (hb.set 1 (.int .i64 (left - 1))).set 3 (.int .i64 ((done : Int) + 1)), hi.only ho hAb, rfl, hnb, hA, fun x hx => Nat.lt_of_lt_of_le (hHl x hx) ho.size, by show -1 ≤ left - 1; omega, by show left - 1 ≤ _; omega, hl3⟩)
        have HO := Lib.hid ho
        clear hb hi hAb ho hdid htorn hnext
        go_enter Try.func53, Try.ntmps53
        go_wp2_with fail
        go_ret2
        exact ⟨rfl, HP.out, HO.out⟩
      · have hnext : PS.next ⟨left, mask, false, fails, done⟩ = ⟨left, mask, false, fails, done + 1⟩ := by simp [PS.next, h0, hp]
        have hz : (left == 0) = false := by simpa using h0
        rw [hdid, htorn, hnext]
        have ho : Only [b] w (w.setCell ⟨b, 3, none⟩ (.int .i64 ((done : Int) + 1))) := (Only.refl [b] w).setCell (by simp) _
        have HP := Lib.hid (show RPow (w.setCell ⟨b, 3, none⟩ (.int .i64 ((done : Int) + 1))) b (b :: H) ⟨left, mask, false, fails, done + 1⟩ from
          ⟨A, c, H, hb.set 3 (.int .i64 ((done : Int) + 1)), hi.only ho hAb, rfl, hnb, hA, fun x hx => Nat.lt_of_lt_of_le (hHl x hx) ho.size, hl1, hl2, hl3⟩)
        have HO := Lib.hid ho
        clear hb hi hAb ho hdid htorn hnext
        go_enter Try.func53, Try.ntmps53
        go_wp2_with fail
        go_ret2
        exact ⟨rfl, HP.out, HO.out⟩

end Go.Proofs.Ytionjddcahgpkaa
