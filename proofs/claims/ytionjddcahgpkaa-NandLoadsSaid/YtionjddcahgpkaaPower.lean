/- The contracts of package power: an object as it lies in memory, and what each call makes of it. -/
import Derived.Test.YtionjddcahgpkaaOnly
import Derived.Test.YtionjddcahgpkaaPowerP
import Derived.Test.YtionjddcahgpkaaKinds
import Derived.Outline
import Derived.Deep.QuietTactic
import Derived.BigQuiet
import Derived.Deep.DeepCutAuto
import Derived.Deep.CutBlock
import Derived.IntWalk
set_option linter.unusedVariables false
set_option maxRecDepth 100000
namespace Go.Proofs.Ytionjddcahgpkaa
open Go.RowKit
open Go.Maps (Keyed)

def powCells (s : PS) (m : Option Nat) : List Value := [.int .i64 s.left, .int .u8 (s.mask.toNat : Int), .bool s.off, .map m, .int .i64 (s.done : Int)]

/-- Which steps fail, as the map in the object has them. -/
def FailsAt (w : World) (m : Option Nat) (l : List Int) (G : List Nat) : Prop :=
  (m = none ∧ l = [] ∧ G = []) ∨
  ∃ mb n f, m = some mb ∧ MapIs w Try.prog 88 mb n f ∧ (∀ x, (Lit.int .i64 x).wf = true → (f (.agg #[.int .i64 x])).isSome = l.contains x) ∧ G = [mb]

theorem FailsAt.only {w w' : World} {m : Option Nat} {l : List Int} {G S : List Nat} (h : FailsAt w m l G) (ho : Only S w w') (hn : ∀ x ∈ G, x ∉ S) : FailsAt w' m l G := by
  rcases h with h | ⟨mb, n, f, rfl, h1, h2, rfl⟩
  · exact Or.inl h
  · exact Or.inr ⟨mb, n, f, rfl, h1.only ho (hn mb (by simp)), h2, rfl⟩
theorem FailsAt.lt {w : World} {m : Option Nat} {l : List Int} {G : List Nat} (h : FailsAt w m l G) : ∀ x ∈ G, x < w.heap.size := by
  rcases h with ⟨_, _, rfl⟩ | ⟨mb, n, f, rfl, h1, h2, rfl⟩
  · simp
  · intro x hx; simp at hx; rw [hx]; exact h1.lt

/-- The object at block b, in the blocks of F, is this. -/
def Pow (w : World) (b : Nat) (F : List Nat) (s : PS) : Prop :=
  ∃ m G, Blk w b 74 (powCells s m) ∧ FailsAt w m s.fails G ∧ F = b :: G ∧ b ∉ G ∧ -1 ≤ s.left ∧ s.left ≤ 9223372036854775807

theorem Pow.only {w w' : World} {b : Nat} {F S : List Nat} {s : PS} (h : Pow w b F s) (ho : Only S w w') (hn : ∀ x ∈ F, x ∉ S) : Pow w' b F s := by
  obtain ⟨m, G, h1, h2, rfl, h3⟩ := h
  exact ⟨m, G, h1.only ho (hn b (by simp)), h2.only ho (fun x hx => hn x (by simp [hx])), rfl, h3⟩
theorem Pow.lt {w : World} {b : Nat} {F : List Nat} {s : PS} (h : Pow w b F s) : ∀ x ∈ F, x < w.heap.size := by
  obtain ⟨m, G, h1, h2, rfl, h3⟩ := h
  intro x hx
  rcases List.mem_cons.1 hx with rfl | hx
  · exact h1.lt
  · exact h2.lt x hx
theorem Pow.below {w w' : World} {b : Nat} {F : List Nat} {s : PS} (h : Pow w b F s) (hb : Below w.heap.size w w') : Pow w' b F s :=
  h.only (Only.of_below hb []) (fun x _ => by simp)

set_option maxHeartbeats 400000 in
theorem pow_new (w : World) : Calls Try.prog 9 #[] w (Ret fun v w' => ∃ b, v = .pointer (some ⟨b, 0, none⟩) ∧ w.heap.size ≤ b ∧ b < w'.heap.size ∧ Pow w' b [b] PS.new ∧ Below w.heap.size w w') := by
  go_enter Try.func9, Try.ntmps9
  go_wp2_with fail
  go_ret
  exact Ret.mk ⟨w.heap.size, rfl, Nat.le_refl _, by simp, ⟨none, [], Blk.new w (powCells PS.new none) _, Or.inl ⟨rfl, rfl, rfl⟩, rfl, by simp, by decide, by decide⟩, below_alloc w _⟩

set_option maxHeartbeats 400000 in
theorem pow_cut (b : Nat) (F : List Nat) (s : PS) (n : Int) (k : UInt8) (w : World) (h : Pow w b F s) (hn : n ≤ 9223372036854775807) :
    Calls Try.prog 18 #[.pointer (some ⟨b, 0, none⟩), .int .i64 n, .int .u8 (k.toNat : Int)] w fun e w' => e = .returned (.tuple #[]) ∧ Pow w' b F (s.cut n k) ∧ Only [b] w w' := by
  obtain ⟨m, G, hb, hf, rfl, hnb, hl1, hl2⟩ := h
  have c0 := hb.cell 0 _ rfl
  have c1 := hb.cell 1 _ rfl
  have f0 := hb.frz 0
  have f1 := hb.frz 1
  go_enter Try.func18, Try.ntmps18
  have ho : Only [b] w ((w.setCell ⟨b, 0, none⟩ (.int .i64 (max n (-1)))).setCell ⟨b, 1, none⟩ (.int .u8 (k.toNat : Int))) := ((Only.refl [b] w).setCell (by simp) _).setCell (by simp) _
  have hp : Pow ((w.setCell ⟨b, 0, none⟩ (.int .i64 (max n (-1)))).setCell ⟨b, 1, none⟩ (.int .u8 (k.toNat : Int))) b (b :: G) (s.cut n k) :=
    ⟨m, G, (hb.set 0 (.int .i64 (max n (-1)))).set 1 (.int .u8 (k.toNat : Int)), hf.only ho (fun x hx => by simp; rintro rfl; exact hnb hx), rfl, hnb, by show -1 ≤ max n (-1); omega, by show max n (-1) ≤ _; omega⟩
  have HP := Lib.hid hp
  have HO := Lib.hid ho
  clear hp ho
  by_cases hn1 : n < -1
  · have hm : max n (-1) = -1 := by omega
    rw [hm] at HP HO
    clear hm
    go_wp2_with fail
    go_end0
    exact ⟨rfl, HP.out, HO.out⟩
  · have hm : max n (-1) = n := by omega
    rw [hm] at HP HO
    clear hm
    go_wp2_with fail
    go_end0
    exact ⟨rfl, HP.out, HO.out⟩

set_option maxHeartbeats 400000 in
theorem pow_on (b : Nat) (F : List Nat) (s : PS) (w : World) (h : Pow w b F s) :
    Calls Try.prog 20 #[.pointer (some ⟨b, 0, none⟩)] w fun e w' => e = .returned (.tuple #[]) ∧ Pow w' b F s.on ∧ Only [b] w w' := by
  obtain ⟨m, G, hb, hf, rfl, hnb, hl1, hl2⟩ := h
  have c0 := hb.cell 0 _ rfl
  have c2 := hb.cell 2 _ rfl
  have f0 := hb.frz 0
  have f2 := hb.frz 2
  have ho : Only [b] w ((w.setCell ⟨b, 2, none⟩ (.bool false)).setCell ⟨b, 0, none⟩ (.int .i64 (-1))) := ((Only.refl [b] w).setCell (by simp) _).setCell (by simp) _
  have hp : Pow ((w.setCell ⟨b, 2, none⟩ (.bool false)).setCell ⟨b, 0, none⟩ (.int .i64 (-1))) b (b :: G) s.on :=
    ⟨m, G, (hb.set 2 (.bool false)).set 0 (.int .i64 (-1)), hf.only ho (fun x hx => by simp; rintro rfl; exact hnb hx), rfl, hnb, by show (-1 : Int) ≤ -1; omega, by show (-1 : Int) ≤ _; omega⟩
  have HP := Lib.hid hp
  have HO := Lib.hid ho
  clear hp ho
  go_enter Try.func20, Try.ntmps20
  go_wp2_with fail
  go_end0
  exact ⟨rfl, HP.out, HO.out⟩

set_option maxHeartbeats 400000 in
theorem pow_mask (b : Nat) (F : List Nat) (s : PS) (w : World) (h : Pow w b F s) :
    Calls Try.prog 43 #[.pointer (some ⟨b, 0, none⟩)] w fun e w' => e = .returned (.int .u8 (s.mask.toNat : Int)) ∧ w = w' := by
  obtain ⟨m, G, hb, hf, rfl, hnb, hl1, hl2⟩ := h
  have c1 := hb.cell 1 _ rfl
  go_enter Try.func43, Try.ntmps43
  go_wp2_with fail
  go_ret
  exact ⟨rfl, rfl⟩

set_option maxHeartbeats 400000 in
theorem pow_steps (b : Nat) (F : List Nat) (s : PS) (w : World) (h : Pow w b F s) :
    Calls Try.prog 21 #[.pointer (some ⟨b, 0, none⟩)] w fun e w' => e = .returned (.int .i64 (s.done : Int)) ∧ w = w' := by
  obtain ⟨m, G, hb, hf, rfl, hnb, hl1, hl2⟩ := h
  have c4 := hb.cell 4 _ rfl
  go_enter Try.func21, Try.ntmps21
  go_wp2_with fail
  go_ret
  exact ⟨rfl, rfl⟩

set_option maxHeartbeats 400000 in
theorem pow_step (b : Nat) (F : List Nat) (s : PS) (w : World) (h : Pow w b F s) (hd : s.done ≤ 1000000000000) :
    Calls Try.prog 41 #[.pointer (some ⟨b, 0, none⟩)] w fun e w' => e = .returned (.tuple #[.bool s.did, .bool s.torn]) ∧ Pow w' b F s.next ∧ Only [b] w w' := by
  obtain ⟨m, G, hb, hf, rfl, hnb, hl1, hl2⟩ := h
  rcases s with ⟨left, mask, off, fails, done⟩
  simp only at hd hl1 hl2 hf
  have c0 : w.cell? ⟨b, 0, none⟩ = some (.int .i64 left) := hb.cell 0 _ rfl
  have c2 : w.cell? ⟨b, 2, none⟩ = some (.bool off) := hb.cell 2 _ rfl
  have c4 : w.cell? ⟨b, 4, none⟩ = some (.int .i64 (done : Int)) := hb.cell 4 _ rfl
  have f0 := hb.frz 0
  have f2 := hb.frz 2
  have f4 := hb.frz 4
  have hnG : ∀ x ∈ G, x ∉ [b] := fun x hx => by simp; rintro rfl; exact hnb hx
  cases off with
  | true =>
    have HP := Lib.hid (show Pow w b (b :: G) ⟨left, mask, true, fails, done⟩ from ⟨m, G, hb, hf, rfl, hnb, hl1, hl2⟩)
    clear hb hf hnG
    go_enter Try.func41, Try.ntmps41
    go_wp2_with fail
    go_ret2
    exact ⟨rfl, HP.out, Only.refl _ _⟩
  | false =>
    by_cases h0 : left = 0
    · subst h0
      have ho : Only [b] w (w.setCell ⟨b, 2, none⟩ (.bool true)) := (Only.refl [b] w).setCell (by simp) _
      have HP := Lib.hid (show Pow (w.setCell ⟨b, 2, none⟩ (.bool true)) b (b :: G) ⟨0, mask, true, fails, done⟩ from ⟨m, G, hb.set 2 (.bool true), hf.only ho hnG, rfl, hnb, hl1, hl2⟩)
      have HO := Lib.hid ho
      clear hb hf hnG ho
      go_enter Try.func41, Try.ntmps41
      go_wp2_with fail
      go_ret2
      exact ⟨rfl, HP.out, HO.out⟩
    · have hdid : PS.did ⟨left, mask, false, fails, done⟩ = true := by simp [PS.did, h0]
      have htorn : PS.torn ⟨left, mask, false, fails, done⟩ = false := by simp [PS.torn, h0]
      by_cases hp : 0 < left
      · have hnext : PS.next ⟨left, mask, false, fails, done⟩ = ⟨left - 1, mask, false, fails, done + 1⟩ := by simp [PS.next, h0, hp]
        have hz : (left == 0) = false := by simpa using h0
        rw [hdid, htorn, hnext]
        have ho : Only [b] w ((w.setCell ⟨b, 0, none⟩ (.int .i64 (left - 1))).setCell ⟨b, 4, none⟩ (.int .i64 ((done : Int) + 1))) := ((Only.refl [b] w).setCell (by simp) _).setCell (by simp) _
        have HP := Lib.hid (show Pow ((w.setCell ⟨b, 0, none⟩ (.int .i64 (left - 1))).setCell ⟨b, 4, none⟩ (.int .i64 ((done : Int) + 1))) b (b :: G) ⟨left - 1, mask, false, fails, done + 1⟩ from
          ⟨m, G, (hb.set 0 (.int .i64 (left - 1))).set 4 (.int .i64 ((done : Int) + 1)), hf.only ho hnG, rfl, hnb, by show -1 ≤ left - 1; omega, by show left - 1 ≤ _; omega⟩)
        have HO := Lib.hid ho
        clear hb hf hnG ho hdid htorn hnext
        go_enter Try.func41, Try.ntmps41
        go_wp2_with fail
        go_ret2
        exact ⟨rfl, HP.out, HO.out⟩
      · have hnext : PS.next ⟨left, mask, false, fails, done⟩ = ⟨left, mask, false, fails, done + 1⟩ := by simp [PS.next, h0, hp]
        have hz : (left == 0) = false := by simpa using h0
        rw [hdid, htorn, hnext]
        have ho : Only [b] w (w.setCell ⟨b, 4, none⟩ (.int .i64 ((done : Int) + 1))) := (Only.refl [b] w).setCell (by simp) _
        have HP := Lib.hid (show Pow (w.setCell ⟨b, 4, none⟩ (.int .i64 ((done : Int) + 1))) b (b :: G) ⟨left, mask, false, fails, done + 1⟩ from
          ⟨m, G, hb.set 4 (.int .i64 ((done : Int) + 1)), hf.only ho hnG, rfl, hnb, hl1, hl2⟩)
        have HO := Lib.hid ho
        clear hb hf hnG ho hdid htorn hnext
        go_enter Try.func41, Try.ntmps41
        go_wp2_with fail
        go_ret2
        exact ⟨rfl, HP.out, HO.out⟩

end Go.Proofs.Ytionjddcahgpkaa
