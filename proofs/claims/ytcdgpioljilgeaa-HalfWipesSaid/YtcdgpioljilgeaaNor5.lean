/- Other bytes for a chip; a nil chip. -/
import Derived.Test.YtcdgpioljilgeaaNor4
set_option linter.unusedVariables false
set_option maxRecDepth 100000
set_option linter.unusedSimpArgs false
namespace Go.Proofs.Ytcdgpioljilgeaa
open Go.RowKit

section
variable {w : World} {cb bb mb : Nat} {pp : Option Addr} {g : Geo} {l : List UInt8} {N : Nat} {cnt : Int → Int}

set_option maxHeartbeats 1000000 in
theorem nor_load_bad (h : Chip w cb bb mb pp g l N cnt) (A : Option Addr) (n c : Nat) (hn : n ≠ l.length) (hn2 : n ≤ 9223372036854775807) :
    Calls Try.prog 27 #[.pointer (some ⟨cb, 0, none⟩), .slice A n c] w fun e w' => e = .returned (.int .i64 1) ∧ w = w' := by
  have c6 := h.blk.cell 6 _ rfl
  have hz := h.size
  have h1 : ((n : Int) == (l.length : Int)) = false := by simp; omega
  have h2 : ¬ (n : Int) = (l.length : Int) := by omega
  go_enter Try.func27, Try.ntmps27
  go_wp2_with fail
  go_ret
  exact ⟨rfl, rfl⟩

set_option maxHeartbeats 1000000 in
theorem nor_load (h : Chip w cb bb mb pp g l N cnt) (A : Option Addr) (n c : Nat) (bs : List UInt8) (hb : Byts w A bs) (hn : n = bs.length) (hl : bs.length = l.length) :
    Calls Try.prog 27 #[.pointer (some ⟨cb, 0, none⟩), .slice A n c] w fun e w' => e = .returned (.int .i64 0) ∧ Chip w' cb bb mb pp g bs N cnt ∧ Only [bb] w w' := by
  have c6 := h.blk.cell 6 _ rfl
  have hz := h.size
  have hnl : n = l.length := hn.trans hl
  rw [hl] at hn
  have HC := Lib.hid h
  have hm := h.mem
  have HL := Lib.hid hl
  clear h hnl hl
  obtain ⟨L, hL⟩ : ∃ L, l.length = L := ⟨_, rfl⟩
  rw [hL] at c6 hz hm hn
  subst hn
  have HL2 := Lib.hid hL
  clear hL
  go_enter Try.func27, Try.ntmps27
  go_wp2_with (refine wpList_wanted (by rfl) fun K hK => wp_copy_mem _ _ rfl (off := 0) rfl rfl hm hb (by rw [HL.out, HL2.out]) (Nat.zero_le _) (by omega) (fun _ => rfl) ?_; intro w2 hm2 hg; refine hK _ _ ?_; clear hK K)
  go_ret
  have e : l.take 0 ++ bs.take n ++ l.drop (0 + min bs.length n) = bs := by
    rw [HL.out, HL2.out, Nat.min_self, List.take_of_length_le (l := bs) (by rw [HL.out, HL2.out]; exact Nat.le_refl _), List.drop_of_length_le (by rw [HL2.out]; omega)]
    simp
  rw [e] at hm2
  have ho := Only.of_grown hg
  exact ⟨rfl, HC.out.turn ho (by simpa using HC.out.d1) (by simpa using (Ne.symm HC.out.d3)) (by rw [HL2.out]; exact hm2) HL.out, ho⟩

set_option maxHeartbeats 400000 in
theorem nor_ask_nil (x n : Int) (w : World) : Calls Try.prog 62 #[.pointer none, .int .i64 x, .int .i64 n] w fun e w' => e = .returned (.int .i64 2) ∧ w = w' := by
  go_enter Try.func62, Try.ntmps62
  go_wp2_with fail
  go_ret
  exact ⟨rfl, rfl⟩
set_option maxHeartbeats 400000 in
theorem nor_read_nil (x n : Int) (w : World) : Calls Try.prog 20 #[.pointer none, .int .i64 x, .int .i64 n] w fun e w' => e = .returned (.tuple #[.slice none 0 0, .int .i64 2]) ∧ w = w' := by
  go_enter Try.func20, Try.ntmps20
  go_wp2_with (go_at_call 62; refine (nor_ask_nil _ _ _).mono ?_; rintro e w' ⟨rfl, rfl⟩)
  go_ret2
  exact ⟨rfl, rfl⟩
set_option maxHeartbeats 400000 in
theorem nor_program_nil (x : Int) (A : Option Addr) (n c : Nat) (hn : n ≤ 9223372036854775807) (w : World) : Calls Try.prog 19 #[.pointer none, .int .i64 x, .slice A n c] w fun e w' => e = .returned (.int .i64 2) ∧ w = w' := by
  go_enter Try.func19, Try.ntmps19
  go_wp2_with (go_at_call 62; refine (nor_ask_nil _ _ _).mono ?_; rintro e w' ⟨rfl, rfl⟩)
  go_ret
  exact ⟨rfl, rfl⟩
set_option maxHeartbeats 400000 in
theorem nor_sector_nil (x : Int) (w : World) : Calls Try.prog 66 #[.pointer none, .int .i64 x] w fun e w' => e = .returned (.slice none 0 0) ∧ w = w' := by
  go_enter Try.func66, Try.ntmps66
  go_wp2_with fail
  go_ret
  exact ⟨rfl, rfl⟩
set_option maxHeartbeats 400000 in
theorem nor_erase_nil (x : Int) (w : World) : Calls Try.prog 21 #[.pointer none, .int .i64 x] w fun e w' => e = .returned (.int .i64 2) ∧ w = w' := by
  go_enter Try.func21, Try.ntmps21
  go_wp2_with (go_at_call 66; refine (nor_sector_nil _ _).mono ?_; rintro e w' ⟨rfl, rfl⟩)
  go_ret
  exact ⟨rfl, rfl⟩
set_option maxHeartbeats 400000 in
theorem nor_load_nil (A : Option Addr) (n c : Nat) (w : World) : Calls Try.prog 27 #[.pointer none, .slice A n c] w fun e w' => e = .returned (.int .i64 2) ∧ w = w' := by
  go_enter Try.func27, Try.ntmps27
  go_wp2_with fail
  go_ret
  exact ⟨rfl, rfl⟩
set_option maxHeartbeats 400000 in
theorem nor_erases_nil (x : Int) (w : World) : Calls Try.prog 22 #[.pointer none, .int .i64 x] w fun e w' => e = .returned (.int .i64 0) ∧ w = w' := by
  go_enter Try.func22, Try.ntmps22
  go_wp2_with fail
  go_ret
  exact ⟨rfl, rfl⟩
end
end Go.Proofs.Ytcdgpioljilgeaa
