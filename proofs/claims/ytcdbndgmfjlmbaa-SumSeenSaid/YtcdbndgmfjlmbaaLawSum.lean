/- The walks of the laws on sums: each returns true for every input. -/
import Derived.Test.YtcdbndgmfjlmbaaSum
namespace Go.Proofs.Ytcdbndgmfjlmbaa
open Go.RowKit

theorem bytes_1 (w : World) : Byts (w.alloc (.cells #[.int .u8 1] 5)) (some ⟨w.heap.size, 0, none⟩) [1] := by
  refine Or.inr ⟨_, _, rfl, fun i hi => ?_⟩
  obtain rfl : i = 0 := by simp at hi; omega
  exact cell_one_new _ _ _ 0 _ rfl

set_option maxHeartbeats 400000 in
theorem awake02 (w : World) :
    Calls Try.prog 15 #[] w fun e w' => e = .returned (.bool true) ∧ Below w.heap.size w w' := by
  have e1 : ((sumN [] : Int) == 1) = true := by decide
  have e2 : ((sumN [1] : Int) == 131074) = true := by decide
  go_enter Try.func15, Try.ntmps15
  go_wp2_with (first | (go_at_call 16; refine (sum_of _ _ _ [] _ (Byts.nil _ _) rfl (by simp)).mono ?_; rintro e w' ⟨rfl, rfl⟩) | (go_at_call 18; refine (sum_ok _ _ _ [1] _ _ (bytes_1 _) rfl (by decide)).mono ?_; rintro e w' ⟨rfl, rfl⟩))
  go_ret

  exact ⟨rfl, (Below.refl _ _).alloc (Nat.le_refl _) _⟩

set_option maxHeartbeats 400000 in
theorem sumTells_walk {w : World} (A : Option Addr) (c : Nat) (l : List UInt8) (hcap : l.length ≤ c ∧ c ≤ maxLen) (hb : Byts w A l) (_hl : l.length ≤ 140737488351232) (v : Int) (_wv : (Lit.int .u32 v).wf = true) :
    Calls Try.prog 3 #[.slice A l.length c, .int .u32 v] w fun e w' => e = .returned (.bool true) ∧ Below w.heap.size w w' := by
  have hl : l.length ≤ maxLen := by omega
  clear hcap _wv
  by_cases h : (3000 : Int) < l.length
  · go_enter Try.func3, Try.ntmps3
    go_wp2_with (first | (go_at_call 15; refine (awake02 _).mono ?_; rintro e w' ⟨rfl, hbel⟩))
    go_ret
    exact ⟨rfl, hbel⟩
  · go_enter Try.func3, Try.ntmps3
    go_wp2_with fail
    refine (awake02 _).mono ?_
    rintro e w1 ⟨rfl, hbel⟩
    have hb1 := hb.below hbel
    clear hb
    have he : ((sumN l : Int) == (sumN l : Int)) = true := by simp
    go_wp2_with (first | (go_at_call 16; refine (sum_of _ _ _ l _ hb1 rfl hl).mono ?_; rintro e w' ⟨rfl, rfl⟩) | (go_at_call 17; refine (ref_sum _ _ _ l _ hb1 rfl hl).mono ?_; rintro e w' ⟨rfl, rfl⟩) | (go_at_call 18; refine (sum_ok _ _ _ l _ _ hb1 rfl hl).mono ?_; rintro e w' ⟨rfl, rfl⟩))
    go_ret
    exact ⟨rfl, hbel⟩
end Go.Proofs.Ytcdbndgmfjlmbaa
