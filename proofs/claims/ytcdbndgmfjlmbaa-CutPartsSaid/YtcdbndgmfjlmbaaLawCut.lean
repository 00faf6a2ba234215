/- The walks of the laws on ranges, page by page. -/
import Derived.Test.YtcdbndgmfjlmbaaCutH
set_option linter.unusedVariables false
namespace Go.Proofs.Ytcdbndgmfjlmbaa
open Go.RowKit

theorem byts_lit3 (w : World) : Byts (w.alloc (.cells #[.int .u8 97, .int .u8 98, .int .u8 99] 5 (3, 4))) (some ⟨w.heap.size, 0, none⟩) [97, 98, 99] :=
  Or.inr ⟨_, _, rfl, fun i hi => by
    rw [Nat.zero_add]
    have : i = 0 ∨ i = 1 ∨ i = 2 := by simp at hi; omega
    rcases this with rfl | rfl | rfl
    · exact new_cell w [_, _, _] _ (3, 4) 0 _ rfl
    · exact new_cell w [_, _, _] _ (3, 4) 1 _ rfl
    · exact new_cell w [_, _, _] _ (3, 4) 2 _ rfl⟩

theorem byts_lit1 (w : World) : Byts (w.alloc (.cells #[.int .u8 120] 5 (1, 2))) (some ⟨w.heap.size, 0, none⟩) [120] :=
  Or.inr ⟨_, _, rfl, fun i hi => by
    rw [Nat.zero_add]
    obtain rfl : i = 0 := by simp at hi; omega
    exact new_cell w [_] _ (1, 2) 0 _ rfl⟩

set_option maxRecDepth 100000 in
set_option maxHeartbeats 1000000 in
theorem awake21 (w : World) : Calls Try.prog 19 #[] w fun e w' => e = .returned (.bool true) ∧ Below w.heap.size w w' := by
  have hp : pcs 5 20 16 = [(0, 5, 16), (1, 0, 9)] := by decide
  have hlay : layL [97, 98, 99] 1 2 [120] = [97, 120, 99] := by decide
  obtain ⟨w0, rfl⟩ : ∃ w0 : World, w0 = w := ⟨_, rfl⟩
  have H1 := Lib.hid (cut_pieces 5 20 16 w0 (by decide))
  rw [hp] at H1
  have Hlay := Lib.hid hlay
  clear hp hlay
  have kc := bytes_const
  have kc2 := bytes_const2
  go_enter Try.func19, Try.ntmps19
  go_upto_region 2 with (go_at_call 22; refine H1.out.mono ?_; rintro e w1 ⟨v, rfl, hown, hbel⟩)
  obtain ⟨A, c, rfl, hc, hat, -⟩ := hown.read
  obtain ⟨b, off, rfl, hb, hcell⟩ := hat.at (i := 0) (by decide)
  have c0 := hcell 0 _ (enc0 _)
  have c1 := hcell 1 _ (enc1 _)
  have c2 := hcell 2 _ (enc2 _)
  have hs1 := hbel.size
  have Hl3 := byts_lit3
  have Hl1 := byts_lit1
  have HL3 := Lib.hid Hl3
  have HL1 := Lib.hid Hl1
  simp only [kPiece, Nat.zero_mul, Nat.add_zero, List.getElem_cons_zero] at c0 c1 c2
  replace c0 : w1.cell? ⟨b, off, none⟩ = some (.int .i64 0) := c0
  replace c1 : w1.cell? ⟨b, off + 1, none⟩ = some (.int .i64 5) := c1
  replace c2 : w1.cell? ⟨b, off + 2, none⟩ = some (.int .i64 16) := c2
  clear hat hcell hown H1 Hl1 Hl3 hc
  rw [show [((0 : Nat), (5 : Nat), (16 : Nat)), (1, 0, 9)].length = 2 from rfl]
  go_wp2_with (first
    | (go_at_call 27; refine (cut_ceil _ _ _ (by decide)).mono ?_; rintro e w' ⟨rfl, rfl⟩)
    | (go_at_call 25; refine (cut_lay _ _ _ [97, 98, 99] 0 1 2 _ _ _ [120] _ ((HL3.out _).alloc _) (by rfl) (by simpa using HL1.out (w1.alloc _)) (by rfl) (by decide) (by decide)).mono ?_; rintro e w2 ⟨v2, rfl, hown2, hbel2⟩; rw [Hlay.out] at hown2; obtain ⟨A2, c2, rfl, hc2, hb2, -⟩ := hown2.byts)
    | (refine wpList_wanted (by rfl) fun K hK => wp_convert_to_string _ rfl rfl hb2 rfl (hK _ _ ?_)))
  go_ret
  exact ⟨ret_bool (by simp [strOf]), hbel.trans (((below_alloc w1 _).trans ((below_alloc (w1.alloc _) _).mono (by simp))).trans (hbel2.mono (by simp; omega)) |>.mono hs1)⟩

theorem ceil_pieces (m pg : Int) (h0 : 0 ≤ m) (h1 : m < 5000) (h2 : 0 < pg) : ((pcs 0 m pg).length : Int) = if 0 < m ∧ 0 < pg then (m - 1) / pg + 1 else 0 := by
  unfold pcs
  by_cases h : m = 0
  · subst h; simp
  · rw [if_neg (by omega), if_pos (by omega), piecesN_length]
    obtain ⟨m, rfl⟩ := Int.eq_ofNat_of_zero_le h0
    obtain ⟨pg, rfl⟩ := Int.eq_ofNat_of_zero_le (by omega : 0 ≤ pg)
    simp only [Int.toNat_natCast, countN, Int.toNat_zero, Nat.zero_add, Nat.zero_div, Nat.sub_zero]
    have e : ((m : Int) - 1) = ((m - 1 : Nat) : Int) := by omega
    rw [e]
    rfl

set_option maxRecDepth 100000 in
set_option maxHeartbeats 1000000 in
theorem cutCeil_walk {w : World} (n : Int) (wn : (Lit.int .i64 n).wf = true) (page : Int) (wpage : (Lit.int .i64 page).wf = true) :
    Calls Try.prog 10 #[.int .i64 n, .int .i64 page] w fun e w' => e = .returned (.bool true) ∧ Below w.heap.size w w' := by
  have bn := wf_i64 wn
  have bp := wf_i64 wpage
  clear wn wpage
  obtain ⟨w0, rfl⟩ : ∃ w0 : World, w0 = w := ⟨_, rfl⟩
  by_cases h1 : n < 1
  · have hk : (if 0 < n ∧ 0 < page then (n - 1) / page + 1 else 0) = 0 := by rw [if_neg (by omega)]
    go_enter Try.func10, Try.ntmps10
    go_wp2_with (first
      | (go_at_call 27; refine (cut_ceil _ _ _ (by omega)).mono ?_; rintro e w' ⟨rfl, rfl⟩; rw [hk])
      | (go_at_call 19; refine (awake21 _).mono ?_; rintro e w1 ⟨rfl, hbel⟩))
    go_ret
    exact ⟨rfl, hbel⟩
  by_cases h2 : page < 1
  · have hk : (if 0 < n ∧ 0 < page then (n - 1) / page + 1 else 0) = 0 := by rw [if_neg (by omega)]
    go_enter Try.func10, Try.ntmps10
    go_wp2_with (first
      | (go_at_call 27; refine (cut_ceil _ _ _ (by omega)).mono ?_; rintro e w' ⟨rfl, rfl⟩; rw [hk])
      | (go_at_call 19; refine (awake21 _).mono ?_; rintro e w1 ⟨rfl, hbel⟩))
    go_ret
    exact ⟨rfl, hbel⟩
  obtain ⟨k, hk, hk0, hk1⟩ : ∃ k : Int, (if 0 < n ∧ 0 < page then (n - 1) / page + 1 else 0) = k + 1 ∧ (n - 1) / page = k ∧ 0 ≤ k ∧ k < 9223372036854775807 := by
    refine ⟨(n - 1) / page, by rw [if_pos (by omega)], rfl, Int.ediv_nonneg (by omega) (by omega), ?_⟩
    have := Int.ediv_le_self (a := n - 1) page (by omega)
    omega
  have HK := Lib.hid hk
  clear hk
  have hm0 : 0 ≤ n % 5000 ∧ n % 5000 < 5000 := by omega
  have hp0 : 0 ≤ page % 100 ∧ page % 100 < 100 := by omega
  have hc := ceil_pieces (n % 5000) (1 + page % 100) (by omega) (by omega) (by omega)
  obtain ⟨x, hx⟩ : ∃ x, (if 0 < n % 5000 ∧ 0 < 1 + page % 100 then (n % 5000 - 1) / (1 + page % 100) + 1 else 0) = x := ⟨_, rfl⟩
  rw [hx] at hc
  have HX := Lib.hid hx
  clear hx
  go_enter Try.func10, Try.ntmps10
  go_upto_region 2 with (go_at_call 27; refine (cut_ceil _ _ _ (by omega)).mono ?_; rintro e w' ⟨rfl, rfl⟩; rw [HK.out])
  go_wp2_with (first
    | (go_at_call 19; refine (awake21 _).mono ?_; rintro e w1 ⟨rfl, hbel⟩)
    | (go_at_call 22; refine (cut_pieces _ _ _ _ (by omega)).mono ?_; rintro e w2 ⟨v, rfl, hown, hbel2⟩; obtain ⟨A, c, rfl, -, -, -⟩ := hown.read)
    | (go_at_call 27; refine (cut_ceil _ _ _ (by omega)).mono ?_; rintro e w' ⟨rfl, rfl⟩; rw [HX.out]))
  go_ret
  exact ⟨rfl, hbel.trans (hbel2.mono hbel.size)⟩
end Go.Proofs.Ytcdbndgmfjlmbaa
