/- The contracts of the layer cut and of its reference: pieces of ranges, bytes laid on bytes, and how many pages. -/
import Derived.Test.YtcdbndgmfjlmbaaHelp
import Derived.Test.YtcdbndgmfjlmbaaCutP
import Derived.Outline
import Derived.Deep.DeepCutAuto
import Derived.Deep.CutBlock
import Derived.RegionTactic
import Derived.BigRegion
set_option linter.unusedVariables false
namespace Go.Proofs.Ytcdbndgmfjlmbaa
open Go.RowKit

/-- A piece's cells. -/
def encPiece (x : Nat × Nat × Nat) : List Value := [.int .i64 (x.1 : Int), .int .i64 (x.2.1 : Int), .int .i64 (x.2.2 : Int)]

def kPiece : Kind Try.prog (Nat × Nat × Nat) where
  E := 32
  T := 35
  size := 3
  bytes := 24
  zero := .agg #[.int .i64 0, .int .i64 0, .int .i64 0]
  enc := encPiece
  hT := Try.underlying35
  hinfo := by kernel_rfl
  hz := rfl
  hpos := by decide
  hlen := fun _ => rfl
  hone := fun x u hu => by
    unfold encPiece at hu
    simp only [List.mem_cons, List.not_mem_nil, or_false] at hu
    rcases hu with rfl | rfl | rfl <;> rfl

/-- The pieces of a range, as numbers of the program. -/
def pcs (off n page : Int) : List (Nat × Nat × Nat) :=
  if off < 0 ∨ n ≤ 0 ∨ page ≤ 0 ∨ off > 1073741824 ∨ n > 1073741824 then [] else piecesN off.toNat (off.toNat + n.toNat) page.toNat

set_option maxHeartbeats 400000 in
theorem cut_ceil (n page : Int) (w : World) (hn : n ≤ 9223372036854775807) :
    Calls Try.prog 27 #[.int .i64 n, .int .i64 page] w fun e w' => e = .returned (.int .i64 (if 0 < n ∧ 0 < page then (n - 1) / page + 1 else 0)) ∧ w = w' := by
  by_cases h1 : n ≤ 0
  · rw [if_neg (by omega)]
    go_enter Try.func27, Try.ntmps27
    go_wp2
    go_ret
    exact ⟨rfl, rfl⟩
  by_cases h2 : page ≤ 0
  · rw [if_neg (by omega)]
    go_enter Try.func27, Try.ntmps27
    go_wp2
    go_ret
    exact ⟨rfl, rfl⟩
  rw [if_pos (by omega)]
  have h3 : 0 ≤ (n - 1) / page := Int.ediv_nonneg (by omega) (by omega)
  have h4 : (n - 1) / page ≤ n - 1 := Int.ediv_le_self _ (by omega)
  go_enter Try.func27, Try.ntmps27
  go_wp2
  go_ret
  exact ⟨rfl, rfl⟩

set_option maxRecDepth 100000 in
set_option maxHeartbeats 1000000 in
theorem cut_pieces (off n page : Int) (w : World) (hpage : page ≤ 9223372036854775807) :
    Calls Try.prog 22 #[.int .i64 off, .int .i64 n, .int .i64 page] w (Ret fun v w' => kPiece.Own w' w.heap.size v (pcs off n page) ∧ Below w.heap.size w w') := by
  by_cases h1 : off < 0
  · go_enter Try.func22, Try.ntmps22
    go_wp2
    go_ret
    exact Ret.mk ⟨by unfold pcs; rw [if_pos (by omega)]; exact Kind.Own.nil _ _, Below.refl _ _⟩
  by_cases h2 : n ≤ 0
  · go_enter Try.func22, Try.ntmps22
    go_wp2
    go_ret
    exact Ret.mk ⟨by unfold pcs; rw [if_pos (by omega)]; exact Kind.Own.nil _ _, Below.refl _ _⟩
  by_cases h3 : page ≤ 0
  · go_enter Try.func22, Try.ntmps22
    go_wp2
    go_ret
    exact Ret.mk ⟨by unfold pcs; rw [if_pos (by omega)]; exact Kind.Own.nil _ _, Below.refl _ _⟩
  by_cases h4 : 1073741824 < off
  · go_enter Try.func22, Try.ntmps22
    go_wp2
    go_ret
    exact Ret.mk ⟨by unfold pcs; rw [if_pos (by omega)]; exact Kind.Own.nil _ _, Below.refl _ _⟩
  by_cases h5 : 1073741824 < n
  · go_enter Try.func22, Try.ntmps22
    go_wp2
    go_ret
    exact Ret.mk ⟨by unfold pcs; rw [if_pos (by omega)]; exact Kind.Own.nil _ _, Below.refl _ _⟩
  have hp : pcs off n page = piecesN off.toNat (off.toNat + n.toNat) page.toNat := by unfold pcs; rw [if_neg (by omega)]
  rw [hp]
  clear hp
  obtain ⟨off, rfl⟩ := Int.eq_ofNat_of_zero_le (by omega : 0 ≤ off)
  obtain ⟨n, rfl⟩ := Int.eq_ofNat_of_zero_le (by omega : 0 ≤ n)
  obtain ⟨pg, rfl⟩ := Int.eq_ofNat_of_zero_le (by omega : 0 ≤ page)
  simp only [Int.toNat_natCast]
  obtain ⟨e, hE⟩ : ∃ e, off + n = e := ⟨_, rfl⟩
  rw [hE]
  have he : off < e := by omega
  have hpg : 0 < pg := by omega
  have hoff : off ≤ 1073741824 := by omega
  have hend : e ≤ 2147483648 := by omega
  have HE := Lib.hid (show ((off : Int) + (n : Int)) = (e : Int) from by omega)
  clear hE
  go_enter Try.func22, Try.ntmps22
  go_upto_region 5 with fail
  rw [HE.out]
  clear h1 h2 h3 h4 h5
  obtain ⟨w0, rfl⟩ : ∃ w0 : World, w0 = w := ⟨_, rfl⟩
  go_loopw [0, 7] (fun v0 v7 wr => ∃ j : Nat, j ≤ countN off e pg ∧ v0 = .int .i64 (offN off e pg j : Nat) ∧ kPiece.Own wr w0.heap.size v7 ((List.range j).map (pieceN off e pg)) ∧ Below w0.heap.size w0 wr)
    (fun v0 _ _ => e - (intOf v0).toNat)
  case atStart => exact ⟨0, Nat.zero_le _, by rw [offN_zero], Kind.Own.nil _ _, Below.refl _ _⟩
  case round =>
    obtain ⟨j, hj, rfl, hown, hbel⟩ := hrel
    rcases Nat.lt_or_ge j (countN off e pg) with hlt | hge
    · obtain ⟨q, hq1, hq2, hqe, ho1, ho2, ho3, ho4, ho5, ho6⟩ := round_facts hpg he hlt
      have Hp := Lib.hid (pieceN_def off e pg j)
      have Htake := Lib.hid (take_pieces off e pg j hlt)
      have Hcount : j + 1 ≤ 2147483648 := by have := count_le (off := off) (e := e) (pg := pg); omega
      have Hj1 : j + 1 ≤ countN off e pg := hlt
      have hq1' : ((off / pg + j : Nat) : Int) * (pg : Int) = (q : Int) := by rw [← Int.natCast_mul, hq1]
      have ho5' : (offN off e pg j : Int) / (pg : Int) = ((off / pg + j : Nat) : Int) := by rw [← ho5]; rfl
      have hil : off / pg + j ≤ 2147483648 := by rw [← ho5]; have := Nat.div_le_self (offN off e pg j) pg; omega
      have Ho6 := Lib.hid ho6
      have Ho1 := Lib.hid ho1
      clear ho6 ho5 hlt hj hq2 ho1
      rw [hq1] at Hp
      clear hq1
      generalize offN off e pg j = o at *
      generalize off / pg + j = i at *
      have hs := hbel.size
      obtain ⟨m, hm1, hm2⟩ : ∃ m : Nat, (if (pg : Int) - ((o : Int) - (q : Int)) < (e : Int) - (o : Int) then (pg : Int) - ((o : Int) - (q : Int)) else (e : Int) - (o : Int)) = (m : Int) ∧ o + m = min e (q + pg) := by
        refine ⟨min (e - o) (pg - (o - q)), ?_, by omega⟩
        split <;> omega
      have Hm1 := Lib.hid hm1
      clear hm1
      have hEnc : kPiece.enc (pieceN off e pg j) = [.int .i64 (i : Int), .int .i64 ((o : Int) - (q : Int)), .int .i64 ((o : Int) - (q : Int) + (m : Int))] := by
        show encPiece _ = _
        rw [Hp.out]
        unfold encPiece
        simp only [List.cons.injEq, Value.int.injEq, true_and, and_true]
        have := Ho1.out
        omega
      have HEnc := Lib.hid hEnc
      clear hEnc
      have hm0 : 0 < m := by omega
      have hm3 : o + m ≤ e := by omega
      go_upto_region 9 with fail
      rw [Hm1.out]
      go_upto_region 10 with (at_builtin; (refine wpList_wanted (by rfl) fun K hK => wp_append_el kPiece _ _ rfl (y := pieceN off e pg j) rfl rfl (hown.alloc _) (by rw [HEnc.out]; exact cells_alloc wr _ _ _) (by simp [kPiece]; omega) (by simp; omega) (by simp; omega) fun v' w' h1 h2 h3 => hK _ _ ?_))
      go_wp2_with fail
      go_roundw
      case rel => exact ⟨j + 1, Hj1, by rw [Ho6.out]; simp only [Value.int.injEq, true_and]; omega, by rw [Htake.out]; exact h1, (hbel.alloc hs _).grown h2 (by simp; omega) (fun k e => (hown.lt e).1)⟩
      case measure => simp [intOf]; omega
    · have hje : j = countN off e pg := by omega
      have hjo := offN_end hpg he
      subst hje
      go_wp2_with fail
      go_ret
      exact Ret.mk ⟨hown, hbel⟩

set_option maxRecDepth 100000 in
set_option maxHeartbeats 1000000 in
theorem ref_pieces (off n page : Int) (w : World) (hpage : page ≤ 9223372036854775807) :
    Calls Try.prog 23 #[.int .i64 off, .int .i64 n, .int .i64 page] w (Ret fun v w' => kPiece.Own w' w.heap.size v (pcs off n page) ∧ Below w.heap.size w w') := by
  by_cases h1 : off < 0
  · go_enter Try.func23, Try.ntmps23
    go_wp2
    go_ret
    exact Ret.mk ⟨by unfold pcs; rw [if_pos (by omega)]; exact Kind.Own.nil _ _, Below.refl _ _⟩
  by_cases h2 : n < 1
  · go_enter Try.func23, Try.ntmps23
    go_wp2
    all_goals go_ret
    all_goals exact Ret.mk ⟨by unfold pcs; rw [if_pos (by omega)]; exact Kind.Own.nil _ _, Below.refl _ _⟩
  by_cases h3 : page < 1
  · go_enter Try.func23, Try.ntmps23
    go_wp2
    all_goals go_ret
    all_goals exact Ret.mk ⟨by unfold pcs; rw [if_pos (by omega)]; exact Kind.Own.nil _ _, Below.refl _ _⟩
  by_cases h4 : 1073741824 < off
  · go_enter Try.func23, Try.ntmps23
    go_wp2
    go_ret
    exact Ret.mk ⟨by unfold pcs; rw [if_pos (by omega)]; exact Kind.Own.nil _ _, Below.refl _ _⟩
  by_cases h5 : 1073741824 < n
  · go_enter Try.func23, Try.ntmps23
    go_wp2
    go_ret
    exact Ret.mk ⟨by unfold pcs; rw [if_pos (by omega)]; exact Kind.Own.nil _ _, Below.refl _ _⟩
  have hp : pcs off n page = piecesN off.toNat (off.toNat + n.toNat) page.toNat := by unfold pcs; rw [if_neg (by omega)]
  rw [hp]
  clear hp
  obtain ⟨off, rfl⟩ := Int.eq_ofNat_of_zero_le (by omega : 0 ≤ off)
  obtain ⟨n, rfl⟩ := Int.eq_ofNat_of_zero_le (by omega : 0 ≤ n)
  obtain ⟨pg, rfl⟩ := Int.eq_ofNat_of_zero_le (by omega : 0 ≤ page)
  simp only [Int.toNat_natCast]
  obtain ⟨e, hE⟩ : ∃ e, off + n = e := ⟨_, rfl⟩
  rw [hE]
  have he : off < e := by omega
  have hpg : 0 < pg := by omega
  have hoff : off ≤ 1073741824 := by omega
  have hend : e ≤ 2147483648 := by omega
  have HE : ((off : Int) + (n : Int)) = (e : Int) := by omega
  clear hE
  obtain ⟨i0, Hi0, hq0, hi0⟩ : ∃ i0 : Nat, Hid (off / pg = i0) ∧ (off : Int) / (pg : Int) = (i0 : Int) ∧ i0 ≤ off := ⟨off / pg, rfl, rfl, Nat.div_le_self _ _⟩
  go_enter Try.func23, Try.ntmps23
  go_upto_region 5 with fail
  have hcount := count_le (off := off) (e := e) (pg := pg)
  obtain ⟨w0, rfl⟩ : ∃ w0 : World, w0 = w := ⟨_, rfl⟩
  go_loopw [7, 8] (fun v7 v8 wr => ∃ j : Nat, j ≤ countN off e pg ∧ v8 = .int .i64 ((i0 + j : Nat) : Int) ∧ kPiece.Own wr w0.heap.size v7 ((List.range j).map (pieceN off e pg)) ∧ Below w0.heap.size w0 wr)
    (fun _ v8 _ => i0 + countN off e pg - (intOf v8).toNat)
  case atStart => exact ⟨0, Nat.zero_le _, rfl, Kind.Own.nil _ _, Below.refl _ _⟩
  case round =>
    clear hq0
    obtain ⟨j, hj, rfl, hown, hbel⟩ := hrel
    rcases Nat.lt_or_ge j (countN off e pg) with hlt | hge
    · obtain ⟨q, hq1, hq2, hqe, ho1, ho2, ho3, ho4, ho5, ho6⟩ := round_facts hpg he hlt
      have hnx := next_le hpg he hlt
      rw [Hi0.out] at hq1 hq2 hnx
      rw [hq2] at hnx
      have Hp := Lib.hid (pieceN_def off e pg j)
      rw [Hi0.out] at Hp
      have Htake := Lib.hid (take_pieces off e pg j hlt)
      have Hj1 : j + 1 ≤ countN off e pg := hlt
      have hq1' : ((i0 + j : Nat) : Int) * (pg : Int) = (q : Int) := by rw [← Int.natCast_mul, hq1]
      have hq2' : (((i0 + j : Nat) : Int) + 1) * (pg : Int) = (q : Int) + (pg : Int) := by rw [Int.add_mul, hq1', Int.one_mul]
      have hil : i0 + j ≤ 4294967296 := by omega
      have Hi := Lib.hid (show i0 + (j + 1) = (i0 + j) + 1 from rfl)
      clear ho6 ho5 hj hq2 ho1 ho2 ho3 ho4
      rw [hq1] at Hp
      clear hq1
      have hlt2 : i0 + j < i0 + countN off e pg := by omega
      generalize i0 + j = i at *
      have hs := hbel.size
      obtain ⟨m1, hm1, hm1'⟩ : ∃ m : Nat, (if off < q then (q : Int) else (off : Int)) = (m : Int) ∧ m = max off q := ⟨max off q, by split <;> omega, rfl⟩
      obtain ⟨m2, hm2, hm2'⟩ : ∃ m : Nat, (if (q : Int) + (pg : Int) < (e : Int) then (q : Int) + (pg : Int) else (e : Int)) = (m : Int) ∧ m = min e (q + pg) := ⟨min e (q + pg), by split <;> omega, rfl⟩
      have Hm2' := Lib.hid hm2'
      have Hm1' := Lib.hid hm1'
      have b1 : q ≤ m1 := by omega
      have b2 : q < m2 := by omega
      have b3 : m1 ≤ 4294967296 := by omega
      have b4 : m2 ≤ 4294967296 := by omega
      clear hm1' hm2'
      have hEnc : kPiece.enc (pieceN off e pg j) = [.int .i64 (i : Int), .int .i64 ((m1 : Int) - (q : Int)), .int .i64 ((m2 : Int) - (q : Int))] := by
        show encPiece _ = _
        rw [Hp.out, ← Hm1'.out, ← Hm2'.out]
        unfold encPiece
        simp only [List.cons.injEq, Value.int.injEq, true_and, and_true]
        omega
      have HEnc := Lib.hid hEnc
      clear hEnc
      go_upto_region 6 with (at_builtin; go_must (refine wpList_wanted (by rfl) fun K hK => wp_append_el kPiece _ _ rfl (y := pieceN off e pg j) rfl rfl (hown.alloc _) (by rw [HEnc.out]; exact cells_alloc wr _ _ _) (by simp [kPiece]; omega) (by simp; omega) (by simp; omega) fun v' w' h1 h2 h3 => hK _ _ ?_))
      go_wp2_with fail
      go_roundw
      case rel => exact ⟨j + 1, Hj1, by rw [Hi.out]; simp only [Value.int.injEq, true_and]; omega, by rw [Htake.out]; exact h1, (hbel.alloc hs _).grown h2 (by simp; omega) (fun k e => (hown.lt e).1)⟩
      case measure => simp [intOf]; omega
    · have hje : j = countN off e pg := by omega
      subst hje
      have hstop : ¬ (off / pg + countN off e pg) * pg < e := by rw [← lt_count hpg he]; omega
      have hc0 : 0 < countN off e pg := by rw [lt_count hpg he]; have := Nat.div_mul_le_self off pg; rw [Nat.add_zero]; omega
      have hnx := next_le (j := countN off e pg - 1) hpg he (by omega)
      rw [show off / pg + (countN off e pg - 1) + 1 = off / pg + countN off e pg from by omega] at hnx
      rw [Hi0.out] at hstop hnx
      have hq1' : ((i0 + countN off e pg : Nat) : Int) * (pg : Int) = (((i0 + countN off e pg) * pg : Nat) : Int) := by rw [Int.natCast_mul]
      generalize (i0 + countN off e pg) * pg = q at *
      generalize hi : i0 + countN off e pg = i at *
      have Hi := Lib.hid hi
      clear hi
      go_wp2_with fail
      go_ret
      exact Ret.mk ⟨hown, hbel⟩

set_option maxHeartbeats 400000 in
theorem ref_ceil (n page : Int) (w : World) (hn : n ≤ 9223372036854775807) :
    Calls Try.prog 28 #[.int .i64 n, .int .i64 page] w fun e w' => e = .returned (.int .i64 (if 0 < n ∧ 0 < page then (n - 1) / page + 1 else 0)) ∧ w = w' := by
  by_cases h1 : n < 1
  · rw [if_neg (by omega)]
    go_enter Try.func28, Try.ntmps28
    go_wp2
    go_ret
    exact ⟨rfl, rfl⟩
  by_cases h2 : page < 1
  · rw [if_neg (by omega)]
    go_enter Try.func28, Try.ntmps28
    go_wp2
    go_ret
    exact ⟨rfl, rfl⟩
  rw [if_pos (by omega)]
  have h3 : 0 ≤ (n - 1) / page := Int.ediv_nonneg (by omega) (by omega)
  have h4 : (n - 1) / page ≤ n - 1 := Int.ediv_le_self _ (by omega)
  go_enter Try.func28, Try.ntmps28
  go_wp2
  go_ret
  exact ⟨rfl, rfl⟩

theorem own_sliced {w : World} {B f t n c : Nat} {A A' : Option Addr} {l : List UInt8} (hown : Own w B (.slice A n c) l) (h2 : ∀ g off, A = some ⟨g, off, none⟩ → f < c → A' = some ⟨g, off + f, none⟩) (ht : t ≤ l.length) :
    0 < t - f → ∃ g N C, Value.slice A n c = .slice (some ⟨g, 0, none⟩) N C ∧ A' = some ⟨g, f, none⟩ := by
  intro h
  obtain ⟨g, c', e, hc, _⟩ := hown.form (by omega)
  cases e
  exact ⟨g, _, _, rfl, by rw [h2 g 0 rfl (by omega), Nat.zero_add]⟩

/-- Bytes laid on others. -/
def layL (old : List UInt8) (f t : Int) (b : List UInt8) : List UInt8 :=
  if 0 ≤ f ∧ f ≤ t ∧ t ≤ old.length then old.take f.toNat ++ b.take (t - f).toNat ++ old.drop (f.toNat + min b.length (t - f).toNat) else old

theorem layL_length (old : List UInt8) (f t : Int) (b : List UInt8) : (layL old f t b).length = old.length := by
  unfold layL; split
  · simp; omega
  · rfl

set_option maxRecDepth 100000 in
set_option maxHeartbeats 1000000 in
theorem cut_lay (A : Option Addr) (n c : Nat) (old : List UInt8) (x f t : Int) (A' : Option Addr) (n' c' : Nat) (b : List UInt8) (w : World) (hb : Byts w A old) (hn : n = old.length) (hb' : Byts w A' b) (hn' : n' = b.length)
    (hl : old.length ≤ 140737488355328) (hl' : b.length ≤ 140737488355328) :
    Calls Try.prog 25 #[.slice A n c, .agg #[.int .i64 x, .int .i64 f, .int .i64 t], .slice A' n' c'] w (Ret fun v w' => Own w' w.heap.size v (layL old f t b) ∧ Below w.heap.size w w') := by
  subst hn
  subst hn'
  obtain ⟨w0, rfl⟩ : ∃ w0 : World, w0 = w := ⟨_, rfl⟩
  have hc := clone_byts A old.length c old (w0.alloc (.cells #[.int .i64 x, .int .i64 f, .int .i64 t] 32)) (hb.alloc _) rfl hl
  have Hc := Lib.hid hc
  clear hc
  by_cases h1 : 0 ≤ f
  · by_cases h2 : f ≤ t
    · by_cases h3 : t ≤ old.length
      · go_enter Try.func25, Try.ntmps25
        go_upto_region 2 with (go_at_call 46; refine Hc.out.mono ?_; rintro e w1 ⟨v, rfl, hown, hbel⟩)
        obtain ⟨A2, c2, rfl, hc2, hb2, hA2⟩ := hown.byts
        have hbel1 : Below w0.heap.size w0 w1 := (below_alloc w0 _).trans (hbel.mono (by simp))
        have hx1 : w1.cell? ⟨w0.heap.size, 1, none⟩ = some (.int .i64 f) := by rw [hbel.cell (by simp)]; exact new_cell w0 [_, _, _] _ (0, 0) 1 _ rfl
        have hx2 : w1.cell? ⟨w0.heap.size, 2, none⟩ = some (.int .i64 t) := by rw [hbel.cell (by simp)]; exact new_cell w0 [_, _, _] _ (0, 0) 2 _ rfl
        have hb1 := hb'.below hbel1
        obtain ⟨f, rfl⟩ := Int.eq_ofNat_of_zero_le h1
        obtain ⟨t, rfl⟩ := Int.eq_ofNat_of_zero_le (Int.le_trans h1 h2)
        have hft : f ≤ t := by omega
        have hto : t ≤ old.length := by omega
        clear hb hb' hbel
        go_wp2_with (first
          | (refine wpList_wanted (by rfl) fun K hK => wp_slice_byts _ _ _ rfl f t rfl (Or.inr ⟨_, _, rfl, rfl⟩) (Or.inr ⟨_, _, rfl, rfl⟩) hft (by omega) ?_; intro A3 _ h2 _; refine hK _ _ ?_; clear hK K; have HA3 : Hid (0 < t - f → ∃ g N C, Value.slice A2 old.length c2 = .slice (some ⟨g, 0, none⟩) N C ∧ A3 = some ⟨g, f, none⟩) := own_sliced hown h2 (by omega); clear h2)
          | (refine wpList_wanted (by rfl) fun K hK => wp_copy_byts _ _ rfl f rfl rfl hown hb1 rfl HA3.out (by omega) ?_; intro w2 hown2 hg2; refine hK _ _ ?_; clear hK K))
        have hL : layL old (f : Int) (t : Int) b = old.take f ++ b.take (t - f) ++ old.drop (f + min b.length (t - f)) := by
          unfold layL; rw [if_pos (by omega)]
          have e1 : ((t : Int) - (f : Int)).toNat = t - f := by omega
          rw [e1, Int.toNat_natCast]
        go_ret
        exact Ret.mk ⟨by rw [hL]; exact hown2.mono (by simp), hbel1.grown hg2 hbel1.size (fun k e => by have := (hown.lt e).1; simp at this; omega)⟩
      · go_enter Try.func25, Try.ntmps25
        go_upto_region 2 with (go_at_call 46; refine Hc.out.mono ?_; rintro e w1 ⟨v, rfl, hown, hbel⟩)
        have hx1 : w1.cell? ⟨w0.heap.size, 1, none⟩ = some (.int .i64 f) := by rw [hbel.cell (by simp)]; exact new_cell w0 [_, _, _] _ (0, 0) 1 _ rfl
        have hx2 : w1.cell? ⟨w0.heap.size, 2, none⟩ = some (.int .i64 t) := by rw [hbel.cell (by simp)]; exact new_cell w0 [_, _, _] _ (0, 0) 2 _ rfl
        have HL := Lib.hid (show layL old f t b = old from by unfold layL; rw [if_neg (by omega)])
        go_wp2_with fail
        go_ret
        exact Ret.mk ⟨by rw [HL.out]; exact hown.mono (by simp), (below_alloc w0 _).trans (hbel.mono (by simp))⟩
    · go_enter Try.func25, Try.ntmps25
      go_upto_region 2 with (go_at_call 46; refine Hc.out.mono ?_; rintro e w1 ⟨v, rfl, hown, hbel⟩)
      have hx1 : w1.cell? ⟨w0.heap.size, 1, none⟩ = some (.int .i64 f) := by rw [hbel.cell (by simp)]; exact new_cell w0 [_, _, _] _ (0, 0) 1 _ rfl
      have hx2 : w1.cell? ⟨w0.heap.size, 2, none⟩ = some (.int .i64 t) := by rw [hbel.cell (by simp)]; exact new_cell w0 [_, _, _] _ (0, 0) 2 _ rfl
      have HL := Lib.hid (show layL old f t b = old from by unfold layL; rw [if_neg (by omega)])
      go_wp2_with fail
      go_ret
      exact Ret.mk ⟨by rw [HL.out]; exact hown.mono (by simp), (below_alloc w0 _).trans (hbel.mono (by simp))⟩
  · go_enter Try.func25, Try.ntmps25
    go_upto_region 2 with (go_at_call 46; refine Hc.out.mono ?_; rintro e w1 ⟨v, rfl, hown, hbel⟩)
    have hx1 : w1.cell? ⟨w0.heap.size, 1, none⟩ = some (.int .i64 f) := by rw [hbel.cell (by simp)]; exact new_cell w0 [_, _, _] _ (0, 0) 1 _ rfl
    have hx2 : w1.cell? ⟨w0.heap.size, 2, none⟩ = some (.int .i64 t) := by rw [hbel.cell (by simp)]; exact new_cell w0 [_, _, _] _ (0, 0) 2 _ rfl
    have HL := Lib.hid (show layL old f t b = old from by unfold layL; rw [if_neg (by omega)])
    go_wp2_with fail
    go_ret
    exact Ret.mk ⟨by rw [HL.out]; exact hown.mono (by simp), (below_alloc w0 _).trans (hbel.mono (by simp))⟩

theorem lay_step (old b : List UInt8) (f k : Nat) (hk : k < b.length) (hf : f + k < old.length) :
    (old.take f ++ b.take k ++ old.drop (f + k)).set (f + k) b[k] = old.take f ++ b.take (k + 1) ++ old.drop (f + (k + 1)) := by
  have e : (old.take f ++ b.take k).length = f + k := by simp; omega
  rw [List.set_append_right _ _ (by omega), e, Nat.sub_self, List.drop_eq_getElem_cons hf, List.set_cons_zero, List.take_succ_eq_append_getElem hk]
  simp only [List.append_assoc, List.cons_append, List.nil_append, Nat.add_assoc]

set_option maxRecDepth 100000 in
set_option maxHeartbeats 1000000 in
theorem ref_lay_no (A : Option Addr) (n c : Nat) (old : List UInt8) (x f t : Int) (A' : Option Addr) (n' c' : Nat) (b : List UInt8) (w : World) (hb : Byts w A old) (hn : n = old.length) (hb' : Byts w A' b) (hn' : n' = b.length)
    (hl : old.length ≤ 140737488355328) (hl' : b.length ≤ 140737488355328) (h : f < 0 ∨ t < f ∨ old.length < t) :
    Calls Try.prog 26 #[.slice A n c, .agg #[.int .i64 x, .int .i64 f, .int .i64 t], .slice A' n' c'] w (Ret fun v w' => Own w' w.heap.size v (old) ∧ Below w.heap.size w w') := by
  subst hn
  subst hn'
  obtain ⟨w0, rfl⟩ : ∃ w0 : World, w0 = w := ⟨_, rfl⟩
  have hba := hb.alloc (.cells #[.int .i64 x, .int .i64 f, .int .i64 t] 32)
  by_cases h1 : f < 0
  · go_enter Try.func26, Try.ntmps26
    go_upto_region 2 with (refine wpList_wanted (by rfl) fun K hK => wp_clone_byts (B := w0.heap.size + 1) _ rfl rfl hba rfl hl (by simp) ?_; intro v w1 hown hbel _; refine hK _ _ ?_; clear hK K)
    have hx1 : w1.cell? ⟨w0.heap.size, 1, none⟩ = some (.int .i64 f) := by rw [hbel.cell (by simp)]; exact new_cell w0 [_, _, _] _ (0, 0) 1 _ rfl
    have hx2 : w1.cell? ⟨w0.heap.size, 2, none⟩ = some (.int .i64 t) := by rw [hbel.cell (by simp)]; exact new_cell w0 [_, _, _] _ (0, 0) 2 _ rfl
    clear hb hb' hba
    go_wp2_with fail
    go_ret
    exact Ret.mk ⟨hown.mono (by omega), (below_alloc w0 _).trans (hbel.mono (by simp))⟩
  by_cases h2 : t < f
  · go_enter Try.func26, Try.ntmps26
    go_upto_region 2 with (refine wpList_wanted (by rfl) fun K hK => wp_clone_byts (B := w0.heap.size + 1) _ rfl rfl hba rfl hl (by simp) ?_; intro v w1 hown hbel _; refine hK _ _ ?_; clear hK K)
    have hx1 : w1.cell? ⟨w0.heap.size, 1, none⟩ = some (.int .i64 f) := by rw [hbel.cell (by simp)]; exact new_cell w0 [_, _, _] _ (0, 0) 1 _ rfl
    have hx2 : w1.cell? ⟨w0.heap.size, 2, none⟩ = some (.int .i64 t) := by rw [hbel.cell (by simp)]; exact new_cell w0 [_, _, _] _ (0, 0) 2 _ rfl
    clear hb hb' hba
    go_wp2_with fail
    go_ret
    exact Ret.mk ⟨hown.mono (by omega), (below_alloc w0 _).trans (hbel.mono (by simp))⟩
  have h3 : (old.length : Int) < t := by omega
  clear h
  go_enter Try.func26, Try.ntmps26
  go_upto_region 2 with (refine wpList_wanted (by rfl) fun K hK => wp_clone_byts (B := w0.heap.size + 1) _ rfl rfl hba rfl hl (by simp) ?_; intro v w1 hown hbel _; refine hK _ _ ?_; clear hK K)
  have hx1 : w1.cell? ⟨w0.heap.size, 1, none⟩ = some (.int .i64 f) := by rw [hbel.cell (by simp)]; exact new_cell w0 [_, _, _] _ (0, 0) 1 _ rfl
  have hx2 : w1.cell? ⟨w0.heap.size, 2, none⟩ = some (.int .i64 t) := by rw [hbel.cell (by simp)]; exact new_cell w0 [_, _, _] _ (0, 0) 2 _ rfl
  clear hb hb' hba
  go_wp2_with fail
  go_ret
  exact Ret.mk ⟨hown.mono (by omega), (below_alloc w0 _).trans (hbel.mono (by simp))⟩

set_option maxRecDepth 100000 in
set_option maxHeartbeats 1000000 in
theorem ref_lay_yes (A : Option Addr) (n c : Nat) (old : List UInt8) (x f t : Int) (A' : Option Addr) (n' c' : Nat) (b : List UInt8) (w : World) (hb : Byts w A old) (hn : n = old.length) (hb' : Byts w A' b) (hn' : n' = b.length)
    (hl : old.length ≤ 140737488355328) (hl' : b.length ≤ 140737488355328) (h1 : 0 ≤ f) (h2 : f ≤ t) (h3 : t ≤ old.length) :
    Calls Try.prog 26 #[.slice A n c, .agg #[.int .i64 x, .int .i64 f, .int .i64 t], .slice A' n' c'] w (Ret fun v w' => Own w' w.heap.size v (layL old f t b) ∧ Below w.heap.size w w') := by
  subst hn
  subst hn'
  obtain ⟨w0, rfl⟩ : ∃ w0 : World, w0 = w := ⟨_, rfl⟩
  have hba := hb.alloc (.cells #[.int .i64 x, .int .i64 f, .int .i64 t] 32)
  go_enter Try.func26, Try.ntmps26
  go_upto_region 2 with (refine wpList_wanted (by rfl) fun K hK => wp_clone_byts (B := w0.heap.size + 1) _ rfl rfl hba rfl hl (by simp) ?_; intro v w1 hown hbel _; refine hK _ _ ?_; clear hK K)
  obtain ⟨A2, c2, rfl, hc2, hb2, hA2⟩ := hown.byts
  have hbel1 : Below w0.heap.size w0 w1 := (below_alloc w0 _).trans (hbel.mono (by simp))
  have hx1 : w1.cell? ⟨w0.heap.size, 1, none⟩ = some (.int .i64 f) := by rw [hbel.cell (by simp)]; exact new_cell w0 [_, _, _] _ (0, 0) 1 _ rfl
  have hx2 : w1.cell? ⟨w0.heap.size, 2, none⟩ = some (.int .i64 t) := by rw [hbel.cell (by simp)]; exact new_cell w0 [_, _, _] _ (0, 0) 2 _ rfl
  obtain ⟨f, rfl⟩ := Int.eq_ofNat_of_zero_le h1
  obtain ⟨t, rfl⟩ := Int.eq_ofNat_of_zero_le (Int.le_trans h1 h2)
  have hft : f ≤ t := by omega
  have hto : t ≤ old.length := by omega
  have hL : layL old (f : Int) (t : Int) b = old.take f ++ b.take (t - f) ++ old.drop (f + min b.length (t - f)) := by
    unfold layL; rw [if_pos (by omega)]
    have e1 : ((t : Int) - (f : Int)).toNat = t - f := by omega
    rw [e1, Int.toNat_natCast]
  have HL := Lib.hid hL
  clear hL hba hb hb2 hA2 hbel
  go_upto_region 5 with fail
  go_loopw [8] (fun v8 wr => ∃ k : Nat, k ≤ b.length ∧ k ≤ t - f ∧ v8 = .int .i64 (k : Nat) ∧ Own wr (w0.heap.size + 1) (.slice A2 old.length c2) (old.take f ++ b.take k ++ old.drop (f + k)) ∧ Below (w0.heap.size + 1) w1 wr)
    (fun v8 _ => b.length - (intOf v8).toNat)
  case atStart => exact ⟨0, by omega, by omega, rfl, by simpa using hown, Below.refl _ _⟩
  case round =>
    clear hown
    obtain ⟨k, hk1, hk2, rfl, hown, hbel⟩ := hrel
    have hy1 : wr.cell? ⟨w0.heap.size, 1, none⟩ = some (.int .i64 (f : Nat)) := by rw [hbel.cell (by simp)]; exact hx1
    have hy2 : wr.cell? ⟨w0.heap.size, 2, none⟩ = some (.int .i64 (t : Nat)) := by rw [hbel.cell (by simp)]; exact hx2
    have hbr := hb'.below (hbel1.trans (hbel.mono (by omega)))
    by_cases hlt : k < b.length
    · by_cases hlt2 : k < t - f
      · obtain ⟨bb, bo, rfl, hcb⟩ := hbr.at hlt
        have hlen : (old.take f ++ b.take k ++ old.drop (f + k)).length = old.length := by simp; omega
        obtain ⟨g, c3, e, _, hgB, _, hcell, hfrz⟩ := hown.form (by omega)
        simp only [Value.slice.injEq] at e
        obtain ⟨rfl, -, -⟩ := e
        have hc1 := hcell (f + k) (by omega)
        have hf1 := hfrz (f + k)
        have hset := hown.set (f + k) b[k]
        rw [lay_step old b f k hlt (by omega)] at hset
        have hbel' := hbel.setCell (p := ⟨g, f + k, none⟩) hgB (.int .u8 (b[k].toNat : Int))
        have hk1' : (k : Int) < (b.length : Int) := by omega
        have hk2' : (f : Int) + (k : Int) < (old.length : Int) := by omega
        clear hcell hfrz hown hbel hbr hx1 hx2
        generalize (old.take f ++ b.take k ++ old.drop (f + k))[f + k]'(by omega) = oldb at *
        generalize hbk : b[k] = bk at *
        clear hbk hlen
        have hk3 : (k : Int) < (t : Int) - (f : Int) := by omega
        go_upto_region 7 with fail
        go_region
        go_wp2_with fail
        go_roundw
        case rel => exact ⟨k + 1, by omega, by omega, by go_num, hset, hbel'.drew⟩
        case measure => simp [intOf]; omega
      · have hk3 : ¬ (k : Int) < (t : Int) - (f : Int) := by omega
        have hkk : k = t - f := by omega
        have hmin : min b.length (t - f) = t - f := by omega
        rw [hkk] at hown
        have HL2 := Lib.hid (show layL old (f : Int) (t : Int) b = old.take f ++ b.take (t - f) ++ old.drop (f + (t - f)) from by rw [HL.out, hmin])
        clear hkk hmin hbr
        go_wp2_with fail
        go_ret
        exact Ret.mk ⟨by rw [HL2.out]; exact hown.mono (by omega), hbel1.trans (hbel.mono (by omega))⟩
    · have hkk : k = b.length := by omega
      have hmin : min b.length (t - f) = b.length := by omega
      rw [hkk] at hown
      have HL2 := Lib.hid (show layL old (f : Int) (t : Int) b = old.take f ++ b.take b.length ++ old.drop (f + b.length) from by
        rw [HL.out, hmin, List.take_of_length_le (l := b) (by omega), List.take_of_length_le (l := b) (by omega)])
      clear hkk hmin hbr
      go_wp2_with fail
      go_ret
      exact Ret.mk ⟨by rw [HL2.out]; exact hown.mono (by omega), hbel1.trans (hbel.mono (by omega))⟩

theorem ref_lay (A : Option Addr) (n c : Nat) (old : List UInt8) (x f t : Int) (A' : Option Addr) (n' c' : Nat) (b : List UInt8) (w : World) (hb : Byts w A old) (hn : n = old.length) (hb' : Byts w A' b) (hn' : n' = b.length)
    (hl : old.length ≤ 140737488355328) (hl' : b.length ≤ 140737488355328) :
    Calls Try.prog 26 #[.slice A n c, .agg #[.int .i64 x, .int .i64 f, .int .i64 t], .slice A' n' c'] w (Ret fun v w' => Own w' w.heap.size v (layL old f t b) ∧ Below w.heap.size w w') := by
  by_cases h : 0 ≤ f ∧ f ≤ t ∧ t ≤ old.length
  · exact ref_lay_yes A n c old x f t A' n' c' b w hb hn hb' hn' hl hl' h.1 h.2.1 h.2.2
  · have := ref_lay_no A n c old x f t A' n' c' b w hb hn hb' hn' hl hl' (by omega)
    unfold layL
    rw [if_neg h]
    exact this
end Go.Proofs.Ytcdbndgmfjlmbaa
