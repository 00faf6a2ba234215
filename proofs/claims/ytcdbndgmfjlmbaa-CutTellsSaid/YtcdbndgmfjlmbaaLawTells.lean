/- The walk of CutTells. -/
import Derived.Test.YtcdbndgmfjlmbaaLawCut
set_option linter.unusedVariables false
namespace Go.Proofs.Ytcdbndgmfjlmbaa
open Go.RowKit

/-- What stands while the calls of CutTells go on. -/
structure CtxCut (w0 : World) (A A' : Option Addr) (l l' : List UInt8) (g2 g3 : Nat) (x f t : Int) (w : World) : Prop where
  b : Byts w A l
  b' : Byts w A' l'
  i2 : Byts w (some ⟨g2, 0, none⟩) (l ++ [71, 71, 71])
  i3 : Byts w (some ⟨g3, 0, none⟩) (l' ++ [72, 72, 72])
  c0 : w.cell? ⟨w0.heap.size, 0, none⟩ = some (.int .i64 x)
  c1 : w.cell? ⟨w0.heap.size, 1, none⟩ = some (.int .i64 f)
  c2 : w.cell? ⟨w0.heap.size, 2, none⟩ = some (.int .i64 t)
  lt : w0.heap.size < w.heap.size
  bel : Below w0.heap.size w0 w

theorem CtxCut.below {w0 : World} {A A' : Option Addr} {l l' : List UInt8} {g2 g3 : Nat} {x f t : Int} {w w' : World} (h : CtxCut w0 A A' l l' g2 g3 x f t w) (hx : Below w.heap.size w w') : CtxCut w0 A A' l l' g2 g3 x f t w' where
  b := h.b.below hx
  b' := h.b'.below hx
  i2 := h.i2.below hx
  i3 := h.i3.below hx
  c0 := (hx.cell (p := ⟨w0.heap.size, 0, none⟩) h.lt).trans h.c0
  c1 := (hx.cell (p := ⟨w0.heap.size, 1, none⟩) h.lt).trans h.c1
  c2 := (hx.cell (p := ⟨w0.heap.size, 2, none⟩) h.lt).trans h.c2
  lt := Nat.lt_of_lt_of_le h.lt hx.size
  bel := h.bel.trans (hx.mono h.bel.size)

theorem CtxCut.in2 {w0 : World} {A A' : Option Addr} {l l' : List UInt8} {g2 g3 : Nat} {x f t : Int} {w : World} (h : CtxCut w0 A A' l l' g2 g3 x f t w) : Byts w (some ⟨g2, 0, none⟩) l := by
  have := h.i2.take l.length; simpa using this
theorem CtxCut.in3 {w0 : World} {A A' : Option Addr} {l l' : List UInt8} {g2 g3 : Nat} {x f t : Int} {w : World} (h : CtxCut w0 A A' l l' g2 g3 x f t w) : Byts w (some ⟨g3, 0, none⟩) l' := by
  have := h.i3.take l'.length; simpa using this

theorem pcs_length (off n page : Int) : (pcs off n page).length ≤ 2147483648 := by
  unfold pcs
  split
  · simp
  · rw [piecesN_length]
    have := count_le (off := off.toNat) (e := off.toNat + n.toNat) (pg := page.toNat)
    omega

/-- Two calls of one function: the bytes come by the last number. -/
theorem kept_some (A : Option Addr) (n c : Nat) (A' : Option Addr) (n' c' : Nat) (k : Int) (w : World)
    (h : ∃ (l : List UInt8) (f : UInt8), k = (f.toNat : Int) ∧ Byts w A (l ++ [f, f, f]) ∧ n = l.length ∧ l.length + 3 ≤ c ∧ c ≤ 9223372036854775807 ∧ Byts w A' l ∧ n' = l.length ∧ l.length ≤ 140737488355328) :
    Calls Try.prog 29 #[.slice A n c, .slice A' n' c', .int .u8 k] w fun e w' => e = .returned (.bool true) ∧ ∃ m, w' = w.drewN m := by
  obtain ⟨l, f, rfl, hb, rfl, h3, h4, hb', rfl, hl⟩ := h
  exact kept_byte A _ c A' _ c' l f w hb rfl h3 h4 hb' rfl hl

set_option maxRecDepth 100000 in
set_option maxHeartbeats 4000000 in
theorem cutTells_walk {w : World} (off : Int) (woff : (Lit.int .i64 off).wf = true) (n : Int) (wn : (Lit.int .i64 n).wf = true) (page : Int) (wpage : (Lit.int .i64 page).wf = true)
    (A : Option Addr) (c : Nat) (l : List UInt8) (hcap : l.length ≤ c ∧ c ≤ maxLen) (hb : Byts w A l) (hl : l.length ≤ 140737488351232)
    (x f t : Int)
    (A' : Option Addr) (c' : Nat) (l' : List UInt8) (hcap' : l'.length ≤ c' ∧ c' ≤ maxLen) (hb' : Byts w A' l') (hl' : l'.length ≤ 140737488351232) :
    Calls Try.prog 7 #[.int .i64 off, .int .i64 n, .int .i64 page, .slice A l.length c, .agg #[.int .i64 x, .int .i64 f, .int .i64 t], .slice A' l'.length c'] w fun e w' => e = .returned (.bool true) ∧ Below w.heap.size w w' := by
  have bo := wf_i64 woff
  have bn := wf_i64 wn
  have bp := wf_i64 wpage
  clear woff wn wpage hcap hcap'
  obtain ⟨w0, rfl⟩ : ∃ w0 : World, w0 = w := ⟨_, rfl⟩
  by_cases h1 : (500 : Int) < l.length
  · go_enter Try.func7, Try.ntmps7
    go_wp2_with (go_at_call 19; refine (awake21 _).mono ?_; rintro e w' ⟨rfl, hbel⟩)
    go_ret
    exact ⟨rfl, (below_alloc w0 _).trans (hbel.mono (by simp))⟩
  by_cases h2 : (500 : Int) < l'.length
  · go_enter Try.func7, Try.ntmps7
    go_wp2_with (go_at_call 19; refine (awake21 _).mono ?_; rintro e w' ⟨rfl, hbel⟩)
    go_ret
    exact ⟨rfl, (below_alloc w0 _).trans (hbel.mono (by simp))⟩
  go_enter Try.func7, Try.ntmps7
  go_upto_region 3 with fail
  have hbox := new_cell w0 [.int .i64 x, .int .i64 f, .int .i64 t] 32 (0, 0)
  have x0 := hbox 0 _ rfl
  have x1 := hbox 1 _ rfl
  have x2 := hbox 2 _ rfl
  have hbel0 := below_alloc w0 (.cells [.int .i64 x, .int .i64 f, .int .i64 t].toArray 32 (0, 0))
  have hlt0 : w0.heap.size < (w0.alloc (.cells [.int .i64 x, .int .i64 f, .int .i64 t].toArray 32 (0, 0))).heap.size := by simp
  have hb0 := hb.below hbel0
  have hb0' := hb'.below hbel0
  clear hbox hb hb'
  generalize w0.alloc (.cells [.int .i64 x, .int .i64 f, .int .i64 t].toArray 32 (0, 0)) = w1 at *
  go_cut [35] (fun v35 w' => ∃ q : Bool, v35 = .bool q ∧ w' = w1)
  case first =>
    clear x0 x1 x2
    go_wp2_with fail
    all_goals (go_meet; exact ⟨_, rfl, rfl⟩)
  case rest =>
    obtain ⟨q, rfl, rfl⟩ := hcut
    go_upto_if 35 with fail
    go_cut [1] (fun v1 w' => ∃ m : Int, v1 = .int .i64 m ∧ -9223372036854775808 ≤ m ∧ m ≤ 9223372036854775807 ∧ w' = wc)
    case first =>
      cases q with
      | true =>
        go_wp2_with fail
        go_meet
        have t1 := Int.tmod_lt_of_pos n (show (0 : Int) < 5000 by decide)
        have t2 := Int.lt_tmod_of_pos n (show (0 : Int) < 5000 by decide)
        exact ⟨_, rfl, by omega, by omega, rfl⟩
      | false =>
        go_wp2_with fail
        go_meet
        exact ⟨_, rfl, bn.1, bn.2, rfl⟩
    case rest =>
      obtain ⟨m, rfl, hm1, hm2, rfl⟩ := hcut
      clear bn
      have hs1 := hbel0.size
      go_upto_region 6 with (first
        | (go_at_call 20; refine (own_byte A l.length c l 71 _ hb0 rfl (by omega)).mono ?_; rintro e w2 ⟨v2, rfl, g2, rfl, hin2, hbel2, hg2⟩; have hb2 := hb0.below hbel2; have hb2' := hb0'.below hbel2; have y0 := (hbel2.cell (p := ⟨w0.heap.size, 0, none⟩) hlt0).trans x0; have y1 := (hbel2.cell (p := ⟨w0.heap.size, 1, none⟩) hlt0).trans x1; have y2 := (hbel2.cell (p := ⟨w0.heap.size, 2, none⟩) hlt0).trans x2; have hlt2 := Nat.lt_of_lt_of_le hlt0 hbel2.size; have hbelA := hbel0.trans (hbel2.mono hs1); clear hb0 hb0' x0 x1 x2 hbel2 hg2)
        | (go_at_call 20; refine (own_byte A' l'.length c' l' 72 _ hb2' rfl (by omega)).mono ?_; rintro e w3 ⟨v3, rfl, g3, rfl, hon3, hbel3, hg3⟩; have hC : CtxCut w0 A A' l l' g2 g3 x f t w3 := ⟨hb2.below hbel3, hb2'.below hbel3, hin2.below hbel3, hon3, (hbel3.cell (p := ⟨w0.heap.size, 0, none⟩) hlt2).trans y0, (hbel3.cell (p := ⟨w0.heap.size, 1, none⟩) hlt2).trans y1, (hbel3.cell (p := ⟨w0.heap.size, 2, none⟩) hlt2).trans y2, Nat.lt_of_lt_of_le hlt2 hbel3.size, hbelA.trans (hbel3.mono hbelA.size)⟩; clear hb2 hb2' hin2 y0 y1 y2 hbel3 hg3 hbelA hon3 hlt2))
      clear hbel0 hlt0 hs1
      replace hC := hC.below (Below.refl _ _).drew
      have hbp := bp.2
      have hlp : (pcs off m page).length ≤ 140737488355328 := Nat.le_trans (pcs_length off m page) (by decide)
      have hll : l.length ≤ 140737488355328 := by omega
      have hll' : l'.length ≤ 140737488355328 := by omega
      obtain ⟨z, hz⟩ : ∃ z, (if 0 < m ∧ 0 < page then (m - 1) / page + 1 else 0) = z := ⟨_, rfl⟩
      have HZ := Lib.hid hz
      clear hz
      go_region_held3 (fun w' => w'.cell? ⟨w0.heap.size, 0, none⟩ = some (.int .i64 x) ∧ w'.cell? ⟨w0.heap.size, 1, none⟩ = some (.int .i64 f) ∧ w'.cell? ⟨w0.heap.size, 2, none⟩ = some (.int .i64 t))
        (exact ⟨hC.c0, hC.c1, hC.c2⟩)
        (first
          | (go_at_call 19; refine (awake21 _).mono ?_; rintro e w4 ⟨rfl, hx⟩; replace hC := hC.below hx; clear hx)
          | (go_at_call 22; refine (cut_pieces _ _ _ _ hbp).mono ?_; rintro e w5 ⟨v1, rfl, hown1, hx⟩; replace hC := hC.below hx; clear hx)
          | (go_at_call 23; refine (ref_pieces _ _ _ _ hbp).mono ?_; rintro e w6 ⟨v2, rfl, hown2, hx⟩; replace hC := hC.below hx; replace hown1 := hown1.below hx; obtain ⟨A1, c1, rfl, -, hat1, -⟩ := hown1.read; obtain ⟨A2, c2, rfl, -, hat2, -⟩ := hown2.read; clear hx hown1 hown2)
          | (go_at_call 21; refine (plain_piece _ _ _ _ _ _ _ _ _ hat1 rfl hat2 rfl hlp hlp).mono ?_; rintro e w7 ⟨rfl, hx⟩; replace hC := hC.below hx; clear hx hat1 hat2)
          | (go_at_call 25; refine (cut_lay _ _ _ _ _ _ _ _ _ _ _ _ hC.in2 rfl hC.in3 rfl hll hll').mono ?_; rintro e w8 ⟨v3, rfl, hl1, hx⟩; replace hC := hC.below hx; clear hx)
          | (go_at_call 26; refine (ref_lay _ _ _ _ _ _ _ _ _ _ _ _ hC.b rfl hC.b' rfl hll hll').mono ?_; rintro e w9 ⟨v4, rfl, hl2, hx⟩; replace hC := hC.below hx; replace hl1 := hl1.below hx; obtain ⟨A3, c3, rfl, -, hr1, -⟩ := hl1.byts; obtain ⟨A4, c4, rfl, -, hr2, -⟩ := hl2.byts; clear hx hl1 hl2)
          | (go_at_call 24; refine (help_bytes _ _ _ _ _ _ _ _ _ hr1 rfl hr2 rfl).mono ?_; rintro e w' ⟨rfl, rfl⟩)
          | (go_at_call 27; refine (cut_ceil _ _ _ hm2).mono ?_; rintro e w' ⟨rfl, rfl⟩; rw [HZ.out])
          | (go_at_call 28; refine (ref_ceil _ _ _ hm2).mono ?_; rintro e w' ⟨rfl, rfl⟩; rw [HZ.out])
          | (go_at_call 29; refine (kept_some _ _ _ _ _ _ _ _ (by first | exact ⟨l, 71, rfl, hC.i2, rfl, by omega, by omega, hC.b, rfl, hll⟩ | exact ⟨l', 72, rfl, hC.i3, rfl, by omega, by omega, hC.b', rfl, hll'⟩)).mono ?_; rintro e w' ⟨rfl, mm, rfl⟩; replace hC := hC.below (below_drewN (Below.refl _ _) mm)))
      go_wp2_with fail
      go_ret
      exact ⟨rfl, by have := hC.bel; simpa [World.drewN_drewN] using this⟩
end Go.Proofs.Ytcdbndgmfjlmbaa
