/- The contract of the helper that holds two lists of pieces against each other. -/
import Derived.Test.YtcdbndgmfjlmbaaCut
import Derived.Deep.RegionHeld3
set_option linter.unusedVariables false
namespace Go.Proofs.Ytcdbndgmfjlmbaa
open Go.RowKit

theorem Kind.At.drew {P : Program} {α : Type} {k : Kind P α} {w : World} {A : Option Addr} {l : List α} (h : k.At w A l) : k.At w.drew A l := h.below (Below.refl _ _).drew

theorem enc0 (x : Nat × Nat × Nat) : (kPiece.enc x)[0]? = some (.int .i64 (x.1 : Int)) := rfl
theorem enc1 (x : Nat × Nat × Nat) : (kPiece.enc x)[1]? = some (.int .i64 (x.2.1 : Int)) := rfl
theorem enc2 (x : Nat × Nat × Nat) : (kPiece.enc x)[2]? = some (.int .i64 (x.2.2 : Int)) := rfl

set_option maxRecDepth 100000 in
set_option maxHeartbeats 1000000 in
theorem plain_piece_1 (x y : Nat × Nat × Nat) (w : World) :
    Calls Try.prog 45 #[.agg #[.int .i64 (x.1 : Int), .int .i64 (x.2.1 : Int), .int .i64 (x.2.2 : Int)], .agg #[.int .i64 (y.1 : Int), .int .i64 (y.2.1 : Int), .int .i64 (y.2.2 : Int)]] w
      fun e w' => e = .returned (.bool (x == y)) ∧ Below w.heap.size w w' := by
  obtain ⟨x1, x2, x3⟩ := x
  obtain ⟨y1, y2, y3⟩ := y
  go_enter Try.func45, Try.ntmps45
  go_wp2_with fail
  all_goals go_ret
  all_goals refine ⟨ret_bool ?_, ((Below.refl _ _).alloc (Nat.le_refl _) _).alloc (by simp) _⟩
  all_goals (rw [Bool.eq_iff_iff]; simp; omega)

set_option maxRecDepth 100000 in
set_option maxHeartbeats 2000000 in
theorem same_piece (A : Option Addr) (n c : Nat) (l : List (Nat × Nat × Nat)) (A' : Option Addr) (n' c' : Nat) (l' : List (Nat × Nat × Nat)) (w : World) (hb : kPiece.At w A l) (hn : n = l.length) (hb' : kPiece.At w A' l') (hn' : n' = l'.length) (hl : l.length ≤ 140737488355328) (hl' : l'.length ≤ 140737488355328) :
    Calls Try.prog 44 #[.slice A n c, .slice A' n' c', .func (.func 45) #[] #[]] w fun e w' => e = .returned (.bool (l == l')) ∧ Below w.heap.size w w' := by
  subst hn
  subst hn'
  by_cases hne : l.length = l'.length
  · have hne1 : ((l.length : Int) != (l'.length : Int)) = false := by simp [hne]
    have Hne := Lib.hid hne
    have hle : l.length ≤ l'.length := by omega
    clear hne
    go_enter Try.func44, Try.ntmps44
    obtain ⟨w0, rfl⟩ : ∃ w0 : World, w0 = w := ⟨_, rfl⟩
    go_upto_region 4 with fail
    go_loopw [7] (fun v7 wr => ∃ k : Nat, k ≤ l.length ∧ v7 = .int .i64 k ∧ Hid (l.take k = l'.take k) ∧ Below w0.heap.size w0 wr) (fun v7 _ => l.length - (intOf v7).toNat)
    case atStart => exact ⟨0, Nat.zero_le _, rfl, (rfl : ([] : List (Nat × Nat × Nat)) = []), Below.refl _ _⟩
    case round =>
      obtain ⟨k, hk, rfl, hpre, hbel⟩ := hrel
      have hbr := hb.below hbel
      have hbr' := hb'.below hbel
      have hsz := hbel.size
      clear hb hb'
      by_cases hlt : k < l.length
      · obtain ⟨b, off, rfl, hbb, hc⟩ := hbr.at hlt
        obtain ⟨b', off', rfl, hbb', hc'⟩ := hbr'.at (show k < l'.length by omega)
        have c0 := hc 0 _ (enc0 _)
        have c1 := hc 1 _ (enc1 _)
        have c2 := hc 2 _ (enc2 _)
        have c0' := hc' 0 _ (enc0 _)
        have c1' := hc' 1 _ (enc1 _)
        have c2' := hc' 2 _ (enc2 _)
        have hk2 : (k : Int) < (l'.length : Int) := by omega
        have hk1 : (k : Int) < (l.length : Int) := by omega
        clear hbr hbr' hc hc'
        simp only [kPiece, Nat.add_zero] at c0 c1 c2 c0' c1' c2'
        have Hstep := Lib.hid (show l[k] = l'[k]'(by omega) → l.take (k + 1) = l'.take (k + 1) from fun hxy => by
            rw [List.take_succ_eq_append_getElem hlt, List.take_succ_eq_append_getElem (by omega), hpre.out, hxy])
        have Hno := Lib.hid (show l[k] ≠ l'[k]'(by omega) → (l == l') = false from fun hxy => by
            rw [beq_eq_false_iff_ne]; rintro rfl; exact hxy rfl)
        clear hpre
        generalize l[k] = x at *
        generalize l'[k]'(by omega) = y at *
        go_upto_region 6 with fail
        go_region_held3 (fun w' => w'.cell? ⟨b, off + k * 3, none⟩ = some (.int .i64 (x.1 : Int)) ∧ w'.cell? ⟨b, off + k * 3 + 1, none⟩ = some (.int .i64 (x.2.1 : Int)) ∧ w'.cell? ⟨b, off + k * 3 + 2, none⟩ = some (.int .i64 (x.2.2 : Int)) ∧
            w'.cell? ⟨b', off' + k * 3, none⟩ = some (.int .i64 (y.1 : Int)) ∧ w'.cell? ⟨b', off' + k * 3 + 1, none⟩ = some (.int .i64 (y.2.1 : Int)) ∧ w'.cell? ⟨b', off' + k * 3 + 2, none⟩ = some (.int .i64 (y.2.2 : Int)))
          (first | exact ⟨c0, c1, c2, c0', c1', c2'⟩ | exact ⟨(hb1.cell hbb).trans c0, (hb1.cell hbb).trans c1, (hb1.cell hbb).trans c2, (hb1.cell hbb').trans c0', (hb1.cell hbb').trans c1', (hb1.cell hbb').trans c2'⟩)
          ((go_at_call 45; refine (plain_piece_1 x y _).mono ?_; rintro e w1 ⟨rfl, hb1⟩))
        have hbel1 : Below w0.heap.size w0 w1 := hbel.drew.trans (hb1.mono hsz)
        clear c0 c1 c2 c0' c1' c2' hb1 hbel
        generalize hq : (x == y) = q
        cases q with
        | true =>
          have Hpre : Hid (l.take (k + 1) = l'.take (k + 1)) := Hstep.out (by simpa using hq)
          clear hq
          go_wp2_with fail
          go_roundw
          case rel => exact ⟨k + 1, by omega, by go_num, Hpre, hbel1⟩
          case measure => simp [intOf]; omega
        | false =>
          have Hll := Lib.hid (Hno.out (by simpa using hq))
          clear hq
          go_wp2_with fail
          go_ret
          exact ⟨ret_bool Hll.out.symm, hbel1⟩
      · have hll : (l == l') = true := by
          have h1 := hpre.out
          have h2 := Hne.out
          rw [List.take_of_length_le (by omega), List.take_of_length_le (by omega)] at h1
          rw [h1]; simp
        have Hll := Lib.hid hll
        clear hll hpre hbr hbr'
        go_wp2_with fail
        go_ret
        exact ⟨ret_bool Hll.out.symm, hbel⟩
  · have hne1 : ((l.length : Int) != (l'.length : Int)) = true := by simp; omega
    have hll : (l == l') = false := by
      rw [beq_eq_false_iff_ne]; intro e; exact hne (by rw [e])
    rw [hll]
    go_enter Try.func44, Try.ntmps44
    go_wp2_with fail
    go_ret
    exact ⟨rfl, Below.refl _ _⟩

set_option maxHeartbeats 400000 in
theorem plain_piece (A : Option Addr) (n c : Nat) (l : List (Nat × Nat × Nat)) (A' : Option Addr) (n' c' : Nat) (l' : List (Nat × Nat × Nat)) (w : World) (hb : kPiece.At w A l) (hn : n = l.length) (hb' : kPiece.At w A' l') (hn' : n' = l'.length) (hl : l.length ≤ 140737488355328) (hl' : l'.length ≤ 140737488355328) :
    Calls Try.prog 21 #[.slice A n c, .slice A' n' c'] w fun e w' => e = .returned (.bool (l == l')) ∧ Below w.heap.size w w' := by
  have H := Lib.hid (same_piece A n c l A' n' c' l' w hb hn hb' hn' hl hl')
  clear hn hn' hb hb'
  go_enter Try.func21, Try.ntmps21
  go_wp2_with (go_at_call 44; refine H.out.mono ?_; rintro e w' ⟨rfl, hw⟩)
  go_ret
  exact ⟨rfl, hw⟩
end Go.Proofs.Ytcdbndgmfjlmbaa
