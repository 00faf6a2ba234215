/- The reference's reader of deeds. -/
import Derived.Test.YtdieeleaaejfhaaPackRW
import Derived.Test.YtdieeleaaejfhaaPackR
set_option linter.unusedVariables false
set_option maxRecDepth 100000
set_option linter.unusedSimpArgs false
namespace Go.Proofs.Ytdieeleaaejfhaa
open Go.RowKit

/-- The reference's reader at block rb: its place, and whether something was wrong. -/
structure RRd (w : World) (rb : Nat) (A : Option Addr) (n c : Nat) (b : List UInt8) (a : Int) (bad : Bool) : Prop where
  blk : Blk w rb 103 [.slice A n c, .int .i64 a, .bool bad]
  by' : Byts w A b
  len : b.length = n
  cap : n ≤ c ∧ c ≤ maxLen
  lim : n ≤ 100000000
  far : ∀ y, A = some y → 0 < n → y.block ≠ rb
section
variable {w : World} {rb n c : Nat} {A : Option Addr} {b : List UInt8} {a : Int} {bad : Bool}
theorem RRd.below {w' : World} (h : RRd w rb A n c b a bad) (hb : Below w.heap.size w w') : RRd w' rb A n c b a bad := ⟨h.blk.below hb, h.by'.below hb, h.len, h.cap, h.lim, h.far⟩
theorem RRd.turn (h : RRd w rb A n c b a bad) (a' : Int) (bad' : Bool) : RRd ((w.setCell ⟨rb, 1, none⟩ (.int .i64 a')).setCell ⟨rb, 2, none⟩ (.bool bad')) rb A n c b a' bad' := by
  have ho : Only [rb] w ((w.setCell ⟨rb, 1, none⟩ (.int .i64 a')).setCell ⟨rb, 2, none⟩ (.bool bad')) := ((Only.refl [rb] w).setCell (by simp) _).setCell (by simp) _
  exact ⟨(h.blk.set 1 _).set 2 _, h.by'.only ho (fun y e h0 hm => h.far y e (by rw [h.len] at h0; exact h0) (by simpa using hm)), h.len, h.cap, h.lim, h.far⟩

set_option maxHeartbeats 4000000 in
theorem rr_number (h : RRd w rb A n c b a bad) (h0 : 0 ≤ a) (h1 : a ≤ 1000000000000) {x y : Nat} (hxy : getR b a 8 = (x, y)) :
    Calls Try.prog 61 #[.pointer (some ⟨rb, 0, none⟩)] w fun e w' => e = .returned (.int .i64 (wrap64 (x : Int))) ∧ RRd w' rb A n c b (a + 8) (bad || decide (y ≠ 0)) ∧ Only [rb] w w' := by
  obtain ⟨w0, rfl⟩ : ∃ w0 : World, w0 = w := ⟨_, rfl⟩
  have hlim := h.lim
  have HC := Lib.hid (fun (W : World) (hB : Byts W A b) => ref_get' A n c b a 8 W hxy hB h.len.symm (by rw [h.len]; omega) (by omega) (by omega) (by decide) (by decide))
  have HB := Lib.hid (fun (W : World) (hb : Below w0.heap.size w0 W) => h.by'.below hb)
  have c0 := h.blk.cell 0 _ rfl
  have c1 := h.blk.cell 1 _ rfl
  have HF := Lib.hid h
  have hlt := h.blk.lt
  have hC : Below w0.heap.size w0 w0.drew := (Below.refl _ _).drew
  clear h hxy
  go_enter Try.func61, Try.ntmps61
  go_upto_region 1 with fail
  go_region_held3 (fun w' => w'.cell? ⟨rb, 0, none⟩ = some (.slice A n c) ∧ w'.cell? ⟨rb, 1, none⟩ = some (.int .i64 a))
    (exact ⟨(hC.cell (p := ⟨rb, 0, none⟩) hlt).trans c0, (hC.cell (p := ⟨rb, 1, none⟩) hlt).trans c1⟩)
    (first | (go_at_call 59; refine (HC.out _ (HB.out _ hC)).mono ?_; rintro e w1 ⟨rfl, mm, rfl⟩; replace hC := below_drewN hC mm))
  have hR1 := HF.out.below (below_drewN (Below.refl w0.heap.size w0) (1 + mm))
  have hB1 : Only [rb] w0 (w0.drewN (1 + mm)) := (Only.refl [rb] w0).drewN _
  clear c0 c1 HB HF HC hC
  generalize w0.drewN (1 + mm) = w1 at *
  obtain ⟨nb, HNB⟩ : ∃ nb, Hid ((bad || decide (y ≠ 0)) = nb) := ⟨_, rfl⟩
  have hT := hR1.turn (a + 8) nb
  have hO : Only [rb] w0 ((w1.setCell ⟨rb, 1, none⟩ (.int .i64 (a + 8))).setCell ⟨rb, 2, none⟩ (.bool nb)) := (hB1.setCell (Or.inl (by simp)) _).setCell (Or.inl (by simp)) _
  have HTO := Lib.hid (And.intro hT hO)
  have c1 := hR1.blk.cell 1 _ rfl
  have c2 := hR1.blk.cell 2 _ rfl
  have f1 := hR1.blk.frz 1
  have f2 := hR1.blk.frz 2
  clear hR1 hB1 hT hO
  cases bad with
  | true =>
    have hnb : nb = true := by rw [← HNB.out]; rfl
    subst hnb
    go_upto_region 2 with fail
    go_region
    go_wp2_with fail
    go_ret
    exact ⟨rfl, by rw [HNB.out]; exact HTO.out.1.below (Below.refl _ _).drew, HTO.out.2.drewN 1⟩
  | false =>
    by_cases hy : y = 0
    · have hyI : ((y : Int) != 0) = false := by simp; exact hy
      have hnb : nb = false := by rw [← HNB.out]; simp [hy]
      subst hnb
      have HY := Lib.hid hy
      clear hy
      go_upto_region 2 with fail
      go_region
      go_wp2_with fail
      go_ret
      exact ⟨rfl, by rw [HNB.out]; exact HTO.out.1.below (Below.refl _ _).drew, HTO.out.2.drewN 1⟩
    · have hyI : ((y : Int) != 0) = true := by simp; exact hy
      have hnb : nb = true := by rw [← HNB.out]; simp [hy]
      subst hnb
      have HY := Lib.hid hy
      clear hy
      go_upto_region 2 with fail
      go_region
      go_wp2_with fail
      go_ret
      exact ⟨rfl, by rw [HNB.out]; exact HTO.out.1.below (Below.refl _ _).drew, HTO.out.2.drewN 1⟩

set_option maxHeartbeats 4000000 in
theorem rr_many (h : RRd w rb A n c b a bad) (h0 : 0 ≤ a) (h1 : a ≤ 1000000000000) {x y : Nat} (hxy : getR b a 4 = (x, y)) :
    Calls Try.prog 75 #[.pointer (some ⟨rb, 0, none⟩)] w fun e w' => e = .returned (.int .i64 (wrap64 (x : Int))) ∧ RRd w' rb A n c b (a + 4) (bad || decide (y ≠ 0)) ∧ Only [rb] w w' := by
  obtain ⟨w0, rfl⟩ : ∃ w0 : World, w0 = w := ⟨_, rfl⟩
  have hlim := h.lim
  have HC := Lib.hid (fun (W : World) (hB : Byts W A b) => ref_get' A n c b a 4 W hxy hB h.len.symm (by rw [h.len]; omega) (by omega) (by omega) (by decide) (by decide))
  have HB := Lib.hid (fun (W : World) (hb : Below w0.heap.size w0 W) => h.by'.below hb)
  have c0 := h.blk.cell 0 _ rfl
  have c1 := h.blk.cell 1 _ rfl
  have HF := Lib.hid h
  have hlt := h.blk.lt
  have hC : Below w0.heap.size w0 w0.drew := (Below.refl _ _).drew
  clear h hxy
  go_enter Try.func75, Try.ntmps75
  go_upto_region 1 with fail
  go_region_held3 (fun w' => w'.cell? ⟨rb, 0, none⟩ = some (.slice A n c) ∧ w'.cell? ⟨rb, 1, none⟩ = some (.int .i64 a))
    (exact ⟨(hC.cell (p := ⟨rb, 0, none⟩) hlt).trans c0, (hC.cell (p := ⟨rb, 1, none⟩) hlt).trans c1⟩)
    (first | (go_at_call 59; refine (HC.out _ (HB.out _ hC)).mono ?_; rintro e w1 ⟨rfl, mm, rfl⟩; replace hC := below_drewN hC mm))
  have hR1 := HF.out.below (below_drewN (Below.refl w0.heap.size w0) (1 + mm))
  have hB1 : Only [rb] w0 (w0.drewN (1 + mm)) := (Only.refl [rb] w0).drewN _
  clear c0 c1 HB HF HC hC
  generalize w0.drewN (1 + mm) = w1 at *
  obtain ⟨nb, HNB⟩ : ∃ nb, Hid ((bad || decide (y ≠ 0)) = nb) := ⟨_, rfl⟩
  have hT := hR1.turn (a + 4) nb
  have hO : Only [rb] w0 ((w1.setCell ⟨rb, 1, none⟩ (.int .i64 (a + 4))).setCell ⟨rb, 2, none⟩ (.bool nb)) := (hB1.setCell (Or.inl (by simp)) _).setCell (Or.inl (by simp)) _
  have HTO := Lib.hid (And.intro hT hO)
  have c1 := hR1.blk.cell 1 _ rfl
  have c2 := hR1.blk.cell 2 _ rfl
  have f1 := hR1.blk.frz 1
  have f2 := hR1.blk.frz 2
  clear hR1 hB1 hT hO
  cases bad with
  | true =>
    have hnb : nb = true := by rw [← HNB.out]; rfl
    subst hnb
    go_upto_region 2 with fail
    go_region
    go_wp2_with fail
    go_ret
    exact ⟨rfl, by rw [HNB.out]; exact HTO.out.1.below (Below.refl _ _).drew, HTO.out.2.drewN 1⟩
  | false =>
    by_cases hy : y = 0
    · have hyI : ((y : Int) != 0) = false := by simp; exact hy
      have hnb : nb = false := by rw [← HNB.out]; simp [hy]
      subst hnb
      have HY := Lib.hid hy
      clear hy
      go_upto_region 2 with fail
      go_region
      go_wp2_with fail
      go_ret
      exact ⟨rfl, by rw [HNB.out]; exact HTO.out.1.below (Below.refl _ _).drew, HTO.out.2.drewN 1⟩
    · have hyI : ((y : Int) != 0) = true := by simp; exact hy
      have hnb : nb = true := by rw [← HNB.out]; simp [hy]
      subst hnb
      have HY := Lib.hid hy
      clear hy
      go_upto_region 2 with fail
      go_region
      go_wp2_with fail
      go_ret
      exact ⟨rfl, by rw [HNB.out]; exact HTO.out.1.below (Below.refl _ _).drew, HTO.out.2.drewN 1⟩

set_option maxHeartbeats 4000000 in
theorem rr_text (h : RRd w rb A n c b a bad) (h0 : 0 ≤ a) (h1 : a ≤ 1000000000000) {x : List UInt8} {z : Int} {y : Nat} (hxy : getT b a = (x, z, y)) :
    Calls Try.prog 74 #[.pointer (some ⟨rb, 0, none⟩)] w fun e w' => e = .returned (.string (strOf x)) ∧ RRd w' rb A n c b z (bad || decide (y ≠ 0)) ∧ Only [rb] w w' := by
  obtain ⟨w0, rfl⟩ : ∃ w0 : World, w0 = w := ⟨_, rfl⟩
  have hlim := h.lim
  have HC := Lib.hid (fun (W : World) (hB : Byts W A b) => ref_getText A n c b a W hxy hB h.len.symm (by rw [h.len]; exact h.cap.1) (by rw [h.len]; omega) (by omega) (by omega))
  have HB := Lib.hid (fun (W : World) (hb : Below w0.heap.size w0 W) => h.by'.below hb)
  have c0 := h.blk.cell 0 _ rfl
  have c1 := h.blk.cell 1 _ rfl
  have HF := Lib.hid h
  have hlt := h.blk.lt
  have hC : Below w0.heap.size w0 w0.drew := (Below.refl _ _).drew
  clear h hxy
  go_enter Try.func74, Try.ntmps74
  go_upto_region 1 with fail
  go_region_held3 (fun w' => w'.cell? ⟨rb, 0, none⟩ = some (.slice A n c) ∧ w'.cell? ⟨rb, 1, none⟩ = some (.int .i64 a))
    (exact ⟨(hC.cell (p := ⟨rb, 0, none⟩) hlt).trans c0, (hC.cell (p := ⟨rb, 1, none⟩) hlt).trans c1⟩)
    (first | (go_at_call 86; refine (HC.out _ (HB.out _ hC)).mono ?_; rintro e w1 ⟨rfl, mm, rfl⟩; replace hC := below_drewN hC mm))
  have hR1 := HF.out.below (below_drewN (Below.refl w0.heap.size w0) (1 + mm))
  have hB1 : Only [rb] w0 (w0.drewN (1 + mm)) := (Only.refl [rb] w0).drewN _
  clear c0 c1 HB HF HC hC
  generalize w0.drewN (1 + mm) = w1 at *
  obtain ⟨nb, HNB⟩ : ∃ nb, Hid ((bad || decide (y ≠ 0)) = nb) := ⟨_, rfl⟩
  have hT := hR1.turn z nb
  have hO : Only [rb] w0 ((w1.setCell ⟨rb, 1, none⟩ (.int .i64 z)).setCell ⟨rb, 2, none⟩ (.bool nb)) := (hB1.setCell (Or.inl (by simp)) _).setCell (Or.inl (by simp)) _
  have HTO := Lib.hid (And.intro hT hO)
  have c1 := hR1.blk.cell 1 _ rfl
  have c2 := hR1.blk.cell 2 _ rfl
  have f1 := hR1.blk.frz 1
  have f2 := hR1.blk.frz 2
  clear hR1 hB1 hT hO
  cases bad with
  | true =>
    have hnb : nb = true := by rw [← HNB.out]; rfl
    subst hnb
    go_wp2_with fail
    go_ret
    exact ⟨rfl, by rw [HNB.out]; exact HTO.out.1, HTO.out.2⟩
  | false =>
    by_cases hy : y = 0
    · have hyI : ((y : Int) != 0) = false := by simp; exact hy
      have hnb : nb = false := by rw [← HNB.out]; simp [hy]
      subst hnb
      have HY := Lib.hid hy
      clear hy
      go_wp2_with fail
      go_ret
      exact ⟨rfl, by rw [HNB.out]; exact HTO.out.1, HTO.out.2⟩
    · have hyI : ((y : Int) != 0) = true := by simp; exact hy
      have hnb : nb = true := by rw [← HNB.out]; simp [hy]
      subst hnb
      have HY := Lib.hid hy
      clear hy
      go_wp2_with fail
      go_ret
      exact ⟨rfl, by rw [HNB.out]; exact HTO.out.1, HTO.out.2⟩
end
end Go.Proofs.Ytdieeleaaejfhaa
