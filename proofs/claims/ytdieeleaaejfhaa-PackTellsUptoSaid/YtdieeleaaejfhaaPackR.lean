/- The program's reader of deeds. -/
import Derived.Test.YtdieeleaaejfhaaPackW
import Derived.Test.YtdieeleaaejfhaaPackQ
set_option linter.unusedVariables false
set_option maxRecDepth 100000
set_option linter.unusedSimpArgs false
namespace Go.Proofs.Ytdieeleaaejfhaa
open Go.RowKit

/-- A reader at block rb. -/
structure Rdr (w : World) (rb : Nat) (A : Option Addr) (n c : Nat) (b : List UInt8) (s : RS) : Prop where
  blk : Blk w rb 99 [.slice A n c, .int .i64 s.at', .int .i64 (s.e : Int)]
  by' : Byts w A b
  len : b.length = n
  cap : n ≤ c ∧ c ≤ maxLen
  lim : n ≤ 100000000
  far : ∀ y, A = some y → 0 < n → y.block ≠ rb
  ok : s.ok n

section
variable {w : World} {rb n c : Nat} {A : Option Addr} {b : List UInt8} {s : RS}
theorem Rdr.below {w' : World} (h : Rdr w rb A n c b s) (hb : Below w.heap.size w w') : Rdr w' rb A n c b s := ⟨h.blk.below hb, h.by'.below hb, h.len, h.cap, h.lim, h.far, h.ok⟩
theorem Rdr.lt (h : Rdr w rb A n c b s) : rb < w.heap.size := h.blk.lt
theorem Rdr.turn (h : Rdr w rb A n c b s) {s' : RS} (h' : s'.ok n) : Rdr ((w.setCell ⟨rb, 2, none⟩ (.int .i64 (s'.e : Int))).setCell ⟨rb, 1, none⟩ (.int .i64 s'.at')) rb A n c b s' := by
  have ho : Only [rb] w ((w.setCell ⟨rb, 2, none⟩ (.int .i64 (s'.e : Int))).setCell ⟨rb, 1, none⟩ (.int .i64 s'.at')) := ((Only.refl [rb] w).setCell (by simp) _).setCell (by simp) _
  exact ⟨(h.blk.set 2 _).set 1 _, h.by'.only ho (fun y e h0 hm => h.far y e (by rw [h.len] at h0; exact h0) (by simpa using hm)), h.len, h.cap, h.lim, h.far, h'⟩
theorem Rdr.turn2 (h : Rdr w rb A n c b s) {s' : RS} (h' : s'.ok n) : Rdr ((w.setCell ⟨rb, 1, none⟩ (.int .i64 s'.at')).setCell ⟨rb, 2, none⟩ (.int .i64 (s'.e : Int))) rb A n c b s' := by
  have ho : Only [rb] w ((w.setCell ⟨rb, 1, none⟩ (.int .i64 s'.at')).setCell ⟨rb, 2, none⟩ (.int .i64 (s'.e : Int))) := ((Only.refl [rb] w).setCell (by simp) _).setCell (by simp) _
  exact ⟨(h.blk.set 1 _).set 2 _, h.by'.only ho (fun y e h0 hm => h.far y e (by rw [h.len] at h0; exact h0) (by simpa using hm)), h.len, h.cap, h.lim, h.far, h'⟩

set_option maxHeartbeats 4000000 in
theorem rd_get (h : Rdr w rb A n c b s) (k : Nat) (hk : 1 ≤ k ∧ k ≤ 8) {v : Nat} {s' : RS} (hE : rdGet b s k = (v, s')) :
    Calls Try.prog 71 #[.pointer (some ⟨rb, 0, none⟩), .int .i64 (k : Int)] w fun e w' => e = .returned (.int .u64 (v : Int)) ∧ Rdr w' rb A n c b s' ∧ Only [rb] w w' := by
  obtain ⟨w0, rfl⟩ : ∃ w0 : World, w0 = w := ⟨_, rfl⟩
  have hok := h.ok
  rw [← h.len] at hok
  obtain ⟨hok1, -, -⟩ := hok.get k hk
  rw [hE, h.len] at hok1
  simp only at hok1
  have c2 := h.blk.cell 2 _ rfl
  by_cases he : s.e = 0
  · unfold rdGet at hE
    rw [if_pos he] at hE
    obtain ⟨x, y, hxy⟩ : ∃ x y, getR b s.at' k = (x, y) := ⟨_, _, rfl⟩
    rw [hxy] at hE
    simp only [Prod.mk.injEq] at hE
    obtain ⟨rfl, rfl⟩ := hE
    obtain ⟨h1, h2, -, -⟩ := h.ok
    have hlim := h.lim
    have HC := Lib.hid (fun (W : World) (hB : Byts W A b) => codec_get' A n c b s.at' k W hxy hB h.len.symm (by rw [h.len]; exact h.cap.1) (by rw [h.len]; omega) (by omega) (by omega) (by omega) (by omega))
    have HB := Lib.hid (h.by'.drewN 1)
    have HOK := Lib.hid hok1
    rw [he] at c2
    have c0 := h.blk.cell 0 _ rfl
    have c1 := h.blk.cell 1 _ rfl
    have f1 := h.blk.frz 1
    have f2 := h.blk.frz 2
    have HF := Lib.hid h
    obtain ⟨at0, e0⟩ := s
    simp only at *
    subst he
    clear hxy h hok hok1
    go_enter Try.func71, Try.ntmps71
    go_upto_region 3 with fail
    go_region_held3 (fun w' => w'.cell? ⟨rb, 0, none⟩ = some (.slice A n c) ∧ w'.cell? ⟨rb, 1, none⟩ = some (.int .i64 at0))
      (first | (with_reducible exact ⟨c0, c1⟩) | (exact ⟨c0, c1⟩))
      (first | (go_at_call 57; refine (HC.out _ HB.out).mono ?_; rintro e w' ⟨rfl, rfl⟩))
    have hR1 := HF.out.below (below_drewN (Below.refl w0.heap.size w0) 1)
    have hB1 : Only [rb] w0 (w0.drewN 1) := (Only.refl [rb] w0).drewN 1
    clear c0 c1 c2 f1 f2 HB HF HC
    generalize w0.drewN 1 = w1 at *
    have hT := hR1.turn (s' := ⟨at0 + k, y⟩) HOK.out
    have hO : Only [rb] w0 ((w1.setCell ⟨rb, 2, none⟩ (.int .i64 (y : Int))).setCell ⟨rb, 1, none⟩ (.int .i64 (at0 + k))) := (hB1.setCell (Or.inl (by simp)) _).setCell (Or.inl (by simp)) _
    have HTO := Lib.hid (And.intro hT hO)
    have c1 := hR1.blk.cell 1 _ rfl
    have c2 := hR1.blk.cell 2 _ rfl
    have f1 := hR1.blk.frz 1
    have f2 := hR1.blk.frz 2
    clear hR1 hB1 hT hO
    go_wp2_with fail
    go_ret
    exact ⟨rfl, HTO.out.1, HTO.out.2⟩
  · unfold rdGet at hE
    rw [if_neg he] at hE
    simp only [Prod.mk.injEq] at hE
    obtain ⟨rfl, rfl⟩ := hE
    have heI : (((s.e : Nat) : Int) != 0) = true := by simp; omega
    go_enter Try.func71, Try.ntmps71
    go_wp2_with fail
    go_ret
    exact ⟨rfl, h, Only.refl _ _⟩

theorem rd_int (h : Rdr w rb A n c b s) {v : Int} {s' : RS} (hE : rdInt b s = (v, s')) :
    Calls Try.prog 72 #[.pointer (some ⟨rb, 0, none⟩)] w fun e w' => e = .returned (.int .i64 v) ∧ Rdr w' rb A n c b s' ∧ Only [rb] w w' := by
  obtain ⟨w0, rfl⟩ : ∃ w0 : World, w0 = w := ⟨_, rfl⟩
  obtain ⟨x, s1, hx⟩ : ∃ x s1, rdGet b s 8 = (x, s1) := ⟨_, _, rfl⟩
  unfold rdInt at hE
  rw [hx] at hE
  simp only [Prod.mk.injEq] at hE
  obtain ⟨rfl, rfl⟩ := hE
  have HG : Hid (Calls Try.prog 71 #[.pointer (some ⟨rb, 0, none⟩), .int .i64 8] w0 fun e w' => e = .returned (.int .u64 (x : Int)) ∧ Rdr w' rb A n c b s1 ∧ Only [rb] w0 w') := rd_get h 8 (by decide) hx
  clear h hx
  go_enter Try.func72, Try.ntmps72
  go_wp2_with (go_at_call 71; refine HG.out.mono ?_; rintro e w1 ⟨rfl, hR, ho⟩)
  go_ret
  exact ⟨rfl, hR, ho⟩

set_option maxHeartbeats 4000000 in
theorem rd_text (h : Rdr w rb A n c b s) {t : List UInt8} {s' : RS} (hE : rdText b s = (t, s')) :
    Calls Try.prog 85 #[.pointer (some ⟨rb, 0, none⟩)] w fun e w' => e = .returned (.string (strOf t)) ∧ Rdr w' rb A n c b s' ∧ Only [rb] w w' := by
  obtain ⟨w0, rfl⟩ : ∃ w0 : World, w0 = w := ⟨_, rfl⟩
  have hok := h.ok
  rw [← h.len] at hok
  have hok1 := hok.text
  rw [hE, h.len] at hok1
  simp only at hok1
  have c2 := h.blk.cell 2 _ rfl
  by_cases he : s.e = 0
  · unfold rdText at hE
    rw [if_pos he] at hE
    obtain ⟨x, z, y, hxy⟩ : ∃ x z y, getT b s.at' = (x, z, y) := ⟨_, _, _, rfl⟩
    rw [hxy] at hE
    simp only [Prod.mk.injEq] at hE
    obtain ⟨rfl, rfl⟩ := hE
    obtain ⟨h1, h2, -, -⟩ := h.ok
    have hlim := h.lim
    have HC := Lib.hid (fun (W : World) (hB : Byts W A b) => codec_getText A n c b s.at' W hxy hB h.len.symm (by rw [h.len]; exact h.cap.1) (by rw [h.len]; omega) (by omega) (by omega))
    have HB := Lib.hid (h.by'.drewN 1)
    rw [he] at c2
    have c0 := h.blk.cell 0 _ rfl
    have c1 := h.blk.cell 1 _ rfl
    have HF := Lib.hid h
    have HOK := Lib.hid hok1
    obtain ⟨at0, e0⟩ := s
    simp only at *
    subst he
    clear hxy h hok hok1
    go_enter Try.func85, Try.ntmps85
    go_upto_region 3 with fail
    go_region_held3 (fun w' => w'.cell? ⟨rb, 0, none⟩ = some (.slice A n c) ∧ w'.cell? ⟨rb, 1, none⟩ = some (.int .i64 at0))
      (first | (with_reducible exact ⟨c0, c1⟩) | (exact ⟨c0, c1⟩))
      (first | (go_at_call 87; refine (HC.out _ HB.out).mono ?_; rintro e w' ⟨rfl, rfl⟩))
    have hR1 := HF.out.below (below_drewN (Below.refl w0.heap.size w0) 1)
    have hB1 : Only [rb] w0 (w0.drewN 1) := (Only.refl [rb] w0).drewN 1
    clear c0 c1 c2 HB HF HC
    generalize w0.drewN 1 = w1 at *
    have hT := hR1.turn2 (s' := ⟨z, y⟩) HOK.out
    have hO : Only [rb] w0 ((w1.setCell ⟨rb, 1, none⟩ (.int .i64 z)).setCell ⟨rb, 2, none⟩ (.int .i64 (y : Int))) := (hB1.setCell (Or.inl (by simp)) _).setCell (Or.inl (by simp)) _
    have HTO := Lib.hid (And.intro hT hO)
    have c1 := hR1.blk.cell 1 _ rfl
    have c2 := hR1.blk.cell 2 _ rfl
    have f1 := hR1.blk.frz 1
    have f2 := hR1.blk.frz 2
    clear hR1 hB1 hT hO
    go_wp2_with fail
    go_ret
    exact ⟨rfl, HTO.out.1, HTO.out.2⟩
  · unfold rdText at hE
    rw [if_neg he] at hE
    simp only [Prod.mk.injEq] at hE
    obtain ⟨rfl, rfl⟩ := hE
    have heI : (((s.e : Nat) : Int) != 0) = true := by simp; omega
    go_enter Try.func85, Try.ntmps85
    go_wp2_with fail
    go_ret
    exact ⟨rfl, h, Only.refl _ _⟩
end
end Go.Proofs.Ytdieeleaaejfhaa
