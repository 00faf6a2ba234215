/- The reference's reader of an inode, held against the plain one. -/
import Derived.Test.YtdieeleaaejfhaaPackRT
import Derived.Test.YtdieeleaaejfhaaParse
set_option linter.unusedVariables false
set_option maxRecDepth 100000
set_option linter.unusedSimpArgs false
namespace Go.Proofs.Ytdieeleaaejfhaa
open Go.RowKit

theorem int_live {b : List UInt8} {s : RS} (h : (rdInt b s).2.e = 0) : s.e = 0 := by
  by_cases h1 : s.e = 0
  · exact h1
  · rw [rdInt_dead b s h1] at h; exact h
theorem text_live {b : List UInt8} {s : RS} (h : (rdText b s).2.e = 0) : s.e = 0 := by
  by_cases h1 : s.e = 0
  · exact h1
  · rw [rdText_dead b s h1] at h; exact h

section
variable {w : World} {rb n c : Nat} {A : Option Addr} {b : List UInt8} {s : RS} {X : Int}
theorem RRd.only {w' : World} {S : List Nat} {a : Int} {bad : Bool} (h : RRd w rb A n c b a bad) (ho : Only S w w') (h1 : rb ∉ S) (h2 : ∀ y, A = some y → 0 < n → y.block ∉ S) : RRd w' rb A n c b a bad :=
  ⟨h.blk.only ho h1, h.by'.only ho (fun y e h0 => h2 y e (by rw [h.len] at h0; exact h0)), h.len, h.cap, h.lim, h.far⟩
theorem RTd.only {w' : World} {S : List Nat} (h : RTd w rb A n c b s X) (ho : Only S w w') (h1 : rb ∉ S) (h2 : ∀ y, A = some y → 0 < n → y.block ∉ S) : RTd w' rb A n c b s X := by
  obtain ⟨a, bad, hr, h3⟩ := h
  exact ⟨a, bad, hr.only ho h1 h2, h3⟩
theorem RTd.below {w' : World} (h : RTd w rb A n c b s X) (hb : Below w.heap.size w w') : RTd w' rb A n c b s X := by
  obtain ⟨a, bad, hr, h3⟩ := h
  exact ⟨a, bad, hr.below hb, h3⟩
theorem RTd.lt (h : RTd w rb A n c b s X) : rb < w.heap.size := by
  obtain ⟨a, bad, hr, h3⟩ := h
  exact hr.blk.lt
theorem RTd.len (h : RTd w rb A n c b s X) : b.length = n := by
  obtain ⟨a, bad, hr, h3⟩ := h
  exact hr.len
theorem RTd.lim (h : RTd w rb A n c b s X) : n ≤ 100000000 := by
  obtain ⟨a, bad, hr, h3⟩ := h
  exact hr.lim
theorem RTd.ok (h : RTd w rb A n c b s X) : s.ok n := by
  obtain ⟨a, bad, hr, h2, h3, h4, h5, h6⟩ := h
  exact h6
theorem RTd.bad (h : RTd w rb A n c b s X) : w.cell? ⟨rb, 2, none⟩ = some (.bool (decide (s.e ≠ 0))) := by
  obtain ⟨a, bad, hr, h2, h3⟩ := h
  rw [← h2]
  exact hr.blk.cell 2 _ rfl
theorem RTd.good (h : RTd w rb A n c b s X) (he : s.e = 0) : w.cell? ⟨rb, 2, none⟩ = some (.bool false) := by
  rw [h.bad]; simp [he]
theorem RTd.ill (h : RTd w rb A n c b s X) (he : s.e ≠ 0) : w.cell? ⟨rb, 2, none⟩ = some (.bool true) := by
  rw [h.bad]; simp [he]
theorem RTd.tight (h : RTd w rb A n c b s X) (he : s.e = 0) : RTd w rb A n c b s (n : Int) := by
  obtain ⟨a, bad, hr, h2, h3, h4, h5, h6⟩ := h
  refine ⟨a, bad, hr, h2, h3, h4, ?_, h6⟩
  rw [h3 he]
  exact h6.2.2.1 he
theorem RTd.mono (h : RTd w rb A n c b s X) {X' : Int} (hx : X ≤ X') : RTd w rb A n c b s X' := by
  obtain ⟨a, bad, hr, h2, h3, h4, h5, h6⟩ := h
  exact ⟨a, bad, hr, h2, h3, h4, by omega, h6⟩
theorem RTd.inl (h : RTd w rb A n c b s X) : ∀ y, A = some y → 0 < n → y.block < w.heap.size := fun y e h0 => by
  obtain ⟨a, bad, hr, h3⟩ := h
  obtain ⟨b', off, e2, hc⟩ := hr.by'.at (k := 0) (by rw [hr.len]; exact h0)
  rw [e] at e2
  cases e2
  exact World.block_lt_of_cell? w _ hc

/-- The reference's reader at rb that fills an inode at block ib (its result's block lies ahead). -/
structure RSt (w0 : World) (rb : Nat) (A : Option Addr) (n c : Nat) (b : List UInt8) (ib : Nat) (cs : List Value) (s : RS) (X : Int) (w : World) : Prop where
  o : Only [rb] w0 w
  r : RTd w rb A n c b s X
  k : Blk w ib 69 cs
  z : Blk w w0.heap.size 69 [.int .i64 0, .int .i64 0, .int .i64 0, .int .i64 0, .string ByteArray.empty, .slice none 0 0, .slice none 0 0]
  hrb : rb < w0.heap.size
  hib : w0.heap.size < ib
  hA : ∀ y, A = some y → 0 < n → y.block < w0.heap.size
theorem RSt.step {w0 : World} {ib : Nat} {cs : List Value} (h : RSt w0 rb A n c b ib cs s X w) {w' : World} {s' : RS} {X' : Int} (ho : Only [rb] w w') (hR : RTd w' rb A n c b s' X') : RSt w0 rb A n c b ib cs s' X' w' :=
  ⟨h.o.trans ho, hR, h.k.only ho (by have := h.hrb; have := h.hib; simp; omega), h.z.only ho (by have := h.hrb; simp; omega), h.hrb, h.hib, h.hA⟩
theorem RSt.tight {w0 : World} {ib : Nat} {cs : List Value} (h : RSt w0 rb A n c b ib cs s X w) (he : s.e = 0) : RSt w0 rb A n c b ib cs s (n : Int) w := ⟨h.o, h.r.tight he, h.k, h.z, h.hrb, h.hib, h.hA⟩
theorem RSt.mono {w0 : World} {ib : Nat} {cs : List Value} (h : RSt w0 rb A n c b ib cs s X w) {X' : Int} (hx : X ≤ X') : RSt w0 rb A n c b ib cs s X' w := ⟨h.o, h.r.mono hx, h.k, h.z, h.hrb, h.hib, h.hA⟩
theorem RSt.below {w0 : World} {ib : Nat} {cs : List Value} (h : RSt w0 rb A n c b ib cs s X w) {w' : World} (hb : Below w.heap.size w w') : RSt w0 rb A n c b ib cs s X w' := h.step (Only.of_below hb _) (h.r.below hb)
theorem RSt.turn {w0 : World} {ib : Nat} {cs : List Value} (h : RSt w0 rb A n c b ib cs s X w) {w' : World} {S : List Nat} (ho : Only S w w') (hS : ∀ x ∈ S, ib < x) : RSt w0 rb A n c b ib cs s X w' :=
  have h1 := h.hrb
  have h2 := h.hib
  ⟨h.o.trans' ho (fun x hx => Or.inr (by have := hS x hx; omega)), h.r.only ho (fun hm => by have := hS _ hm; omega) (fun y e h0 hm => by have := hS _ hm; have := h.hA y e h0; omega), h.k.only ho (fun hm => by have := hS _ hm; omega), h.z.only ho (fun hm => by have := hS _ hm; omega), h.hrb, h.hib, h.hA⟩
theorem RSt.set {w0 : World} {ib : Nat} {cs : List Value} (h : RSt w0 rb A n c b ib cs s X w) (i : Nat) (u : Value) : RSt w0 rb A n c b ib (cs.set i u) s X (w.setCell ⟨ib, i, none⟩ u) := by
  have h1 := h.hrb
  have h2 := h.hib
  have ho : Only [ib] w (w.setCell ⟨ib, i, none⟩ u) := (Only.refl _ w).setCell (Or.inl (by simp)) _
  exact ⟨h.o.trans' ho (fun x hx => Or.inr (by simp at hx; omega)), h.r.only ho (by simp; omega) (fun y e h0 hm => by have := h.hA y e h0; simp at hm; omega), h.k.set i u, h.z.only ho (by simp; omega), h.hrb, h.hib, h.hA⟩
theorem RSt.grown {w0 : World} {ib : Nat} {cs : List Value} (h : RSt w0 rb A n c b ib cs s X w) {w' : World} {row : Option Nat} (hg : w.grownBy w' row) (hr : ∀ k, row = some k → ib < k) : RSt w0 rb A n c b ib cs s X w' := by
  cases row with
  | none => exact h.below (below_of_grown hg (Nat.le_refl _) (fun k e => by cases e))
  | some g => exact h.turn (Only.of_grown hg) (fun x hx => by simp at hx; rw [hx]; exact hr g rfl)


set_option maxHeartbeats 16000000 in
theorem rt_inode (h : RTd w rb A n c b s X) (hX : X ≤ 10000000000) (hnX : (n : Int) ≤ X) {x : Ino} {s' : RS} (hE : rdIno b s = (x, s')) :
    Calls Try.prog 62 #[.pointer (some ⟨rb, 0, none⟩)] w fun e w' => ∃ (v : IV) (x' : Ino), e = .returned (.agg (inoCells x' v).toArray) ∧ (s'.e = 0 → x' = x) ∧ RTd w' rb A n c b s' (X + 64) ∧ IvIs w' v x' ∧ (∀ y, v.EA = some y → w.heap.size ≤ y.block) ∧ (∀ y, v.RA = some y → w.heap.size ≤ y.block) ∧ Only [rb] w w' := by
  obtain ⟨w0, rfl⟩ : ∃ w0 : World, w0 = w := ⟨_, rfl⟩
  have hs0 := Nat.le_refl w0.heap.size
  have hrb := h.lt
  have HNX := Lib.hid hnX
  obtain ⟨s0, hs00⟩ : ∃ s0, s0 = s := ⟨_, rfl⟩
  subst hs00
  obtain ⟨a1, s1, hI1⟩ : ∃ a s1, rdInt b s0 = (a, s1) := ⟨_, _, rfl⟩
  obtain ⟨a2, s2, hI2⟩ : ∃ a s2, rdInt b s1 = (a, s2) := ⟨_, _, rfl⟩
  obtain ⟨a3, s3, hI3⟩ : ∃ a s3, rdInt b s2 = (a, s3) := ⟨_, _, rfl⟩
  obtain ⟨a4, s4, hI4⟩ : ∃ a s4, rdInt b s3 = (a, s4) := ⟨_, _, rfl⟩
  obtain ⟨t, s5, hI5⟩ : ∃ t s5, rdText b s4 = (t, s5) := ⟨_, _, rfl⟩
  obtain ⟨ne, s6, hI6⟩ : ∃ ne s6, rdGet b s5 4 = (ne, s6) := ⟨_, _, rfl⟩
  obtain ⟨es, s7, hI7⟩ : ∃ es s7, rdEnts b ne s6 [] = (es, s7) := ⟨_, _, rfl⟩
  obtain ⟨nr, s8, hI8⟩ : ∃ nr s8, rdGet b s7 4 = (nr, s8) := ⟨_, _, rfl⟩
  obtain ⟨rs, s9, hI9⟩ : ∃ rs s9, rdRuns b nr s8 [] = (rs, s9) := ⟨_, _, rfl⟩
  have HX : Hid (x = ⟨a1, a2, a3, a4, strOf t, es, rs⟩ ∧ s' = s9) := by
    unfold rdIno rdHead at hE
    simp only [hI1, hI2, hI3, hI4, hI5, hI6, hI7, hI8, hI9, Prod.mk.injEq] at hE
    exact ⟨hE.1.symm, hE.2.symm⟩
  have HD7 : Hid (s7.e ≠ 0 → s9 = s7) := fun h7 => by
    have h1 := rdGet_dead b s7 4 h7
    rw [hI8] at h1
    obtain rfl : s8 = s7 := congrArg Prod.snd h1
    have h2 := rdRuns_dead b nr s8 [] h7
    rw [hI9] at h2
    exact congrArg Prod.snd h2
  have HD5 : Hid (s5.e ≠ 0 → s9 = s5) := fun h5 => by
    have h1 := rdGet_dead b s5 4 h5
    rw [hI6] at h1
    obtain rfl : s6 = s5 := congrArg Prod.snd h1
    have h2 := rdEnts_dead b ne s6 [] h5
    rw [hI7] at h2
    obtain rfl : s7 = s6 := congrArg Prod.snd h2
    exact HD7.out h5
  have HD4 : Hid (s4.e ≠ 0 → s9 = s4) := fun h4 => by
    have h1 := rdText_dead b s4 h4
    rw [hI5] at h1
    obtain rfl : s5 = s4 := h1
    exact HD5.out h4
  have HU : Hid (s4.e = 0 → s0.e = 0 ∧ s1.e = 0 ∧ s2.e = 0 ∧ s3.e = 0) := fun h4 => by
    have h3 : s3.e = 0 := int_live (b := b) (by rw [hI4]; exact h4)
    have h2 : s2.e = 0 := int_live (b := b) (by rw [hI3]; exact h3)
    have h1 : s1.e = 0 := int_live (b := b) (by rw [hI2]; exact h2)
    exact ⟨int_live (b := b) (by rw [hI1]; exact h1), h1, h2, h3⟩
  have HE := Lib.hid (And.intro hI1 (And.intro hI2 (And.intro hI3 (And.intro hI4 (And.intro hI5 (And.intro hI6 (And.intro hI7 (And.intro hI8 hI9))))))))
  have hinl := h.inl
  clear hI1 hI2 hI3 hI4 hI5 hI6 hI7 hI8 hI9 hE hnX
  have hzI : ∀ W : World, (zeroValue 69).run Try.prog W = .ok (.agg #[.int .i64 0, .int .i64 0, .int .i64 0, .int .i64 0, .string ByteArray.empty, .slice none 0 0, .slice none 0 0]) W := fun W => by kernel_rfl
  go_enter Try.func62, Try.ntmps62
  go_upto_region 1 with fail
  have hb1 := Blk.new w0 [.int .i64 0, .int .i64 0, .int .i64 0, .int .i64 0, .string ByteArray.empty, .slice none 0 0, .slice none 0 0] 69
  have hbl := below_alloc w0 (.cells [.int .i64 0, .int .i64 0, .int .i64 0, .int .i64 0, .string ByteArray.empty, .slice none 0 0, .slice none 0 0].toArray 69 (0, 0))
  generalize w0.alloc (.cells [.int .i64 0, .int .i64 0, .int .i64 0, .int .i64 0, .string ByteArray.empty, .slice none 0 0, .slice none 0 0].toArray 69 (0, 0)) = w1 at *
  have hr1 := h.below hbl
  have ho1 : Only [rb] w0 w1 := Only.of_below hbl _
  have hz1 := hb1.lt
  clear h hbl
  go_upto_region 2 with (go_at_call 61; refine (rt_number hr1 (by omega) HE.out.1).mono ?_; rintro e w2 ⟨b1, rfl, hq1, hR2, ho2⟩)

  have hz2 := ho2.size
  have hSt : RSt w0 rb A n c b w2.heap.size [.int .i64 b1, .int .i64 0, .int .i64 0, .int .i64 0, .string ByteArray.empty, .slice none 0 0, .slice none 0 0] s1 (X + 8) (w2.alloc (.cells [.int .i64 b1, .int .i64 0, .int .i64 0, .int .i64 0, .string ByteArray.empty, .slice none 0 0, .slice none 0 0].toArray 69 (0, 0))) :=
    ⟨(ho1.trans ho2).alloc _, hR2.below (below_alloc w2 _), Blk.new w2 _ _, (hb1.only ho2 (by simp; omega)).alloc _, hrb, by omega, hinl⟩
  have Hq1 := Lib.hid hq1
  clear hR2 ho1 ho2 hb1 hq1 hr1
  obtain ⟨ib, hib⟩ : ∃ ib, w2.heap.size = ib := ⟨_, rfl⟩
  rw [hib] at hSt ⊢
  generalize w2.alloc (.cells [.int .i64 b1, .int .i64 0, .int .i64 0, .int .i64 0, .string ByteArray.empty, .slice none 0 0, .slice none 0 0].toArray 69 (0, 0)) = w3 at *
  clear hib hz2 hz1

  go_upto_region 3 with (go_at_call 61; refine (rt_number hSt.r (by omega) HE.out.2.1).mono ?_; rintro e w4 ⟨b2, rfl, hq, hR, ho⟩; have hSt' := hSt.step ho hR; have c1 := hSt'.k.cell 1 _ rfl; have f1 := hSt'.k.frz 1)
  have hSt2 : RSt w0 rb A n c b ib [.int .i64 b1, .int .i64 b2, .int .i64 0, .int .i64 0, .string ByteArray.empty, .slice none 0 0, .slice none 0 0] s2 (X + 8 + 8) (w4.setCell ⟨ib, 1, none⟩ (.int .i64 b2)) := hSt'.set 1 (.int .i64 b2)
  have Hq2 := Lib.hid hq
  clear hSt hSt' hR ho hq c1 f1
  obtain ⟨w5, hw⟩ : ∃ W, w4.setCell ⟨ib, 1, none⟩ (.int .i64 b2) = W := ⟨_, rfl⟩
  rw [hw] at hSt2 ⊢
  have hSt := hSt2
  clear hSt2 hw
  go_upto_region 4 with (go_at_call 61; refine (rt_number hSt.r (by omega) HE.out.2.2.1).mono ?_; rintro e w6 ⟨b3, rfl, hq, hR, ho⟩; have hSt' := hSt.step ho hR; have c2 := hSt'.k.cell 2 _ rfl; have f2 := hSt'.k.frz 2)
  have hSt2 : RSt w0 rb A n c b ib [.int .i64 b1, .int .i64 b2, .int .i64 b3, .int .i64 0, .string ByteArray.empty, .slice none 0 0, .slice none 0 0] s3 (X + 8 + 8 + 8) (w6.setCell ⟨ib, 2, none⟩ (.int .i64 b3)) := hSt'.set 2 (.int .i64 b3)
  have Hq3 := Lib.hid hq
  clear hSt hSt' hR ho hq c2 f2
  obtain ⟨w7, hw⟩ : ∃ W, w6.setCell ⟨ib, 2, none⟩ (.int .i64 b3) = W := ⟨_, rfl⟩
  rw [hw] at hSt2 ⊢
  have hSt := hSt2
  clear hSt2 hw
  go_upto_region 5 with (go_at_call 61; refine (rt_number hSt.r (by omega) HE.out.2.2.2.1).mono ?_; rintro e w8 ⟨b4, rfl, hq, hR, ho⟩; have hSt' := hSt.step ho hR; have c3 := hSt'.k.cell 3 _ rfl; have f3 := hSt'.k.frz 3)
  have hSt2 : RSt w0 rb A n c b ib [.int .i64 b1, .int .i64 b2, .int .i64 b3, .int .i64 b4, .string ByteArray.empty, .slice none 0 0, .slice none 0 0] s4 (X + 8 + 8 + 8 + 8) (w8.setCell ⟨ib, 3, none⟩ (.int .i64 b4)) := hSt'.set 3 (.int .i64 b4)
  have Hq4 := Lib.hid hq
  clear hSt hSt' hR ho hq c3 f3
  obtain ⟨w9, hw⟩ : ∃ W, w8.setCell ⟨ib, 3, none⟩ (.int .i64 b4) = W := ⟨_, rfl⟩
  rw [hw] at hSt2 ⊢
  have hSt := hSt2
  clear hSt2 hw
  have hSt := hSt.mono (X' := X + 32) (by omega)
  obtain ⟨wq, rfl⟩ : ∃ W, W = w9 := ⟨_, rfl⟩
  by_cases h4 : s4.e ≠ 0
  · all_goals
      have q2 := hSt.r.ill h4
      obtain rfl := HD4.out h4
      have hlast : X + 32 ≤ X + 64 := by have := hX; omega
      have k0 := hSt.k.cell 0 _ rfl
      have z0 := hSt.z.cell 0 _ rfl
      have f0 := hSt.z.frz 0
      have k1 := hSt.k.cell 1 _ rfl
      have z1 := hSt.z.cell 1 _ rfl
      have f1 := hSt.z.frz 1
      have k2 := hSt.k.cell 2 _ rfl
      have z2 := hSt.z.cell 2 _ rfl
      have f2 := hSt.z.frz 2
      have k3 := hSt.k.cell 3 _ rfl
      have z3 := hSt.z.cell 3 _ rfl
      have f3 := hSt.z.frz 3
      have k4 := hSt.k.cell 4 _ rfl
      have z4 := hSt.z.cell 4 _ rfl
      have f4 := hSt.z.frz 4
      have k5 := hSt.k.cell 5 _ rfl
      have z5 := hSt.z.cell 5 _ rfl
      have f5 := hSt.z.frz 5
      have k6 := hSt.k.cell 6 _ rfl
      have z6 := hSt.z.cell 6 _ rfl
      have f6 := hSt.z.frz 6
      have HF := Lib.hid (And.intro (((((((hSt.z.set 0 (.int .i64 b1)).set 1 (.int .i64 b2)).set 2 (.int .i64 b3)).set 3 (.int .i64 b4)).set 4 (.string ByteArray.empty)).set 5 (.slice none 0 0)).set 6 (.slice none 0 0)) (And.intro ((((((((Only.refl [w0.heap.size] wq).setCell (p := ⟨w0.heap.size, 0, none⟩) (Or.inl (by simp)) (.int .i64 b1)).setCell (p := ⟨w0.heap.size, 1, none⟩) (Or.inl (by simp)) (.int .i64 b2)).setCell (p := ⟨w0.heap.size, 2, none⟩) (Or.inl (by simp)) (.int .i64 b3)).setCell (p := ⟨w0.heap.size, 3, none⟩) (Or.inl (by simp)) (.int .i64 b4)).setCell (p := ⟨w0.heap.size, 4, none⟩) (Or.inl (by simp)) (.string ByteArray.empty)).setCell (p := ⟨w0.heap.size, 5, none⟩) (Or.inl (by simp)) (.slice none 0 0)).setCell (p := ⟨w0.heap.size, 6, none⟩) (Or.inl (by simp)) (.slice none 0 0)) (hSt.mono hlast)))
      clear hSt
      go_wp2_with fail
      have hz := HF.out.1
      have d0 := hz.cell 0 _ rfl
      have d1 := hz.cell 1 _ rfl
      have d2 := hz.cell 2 _ rfl
      have d3 := hz.cell 3 _ rfl
      have d4 := hz.cell 4 _ rfl
      have d5 := hz.cell 5 _ rfl
      have d6 := hz.cell 6 _ rfl
      have hSt := HF.out.2.2
      have hoF := HF.out.2.1
      have hq1 := hSt.hrb
      have hq2 := hSt.hib
      have hq3 := hSt.z.lt
      obtain ⟨rfl, rfl⟩ := HX.out
      refine bodyPost_ret (v := .agg #[.int .i64 b1, .int .i64 b2, .int .i64 b3, .int .i64 b4, .string ByteArray.empty, .slice none 0 0, .slice none 0 0]) (by simp [results, Try.results62, go_sem, d0, d1, d2, d3, d4, d5, d6]) rfl ⟨⟨none, 0, none, 0⟩, ⟨b1, b2, b3, b4, ByteArray.empty, [], []⟩, ?_, ?_, ?_, ?_, ?_, ?_, ?_⟩
      · rfl
      · exact fun h => absurd h h4
      · exact hSt.r.only hoF (by simp; omega) (fun y e h0 hm => by have := hSt.hA y e h0; simp at hm; omega)
      · exact ⟨Kind.At.nil _ _ _, Kind.At.nil _ _ _, ⟨Nat.le_refl _, Nat.zero_le _⟩, ⟨Nat.le_refl _, Nat.zero_le _⟩⟩
      · intro y e; cases e
      · intro y e; cases e
      · exact hSt.o.trans' hoF (fun q hq => Or.inr (by simp at hq; omega))
  · have h4 : s4.e = 0 := by omega
    obtain ⟨u0, u1, u2, u3⟩ := HU.out h4
    obtain rfl := Hq1.out u0
    obtain rfl := Hq2.out u1
    obtain rfl := Hq3.out u2
    obtain rfl := Hq4.out u3
    have q2 := hSt.r.good h4
    have hSt0 := hSt.tight h4
    clear hSt u0 u1 u2 u3 Hq1 Hq2 Hq3 Hq4 HU HD4
    go_upto_region 7 with fail
    go_upto_region 8 with (go_at_call 74; refine (rt_text hSt0.r (by have := HNX.out; omega) (Int.le_refl _) HE.out.2.2.2.2.1).mono ?_; rintro e w10 ⟨t', rfl, ht, hR, ho⟩; obtain rfl := ht h4; have hSt' := hSt0.step ho hR; have c4 := hSt'.k.cell 4 _ rfl; have f4 := hSt'.k.frz 4)
    have hSt : RSt w0 rb A n c b ib [.int .i64 b1, .int .i64 b2, .int .i64 b3, .int .i64 b4, .string (strOf t), .slice none 0 0, .slice none 0 0] s5 (n : Int) (w10.setCell ⟨ib, 4, none⟩ (.string (strOf t))) := hSt'.set 4 (.string (strOf t))
    clear hSt0 hSt' hR ho c4 f4 ht q2
    obtain ⟨wq, hwq⟩ : ∃ W, w10.setCell ⟨ib, 4, none⟩ (.string (strOf t)) = W := ⟨_, rfl⟩
    rw [hwq] at hSt ⊢
    clear hwq
    by_cases h5 : s5.e ≠ 0
    · all_goals
        have q2 := hSt.r.ill h5
        obtain rfl := HD5.out h5
        have hlast : (n : Int) ≤ X + 64 := by have := HNX.out; omega
        have k0 := hSt.k.cell 0 _ rfl
        have z0 := hSt.z.cell 0 _ rfl
        have f0 := hSt.z.frz 0
        have k1 := hSt.k.cell 1 _ rfl
        have z1 := hSt.z.cell 1 _ rfl
        have f1 := hSt.z.frz 1
        have k2 := hSt.k.cell 2 _ rfl
        have z2 := hSt.z.cell 2 _ rfl
        have f2 := hSt.z.frz 2
        have k3 := hSt.k.cell 3 _ rfl
        have z3 := hSt.z.cell 3 _ rfl
        have f3 := hSt.z.frz 3
        have k4 := hSt.k.cell 4 _ rfl
        have z4 := hSt.z.cell 4 _ rfl
        have f4 := hSt.z.frz 4
        have k5 := hSt.k.cell 5 _ rfl
        have z5 := hSt.z.cell 5 _ rfl
        have f5 := hSt.z.frz 5
        have k6 := hSt.k.cell 6 _ rfl
        have z6 := hSt.z.cell 6 _ rfl
        have f6 := hSt.z.frz 6
        have HF := Lib.hid (And.intro (((((((hSt.z.set 0 (.int .i64 b1)).set 1 (.int .i64 b2)).set 2 (.int .i64 b3)).set 3 (.int .i64 b4)).set 4 (.string (strOf t))).set 5 (.slice none 0 0)).set 6 (.slice none 0 0)) (And.intro ((((((((Only.refl [w0.heap.size] wq).setCell (p := ⟨w0.heap.size, 0, none⟩) (Or.inl (by simp)) (.int .i64 b1)).setCell (p := ⟨w0.heap.size, 1, none⟩) (Or.inl (by simp)) (.int .i64 b2)).setCell (p := ⟨w0.heap.size, 2, none⟩) (Or.inl (by simp)) (.int .i64 b3)).setCell (p := ⟨w0.heap.size, 3, none⟩) (Or.inl (by simp)) (.int .i64 b4)).setCell (p := ⟨w0.heap.size, 4, none⟩) (Or.inl (by simp)) (.string (strOf t))).setCell (p := ⟨w0.heap.size, 5, none⟩) (Or.inl (by simp)) (.slice none 0 0)).setCell (p := ⟨w0.heap.size, 6, none⟩) (Or.inl (by simp)) (.slice none 0 0)) (hSt.mono hlast)))
        clear hSt
        go_wp2_with fail
        have hz := HF.out.1
        have d0 := hz.cell 0 _ rfl
        have d1 := hz.cell 1 _ rfl
        have d2 := hz.cell 2 _ rfl
        have d3 := hz.cell 3 _ rfl
        have d4 := hz.cell 4 _ rfl
        have d5 := hz.cell 5 _ rfl
        have d6 := hz.cell 6 _ rfl
        have hSt := HF.out.2.2
        have hoF := HF.out.2.1
        have hq1 := hSt.hrb
        have hq2 := hSt.hib
        have hq3 := hSt.z.lt
        obtain ⟨rfl, rfl⟩ := HX.out
        refine bodyPost_ret (v := .agg #[.int .i64 b1, .int .i64 b2, .int .i64 b3, .int .i64 b4, .string (strOf t), .slice none 0 0, .slice none 0 0]) (by simp [results, Try.results62, go_sem, d0, d1, d2, d3, d4, d5, d6]) rfl ⟨⟨none, 0, none, 0⟩, ⟨b1, b2, b3, b4, strOf t, [], []⟩, ?_, ?_, ?_, ?_, ?_, ?_, ?_⟩
        · rfl
        · exact fun h => absurd h h5
        · exact hSt.r.only hoF (by simp; omega) (fun y e h0 hm => by have := hSt.hA y e h0; simp at hm; omega)
        · exact ⟨Kind.At.nil _ _ _, Kind.At.nil _ _ _, ⟨Nat.le_refl _, Nat.zero_le _⟩, ⟨Nat.le_refl _, Nat.zero_le _⟩⟩
        · intro y e; cases e
        · intro y e; cases e
        · exact hSt.o.trans' hoF (fun q hq => Or.inr (by simp at hq; omega))
    · have h5 : s5.e = 0 := by omega
      have q2 := hSt.r.good h5
      have hne : ne < 4294967296 := by
        have := (show RS.ok s5 b.length by rw [hSt.r.len]; exact hSt.r.ok).get 4 (by decide)
        rw [HE.out.2.2.2.2.2.1] at this
        exact this.2.1
      have hwne : wrap64 (ne : Int) = (ne : Int) := by unfold wrap64; omega
      have HWN := Lib.hid hwne
      clear hwne
      go_upto_region 10 with fail
      go_upto_block 0 with (go_at_call 75; refine (rt_many hSt.r (by have := HNX.out; omega) HE.out.2.2.2.2.2.1).mono ?_; rintro e w11 ⟨v', rfl, hv, hR, ho⟩; obtain rfl := hv h5; rw [HWN.out]; have hSt6 := hSt.step ho hR)
      clear hSt q2 hR ho hv HWN h5 HD5
      have hSt6 := hSt6.mono (X' := (n : Int) + 8) (by omega)

      go_cut [4] (fun v4 w' => ∃ m EA Ec acc, Hid (acc.length = m) ∧ (s7.e = 0 → acc = es) ∧ RSt w0 rb A n c b ib [.int .i64 b1, .int .i64 b2, .int .i64 b3, .int .i64 b4, .string (strOf t), .slice EA m Ec, .slice none 0 0] s7 ((n : Int) + 8) w' ∧ kEnt.Own w' (ib + 1) (.slice EA m Ec) acc ∧ m ≤ 100000000)
      case first =>
        go_upto_region 11 with fail
        go_loopw [4] (fun v4 wr => ∃ (k : Nat) (sc : RS) (acc acc' : List Ent) (m : Nat) (EA : Option Addr) (Ec : Nat), k < 4294967296 ∧ v4 = .int .i64 (k : Int) ∧ Hid (rdEnts b k sc acc = (es, s7)) ∧ Hid (sc.e = 0 → acc' = acc) ∧ Hid (acc'.length = m) ∧ RSt w0 rb A n c b ib [.int .i64 b1, .int .i64 b2, .int .i64 b3, .int .i64 b4, .string (strOf t), .slice EA m Ec, .slice none 0 0] sc ((n : Int) + 8) wr ∧ kEnt.Own wr (ib + 1) (.slice EA m Ec) acc' ∧ (sc.e = 0 → 12 * (m : Int) ≤ sc.at') ∧ m ≤ 100000000) (fun v4 _ => (intOf v4).toNat)
        case atStart => exact ⟨ne, s6, [], [], 0, none, 0, hne, rfl, HE.out.2.2.2.2.2.2.1, (fun _ => rfl), rfl, hSt6, Kind.Own.nil _ _, (fun _ => by have := hSt6.r.ok.1; omega), by decide⟩
        case round =>
          clear hSt6
          obtain ⟨k, sc, acc, acc', m, EA, Ec, hk, rfl, HR, HAA, HM, hSt, hown, hm12, hmb⟩ := hrel
          by_cases he : sc.e = 0
          · have q2 := hSt.r.good he
            by_cases hk0 : 0 < k
            · all_goals
                obtain ⟨k', HK'⟩ : ∃ k', Hid (k = k' + 1) := ⟨k - 1, (by omega : k = (k - 1) + 1)⟩
                have hkI : (0 : Int) < (k : Int) := by omega
                have hm1 := hm12 he
                have hAA : acc' = acc := HAA.out he
                obtain ⟨nm, sA, hA⟩ : ∃ nm sA, rdText b sc = (nm, sA) := ⟨_, _, rfl⟩
                obtain ⟨v, sB, hB⟩ : ∃ v sB, rdInt b sA = (v, sB) := ⟨_, _, rfl⟩
                have hokc : RS.ok sc b.length := by rw [hSt.r.len]; exact hSt.r.ok
                have h12 : sB.e = 0 → sc.at' + 12 ≤ sB.at' := fun h => by
                  have := rdEnt_at hokc (by rw [hA]; show (rdInt b sA).2.e = 0; rw [hB]; exact h)
                  rw [hA] at this
                  simp only [hB] at this
                  exact this
                have hmm : m + 1 ≤ 100000000 := by
                  have h1 := hSt.r.ok.2.2.1 he
                  have h2 := hSt.r.lim
                  omega
                have HR2 : Hid (rdEnts b k' sB (acc ++ [⟨strOf nm, v⟩]) = (es, s7)) := by
                  have h1 := HR.out
                  rw [HK'.out] at h1
                  unfold rdEnts at h1
                  rw [if_pos he, hA] at h1
                  simp only [hB] at h1
                  exact h1
                have HA := Lib.hid hA
                have HB := Lib.hid hB
                have hStc := hSt.tight he
                clear hA hB hokc hm12 hSt
                go_upto_region 13 with fail
                go_upto_region 14 with (go_at_call 74; refine (rt_text hStc.r (by have := HNX.out; omega) (Int.le_refl _) HA.out).mono ?_; rintro e w5 ⟨nm', rfl, hnm, hR5, ho5⟩; obtain rfl := hnm he)
                have hSt5 := hStc.step ho5 hR5
                have hnr : ∀ y, (Value.slice EA m Ec).ownBlock = some y → y ∉ [rb] := fun y hy => by
                  have h1 := hown.lt hy
                  have h2 := hStc.hrb
                  have h3 := hStc.hib
                  simp
                  omega
                have hown5 := hown.only ho5 hnr
                clear hStc hR5 ho5 hown q2 hnm
                by_cases hAe : sA.e = 0
                · have q2 := hSt5.r.good hAe
                  have c5 := hSt5.k.cell 5 _ rfl
                  have hStd := hSt5.below (Below.refl w5.heap.size w5).drew
                  have c5d := hStd.k.cell 5 _ rfl
                  have q2d := hStd.r.good hAe
                  have HLE := Lib.hid (show (acc'.length + 1) * kEnt.bytes ≤ 140737488355328 by rw [HM.out]; show (m + 1) * 24 ≤ _; omega)
                  have HL7 := Lib.hid (show (acc' ++ [(⟨strOf nm, v⟩ : Ent)]).length = m + 1 by rw [List.length_append, HM.out]; rfl)
                  have HLE2 := Lib.hid (show acc'.length + 1 ≤ 9223372036854775807 by rw [HM.out]; omega)
                  have hXn : (n : Int) ≤ 100000000000 := by have := HNX.out; omega
                  go_upto_region 15 with fail
                  go_region_law (first
                      | (go_simp; go_at_call 61; refine (rt_number hStd.r hXn HB.out).mono ?_; rintro e w6 ⟨v', rfl, hv', hR6, ho6⟩; obtain rfl := hv' hAe; have hSt6 := hStd.step ho6 hR6; have c6 := hSt6.k.cell 5 _ rfl; have c6a := (hSt6.below (below_alloc w6 (.cells #[.string (strOf nm), .int .i64 v'] 80))).k.cell 5 _ rfl; have hown6 := (hown5.below (Below.refl w5.heap.size w5).drew).only ho6 hnr)
                      | (refine step_by (by rfl) (wp_append_el kEnt _ _ rfl (y := ⟨strOf nm, v'⟩) rfl rfl (hown6.alloc (.cells #[.string (strOf nm), .int .i64 v'] 80)) (cells_alloc w6 [.string (strOf nm), .int .i64 v'] 80 (0, 0)) HLE.out HLE2.out (by rw [World.size_alloc]; have := hSt6.k.lt; omega) ?_); intro v7 w7 hown7 hg7 hv7; have hSt7 := (hSt6.below (below_alloc w6 (.cells #[.string (strOf nm), .int .i64 v'] 80))).grown hg7 (fun q hq => (hown6.lt hq).1); have c7 := hSt7.k.cell 5 _ rfl; have f7 := hSt7.k.frz 5; obtain ⟨EA7, Ec7, rfl, hc7, -, -⟩ := hown7.read; rw [HL7.out] at hc7 hown7 ⊢))
                  all_goals
                    have hSt8 : RSt w0 rb A n c b ib [.int .i64 b1, .int .i64 b2, .int .i64 b3, .int .i64 b4, .string (strOf t), .slice EA7 (m + 1) Ec7, .slice none 0 0] sB ((n : Int) + 8) (w7.setCell ⟨ib, 5, none⟩ (.slice EA7 (m + 1) Ec7)) := hSt7.set 5 (.slice EA7 (m + 1) Ec7)
                    have hown8 := hown7.only ((Only.refl [ib] w7).setCell (p := ⟨ib, 5, none⟩) (Or.inl (by simp)) (.slice EA7 (m + 1) Ec7)) (fun q hq => by have := (hown7.lt hq).1; simp; omega)
                    clear hSt5 hSt6 hSt7 hStd hown5 hown6 hown7 hg7 hv7 c5 c5d c6 c6a c7 f7 hR6 ho6 hnr q2 q2d hv'
                    go_wp2_with fail
                    go_roundw
                    case rel => exact ⟨k', sB, acc ++ [⟨strOf nm, v'⟩], acc' ++ [⟨strOf nm, v'⟩], m + 1, EA7, Ec7, by have := HK'.out; omega, (by have := HK'.out; subst this; go_num), HR2, (fun _ => by rw [hAA]), HL7, hSt8, hown8, (fun h => by have := h12 h; push_cast; omega), hmm⟩
                    case measure => simp [intOf]; have := HK'.out; omega
                · have q2 := hSt5.r.ill hAe
                  have hBA : sB = sA := by
                    have := rdInt_dead b sA hAe
                    rw [HB.out] at this
                    exact this
                  subst hBA
                  have hSt8 := hSt5.mono (X' := (n : Int) + 8) (by omega)
                  clear hSt5
                  go_wp2_with fail
                  go_roundw
                  case rel => exact ⟨k', sB, acc ++ [⟨strOf nm, v⟩], acc', m, EA, Ec, by have := HK'.out; omega, (by have := HK'.out; subst this; go_num), HR2, (fun h => absurd h hAe), HM, hSt8, hown5, (fun h => absurd h hAe), by omega⟩
                  case measure => simp [intOf]; have := HK'.out; omega
            · obtain rfl : k = 0 := by omega
              have hfin : acc = es ∧ sc = s7 := by
                have h1 := HR.out
                unfold rdEnts at h1; simpa using h1
              obtain ⟨rfl, rfl⟩ := hfin
              clear HR
              go_wp2_with fail
              go_meet
              exact ⟨m, EA, Ec, acc', HM, HAA.out, hSt, hown, hmb⟩
          · have q2 := hSt.r.ill he
            have hfin : sc = s7 := by
              have h1 := rdEnts_dead b k sc acc he
              rw [HR.out] at h1
              exact (congrArg Prod.snd h1).symm
            subst hfin
            clear HR
            by_cases hk0 : k = 0
            · subst hk0
              go_wp2_with fail
              go_meet
              exact ⟨m, EA, Ec, acc', HM, (fun h => absurd h he), hSt, hown, hmb⟩
            · have hkI : (0 : Int) < (k : Int) := by omega
              go_wp2_with fail
              go_meet
              exact ⟨m, EA, Ec, acc', HM, (fun h => absurd h he), hSt, hown, hmb⟩
      case rest =>
      obtain ⟨me, EA, Ec, es', HME, hes, hSt, hownE, hme⟩ := hcut
      obtain ⟨wq, rfl⟩ : ∃ w5, w5 = wc := ⟨_, rfl⟩
      obtain ⟨Ae, ce, eE, hcE, hatE, hAE⟩ := hownE.read
      have HatE : Hid (kEnt.At wq EA es' ∧ (me ≤ Ec ∧ Ec ≤ maxLen) ∧ (∀ y, EA = some y → ib < y.block)) := by
        simp only [Value.slice.injEq] at eE
        obtain ⟨rfl, -, rfl⟩ := eE
        rw [HME.out] at hcE
        exact ⟨hatE, hcE, fun y e => (hAE y e).1⟩
      have hnrb : ∀ y, (Value.slice EA me Ec).ownBlock = some y → y ∉ [rb] := fun y hy => by
        have h1 := hownE.lt hy
        have h2 := hSt.hrb
        have h3 := hSt.hib
        simp
        omega
      clear eE hcE hatE hAE
      by_cases h7 : s7.e ≠ 0
      · all_goals
          have q2 := hSt.r.ill h7
          obtain rfl := HD7.out h7
          clear hownE hnrb
          have hlast : (n : Int) + 8 ≤ X + 64 := by have := HNX.out; omega
          have k0 := hSt.k.cell 0 _ rfl
          have z0 := hSt.z.cell 0 _ rfl
          have f0 := hSt.z.frz 0
          have k1 := hSt.k.cell 1 _ rfl
          have z1 := hSt.z.cell 1 _ rfl
          have f1 := hSt.z.frz 1
          have k2 := hSt.k.cell 2 _ rfl
          have z2 := hSt.z.cell 2 _ rfl
          have f2 := hSt.z.frz 2
          have k3 := hSt.k.cell 3 _ rfl
          have z3 := hSt.z.cell 3 _ rfl
          have f3 := hSt.z.frz 3
          have k4 := hSt.k.cell 4 _ rfl
          have z4 := hSt.z.cell 4 _ rfl
          have f4 := hSt.z.frz 4
          have k5 := hSt.k.cell 5 _ rfl
          have z5 := hSt.z.cell 5 _ rfl
          have f5 := hSt.z.frz 5
          have k6 := hSt.k.cell 6 _ rfl
          have z6 := hSt.z.cell 6 _ rfl
          have f6 := hSt.z.frz 6
          have HF := Lib.hid (And.intro (((((((hSt.z.set 0 (.int .i64 b1)).set 1 (.int .i64 b2)).set 2 (.int .i64 b3)).set 3 (.int .i64 b4)).set 4 (.string (strOf t))).set 5 (.slice EA me Ec)).set 6 (.slice none 0 0)) (And.intro ((((((((Only.refl [w0.heap.size] wq).setCell (p := ⟨w0.heap.size, 0, none⟩) (Or.inl (by simp)) (.int .i64 b1)).setCell (p := ⟨w0.heap.size, 1, none⟩) (Or.inl (by simp)) (.int .i64 b2)).setCell (p := ⟨w0.heap.size, 2, none⟩) (Or.inl (by simp)) (.int .i64 b3)).setCell (p := ⟨w0.heap.size, 3, none⟩) (Or.inl (by simp)) (.int .i64 b4)).setCell (p := ⟨w0.heap.size, 4, none⟩) (Or.inl (by simp)) (.string (strOf t))).setCell (p := ⟨w0.heap.size, 5, none⟩) (Or.inl (by simp)) (.slice EA me Ec)).setCell (p := ⟨w0.heap.size, 6, none⟩) (Or.inl (by simp)) (.slice none 0 0)) (hSt.mono hlast)))
          clear hSt
          go_wp2_with fail
          have hz := HF.out.1
          have d0 := hz.cell 0 _ rfl
          have d1 := hz.cell 1 _ rfl
          have d2 := hz.cell 2 _ rfl
          have d3 := hz.cell 3 _ rfl
          have d4 := hz.cell 4 _ rfl
          have d5 := hz.cell 5 _ rfl
          have d6 := hz.cell 6 _ rfl
          have hSt := HF.out.2.2
          have hoF := HF.out.2.1
          have hq1 := hSt.hrb
          have hq2 := hSt.hib
          have hq3 := hSt.z.lt
          obtain ⟨rfl, rfl⟩ := HX.out
          refine bodyPost_ret (v := .agg #[.int .i64 b1, .int .i64 b2, .int .i64 b3, .int .i64 b4, .string (strOf t), .slice EA me Ec, .slice none 0 0]) (by simp [results, Try.results62, go_sem, d0, d1, d2, d3, d4, d5, d6]) rfl ⟨⟨EA, Ec, none, 0⟩, ⟨b1, b2, b3, b4, strOf t, es', []⟩, ?_, ?_, ?_, ?_, ?_, ?_, ?_⟩
          · simp only [inoCells, List.length_nil]
            rw [HME.out]
          · exact fun h => absurd h h7
          · exact hSt.r.only hoF (by simp; omega) (fun y e h0 hm => by have := hSt.hA y e h0; simp at hm; omega)
          · refine ⟨HatE.out.1.only hoF (fun y e h0 hm => by have h1 := HatE.out.2.2 y e; simp at hm; omega), Kind.At.nil _ _ _, by rw [HME.out]; exact HatE.out.2.1, ⟨Nat.le_refl _, Nat.zero_le _⟩⟩
          · intro y e
            have h1 := HatE.out.2.2 y e
            omega
          · intro y e; cases e
          · exact hSt.o.trans' hoF (fun q hq => Or.inr (by simp at hq; omega))
      · have h7 : s7.e = 0 := by omega
        obtain rfl := hes h7
        have q2 := hSt.r.good h7
        have hSt4 := hSt.tight h7
        have hnr4 : nr < 4294967296 := by
          have := (show RS.ok s7 b.length by rw [hSt.r.len]; exact hSt.r.ok).get 4 (by decide)
          rw [HE.out.2.2.2.2.2.2.2.1] at this
          exact this.2.1
        have hwne : wrap64 (nr : Int) = (nr : Int) := by unfold wrap64; omega
        have HWN := Lib.hid hwne
        clear hwne hSt hes
        go_upto_region 18 with fail
        go_upto_block 2 with (go_at_call 75; refine (rt_many hSt4.r (by have := HNX.out; omega) HE.out.2.2.2.2.2.2.2.1).mono ?_; rintro e w6 ⟨v', rfl, hv, hR6, ho6⟩; obtain rfl := hv h7; rw [HWN.out])
        have hSt6 := (hSt4.step ho6 hR6).mono (X' := (n : Int) + 24) (by omega)
        have hownE6 := hownE.only ho6 hnrb
        have HatE : Hid (kEnt.At w6 EA es' ∧ (me ≤ Ec ∧ Ec ≤ maxLen) ∧ (∀ y, EA = some y → ib < y.block)) := by
          refine ⟨?_, HatE.out.2⟩
          obtain ⟨Ae, ce, eE, hcE, hatE, hAE⟩ := hownE6.read
          simp only [Value.slice.injEq] at eE
          obtain ⟨rfl, -, rfl⟩ := eE
          exact hatE
        have hEl : ∀ y, EA = some y → 0 < es'.length → y.block < w6.heap.size := fun y e h0 => by
          rcases HatE.out.1 with h | ⟨b', off, e2, hc⟩
          · rw [h] at h0; simp at h0
          · rw [e] at e2
            cases e2
            have hu : 0 < (kEnt.cells es').length := by rw [kEnt.cells_length]; show 0 < es'.length * 2; omega
            exact World.block_lt_of_cell? w6 _ (hc 0 _ (List.getElem?_eq_getElem hu))
        have HEl := Lib.hid hEl
        have HB6 : Hid (w0.heap.size < w6.heap.size) := hSt6.z.lt
        clear hSt4 hR6 ho6 hownE hownE6 hEl hnrb q2 hv HWN h7 HD7
        go_cut [6] (fun v6 w' => ∃ m RA Rc acc, Hid (acc.length = m) ∧ (s9.e = 0 → acc = rs) ∧ RSt w0 rb A n c b ib [.int .i64 b1, .int .i64 b2, .int .i64 b3, .int .i64 b4, .string (strOf t), .slice EA me Ec, .slice RA m Rc] s9 ((n : Int) + 24) w' ∧ kRun.Own w' w6.heap.size (.slice RA m Rc) acc ∧ kEnt.At w' EA es')
        case first =>
          go_upto_region 19 with fail
          go_loopw [6] (fun v6 wr => ∃ (k : Nat) (sc : RS) (acc acc' : List RunT) (m : Nat) (RA : Option Addr) (Rc : Nat), k < 4294967296 ∧ v6 = .int .i64 (k : Int) ∧ Hid (rdRuns b k sc acc = (rs, s9)) ∧ Hid (sc.e = 0 → acc' = acc) ∧ Hid (acc'.length = m) ∧ RSt w0 rb A n c b ib [.int .i64 b1, .int .i64 b2, .int .i64 b3, .int .i64 b4, .string (strOf t), .slice EA me Ec, .slice RA m Rc] sc ((n : Int) + 24) wr ∧ kRun.Own wr w6.heap.size (.slice RA m Rc) acc' ∧ kEnt.At wr EA es' ∧ (sc.e = 0 → 24 * (m : Int) ≤ sc.at') ∧ m ≤ 100000000 ∧ w6.heap.size ≤ wr.heap.size) (fun v6 _ => (intOf v6).toNat)
          case atStart => exact ⟨nr, s8, [], [], 0, none, 0, hnr4, rfl, HE.out.2.2.2.2.2.2.2.2, (fun _ => rfl), rfl, hSt6, Kind.Own.nil _ _, HatE.out.1, (fun _ => by have := hSt6.r.ok.1; omega), by decide, Nat.le_refl _⟩
          case round =>
            have hib6 : ib < w6.heap.size := hSt6.k.lt
            clear hSt6
            obtain ⟨k, sc, acc, acc', m, RA, Rc, hk, rfl, HR, HAA, HM, hSt, hown, hatE, hm24, hmb, hz6⟩ := hrel
            by_cases he : sc.e = 0
            · have q2 := hSt.r.good he
              by_cases hk0 : 0 < k
              · all_goals
                  obtain ⟨k', HK'⟩ : ∃ k', Hid (k = k' + 1) := ⟨k - 1, (by omega : k = (k - 1) + 1)⟩
                  have hkI : (0 : Int) < (k : Int) := by omega
                  have hm1 := hm24 he
                  have hAA : acc' = acc := HAA.out he
                  obtain ⟨f1, sA, hA⟩ : ∃ v sA, rdInt b sc = (v, sA) := ⟨_, _, rfl⟩
                  obtain ⟨f2, sB, hB⟩ : ∃ v sB, rdInt b sA = (v, sB) := ⟨_, _, rfl⟩
                  obtain ⟨f3, sC, hC⟩ : ∃ v sC, rdInt b sB = (v, sC) := ⟨_, _, rfl⟩
                  have hokc : RS.ok sc b.length := by rw [hSt.r.len]; exact hSt.r.ok
                  have hokA : RS.ok sA b.length := by have := hokc.int; rw [hA] at this; exact this
                  have hokB : RS.ok sB b.length := by have := hokA.int; rw [hB] at this; exact this
                  have h24 : sC.e = 0 → (sA.e = 0 ∧ sB.e = 0) ∧ sc.at' + 24 ≤ sC.at' := fun h => by
                    have h1 := rdInt_at hokB (by rw [hC]; exact h)
                    rw [hC] at h1
                    have h2 := rdInt_at hokA (by rw [hB]; exact h1.1)
                    rw [hB] at h2
                    have h3 := rdInt_at hokc (by rw [hA]; exact h2.1)
                    rw [hA] at h3
                    simp only at h1 h2 h3
                    exact ⟨⟨h2.1, h1.1⟩, by omega⟩
                  have hmm : m + 1 ≤ 100000000 := by
                    have h1 := hSt.r.ok.2.2.1 he
                    have h2 := hSt.r.lim
                    omega
                  have HR2 : Hid (rdRuns b k' sC (acc ++ [⟨f1, f2, f3⟩]) = (rs, s9)) := by
                    have h1 := HR.out
                    rw [HK'.out] at h1
                    unfold rdRuns rdRun at h1
                    rw [if_pos he] at h1
                    simp only [hA, hB, hC] at h1
                    exact h1
                  have HABC := Lib.hid (And.intro hA (And.intro hB hC))
                  have hStc := hSt.tight he
                  clear hA hB hC hokc hokA hokB hm24 HR hSt
                  obtain ⟨wo, rfl⟩ : ∃ wo, wo = wr := ⟨_, rfl⟩
                  have hXn : (n : Int) + 16 ≤ 100000000000 := by have := HNX.out; omega
                  go_upto_region 21 with fail
                  go_upto_region 22 with (go_at_call 61; refine (rt_number hStc.r (by omega) HABC.out.1).mono ?_; rintro e w7 ⟨g1, rfl, hg1, hR7, ho7⟩; obtain rfl := hg1 he)
                  have hSt7 := hStc.step ho7 hR7
                  have hq7 := Blk.new w7 [.int .i64 g1, .int .i64 0, .int .i64 0] 109
                  have hqb := below_alloc w7 (.cells [.int .i64 g1, .int .i64 0, .int .i64 0].toArray 109 (0, 0))
                  have hSt8 := hSt7.below hqb
                  have ho8 : Only [rb] wo (w7.alloc (.cells [.int .i64 g1, .int .i64 0, .int .i64 0].toArray 109 (0, 0))) := ho7.trans (Only.of_below hqb _)
                  have hz7 := ho7.size
                  obtain ⟨qb, hqe⟩ : ∃ q, w7.heap.size = q := ⟨_, rfl⟩
                  rw [hqe] at hq7 hz7 ⊢
                  generalize w7.alloc (.cells [.int .i64 g1, .int .i64 0, .int .i64 0].toArray 109 (0, 0)) = w8 at *
                  have hqn : qb ≠ rb := by have := hStc.hrb; have := hStc.z.lt; omega
                  have hqi : ib < qb := by have := hStc.k.lt; omega
                  have hqA : ∀ y, A = some y → 0 < n → y.block ≠ qb := fun y e h0 => by have := hStc.hA y e h0; have := hStc.z.lt; omega
                  have HQ := Lib.hid (And.intro hqn (And.intro hqA hqi))
                  clear hSt7 hStc hR7 ho7 hqb hqe hg1 q2 hqn hqA hqi
                  go_upto_region 23 with (go_at_call 61; refine (rt_number hSt8.r (by omega) HABC.out.2.1).mono ?_; rintro e w9 ⟨g2, rfl, hg2, hR9, ho9⟩; have hq9 := hq7.only ho9 (by have := HQ.out.1; simpa using this); have e1 := hq9.cell 1 _ rfl; have f1' := hq9.frz 1)
                  have hSt9 := hSt8.step ho9 hR9
                  have hoS : Only [qb] w9 (w9.setCell ⟨qb, 1, none⟩ (.int .i64 g2)) := (Only.refl _ w9).setCell (Or.inl (by simp)) _
                  have hSt10 := hSt9.turn hoS (fun x hx => by simp at hx; have := HQ.out.2.2; omega)
                  have hq10 : Blk (w9.setCell ⟨qb, 1, none⟩ (.int .i64 g2)) qb 109 [.int .i64 g1, .int .i64 g2, .int .i64 0] := hq9.set 1 _
                  have ho10 : Only [rb, qb] wo (w9.setCell ⟨qb, 1, none⟩ (.int .i64 g2)) := ((ho8.trans ho9).mono (by simp)).trans (hoS.mono (by simp))
                  generalize w9.setCell ⟨qb, 1, none⟩ (.int .i64 g2) = w10 at *
                  have Hg2 := Lib.hid hg2
                  clear hSt8 hSt9 hq7 hq9 hR9 ho9 hoS e1 f1' hg2 ho8
                  go_upto_region 24 with (go_at_call 61; refine (rt_number hSt10.r (by omega) HABC.out.2.2).mono ?_; rintro e w11 ⟨g3, rfl, hg3, hR11, ho11⟩; have hq11 := hq10.only ho11 (by have := HQ.out.1; simpa using this); have e2 := hq11.cell 2 _ rfl; have f2' := hq11.frz 2)
                  have hSt11 := hSt10.step ho11 hR11
                  have hoS : Only [qb] w11 (w11.setCell ⟨qb, 2, none⟩ (.int .i64 g3)) := (Only.refl _ w11).setCell (Or.inl (by simp)) _
                  have hSt12 := (hSt11.turn hoS (fun x hx => by simp at hx; have := HQ.out.2.2; omega)).mono (X' := (n : Int) + 24) (by omega)
                  have hq12 : Blk (w11.setCell ⟨qb, 2, none⟩ (.int .i64 g3)) qb 109 [.int .i64 g1, .int .i64 g2, .int .i64 g3] := hq11.set 2 _
                  have ho12 : Only [rb, qb] wo (w11.setCell ⟨qb, 2, none⟩ (.int .i64 g3)) := (ho10.trans (ho11.mono (by simp))).trans (hoS.mono (by simp))
                  have Hv : Hid (sC.e = 0 → f2 = g2 ∧ f3 = g3) := fun h => ⟨(Hg2.out (h24 h).1.1).symm, (hg3 (h24 h).1.2).symm⟩
                  generalize w11.setCell ⟨qb, 2, none⟩ (.int .i64 g3) = w12 at *
                  clear hSt10 hSt11 hq10 hq11 hR11 ho11 hoS e2 f2' hg3 Hg2 ho10
                  have hqo : wo.heap.size ≤ qb := by omega
                  have hnrr : ∀ y, (Value.slice RA m Rc).ownBlock = some y → y ∉ [rb, qb] := fun y hy => by
                    have h1 := hown.lt hy
                    have h2 := hSt12.hrb
                    have h3 := hSt12.hib
                    simp
                    omega
                  have hown9 := hown.only ho12 hnrr
                  have hatE9 := hatE.only ho12 (fun y e h0 hm => by have h1 := HatE.out.2.2 y e; have h4 := HEl.out y e h0; have h2 := hSt12.hrb; have h3 := hSt12.hib; simp at hm; omega)
                  have c6 := hSt12.k.cell 6 _ rfl
                  have f6 := hSt12.k.frz 6
                  have e0 := hq12.cell 0 _ rfl
                  have e1 := hq12.cell 1 _ rfl
                  have e2 := hq12.cell 2 _ rfl
                  have HLR := Lib.hid (show (acc'.length + 1) * kRun.bytes ≤ 140737488355328 by rw [HM.out]; show (m + 1) * 24 ≤ _; omega)
                  have HLR2 := Lib.hid (show acc'.length + 1 ≤ 9223372036854775807 by rw [HM.out]; omega)
                  have HL7 := Lib.hid (show (acc' ++ [(⟨g1, g2, g3⟩ : RunT)]).length = m + 1 by rw [List.length_append, HM.out]; rfl)
                  have hz9 := ho12.size
                  have hoA := hown9.alloc (.cells #[.int .i64 g1, .int .i64 g2, .int .i64 g3] 109)
                  have hcA := cells_alloc w12 [.int .i64 g1, .int .i64 g2, .int .i64 g3] 109 (0, 0)
                  have hzA : w6.heap.size ≤ (w12.alloc (.cells #[.int .i64 g1, .int .i64 g2, .int .i64 g3] 109)).heap.size := by rw [World.size_alloc]; omega
                  have hStA := hSt12.below (below_alloc w12 (.cells #[.int .i64 g1, .int .i64 g2, .int .i64 g3] 109))
                  have hatA := hatE9.below (below_alloc w12 (.cells #[.int .i64 g1, .int .i64 g2, .int .i64 g3] 109))
                  clear hq12 hSt12 hown9 hatE9
                  go_wp2_with (at_builtin; refine wpList_wanted (by rfl) fun K hK => wp_append_el kRun _ _ rfl (y := ⟨g1, g2, g3⟩) rfl rfl hoA hcA HLR.out HLR2.out hzA ?_; intro v7 w13 hown7 hg7 hv7; have hSt13 := hStA.grown hg7 (fun q hq => by have := (hoA.lt hq).1; omega); have c6b := hSt13.k.cell 6 _ rfl; have f6b := hSt13.k.frz 6; obtain ⟨RA7, Rc7, rfl, hc7, -, -⟩ := hown7.read; rw [HL7.out] at hc7 hown7 ⊢; refine hK _ _ ?_; clear hK K)
                  have hSt14 : RSt w0 rb A n c b ib [.int .i64 b1, .int .i64 b2, .int .i64 b3, .int .i64 b4, .string (strOf t), .slice EA me Ec, .slice RA7 (m + 1) Rc7] sC ((n : Int) + 24) (w13.setCell ⟨ib, 6, none⟩ (.slice RA7 (m + 1) Rc7)) := hSt13.set 6 (.slice RA7 (m + 1) Rc7)
                  have hoB : Only [ib] w13 (w13.setCell ⟨ib, 6, none⟩ (.slice RA7 (m + 1) Rc7)) := (Only.refl [ib] w13).setCell (Or.inl (by simp)) _
                  have hown14 := hown7.only hoB (fun q hq => by have := (hown7.lt hq).1; simp; omega)
                  have hatE13 : kEnt.At w13 EA es' := by
                    have hg8 : (w12.alloc (.cells #[.int .i64 g1, .int .i64 g2, .int .i64 g3] 109)).grownBy w13 (Value.slice RA m Rc).ownBlock := hg7
                    obtain ⟨S, hS1, hS2⟩ := only_of_grown hg8 (B := w6.heap.size) (fun k e => (hoA.lt e).1)
                    exact hatA.only hS1 (fun y e h0 hm => by have h1 := hS2 _ hm; have h2 := HEl.out y e h0; omega)
                  have hatE14 := hatE13.only hoB (fun y e h0 hm => by have h1 := HatE.out.2.2 y e; simp at hm; omega)
                  have hz14 : w6.heap.size ≤ (w13.setCell ⟨ib, 6, none⟩ (.slice RA7 (m + 1) Rc7)).heap.size := by
                    have h1 := hoB.size
                    have h2 := hg7.size
                    omega
                  go_roundw
                  case rel => exact ⟨k', sC, acc ++ [⟨g1, f2, f3⟩], acc' ++ [⟨g1, g2, g3⟩], m + 1, RA7, Rc7, by have := HK'.out; omega, (by have := HK'.out; subst this; go_num), HR2, (fun h => by rw [hAA, (Hv.out h).1, (Hv.out h).2]), HL7, hSt14, hown14, hatE14, (fun h => by have := (h24 h).2; push_cast; omega), hmm, hz14⟩
                  case measure => simp [intOf]; have := HK'.out; omega
              · obtain rfl : k = 0 := by omega
                have hfin : acc = rs ∧ sc = s9 := by
                  have h1 := HR.out
                  unfold rdRuns at h1; simpa using h1
                obtain ⟨rfl, rfl⟩ := hfin
                clear HR
                go_wp2_with fail
                go_meet
                exact ⟨m, RA, Rc, acc', HM, HAA.out, hSt, hown, hatE⟩
            · have q2 := hSt.r.ill he
              have hfin : sc = s9 := by
                have h1 := rdRuns_dead b k sc acc he
                rw [HR.out] at h1
                exact (congrArg Prod.snd h1).symm
              subst hfin
              clear HR
              by_cases hk0 : k = 0
              · subst hk0
                go_wp2_with fail
                go_meet
                exact ⟨m, RA, Rc, acc', HM, (fun h => absurd h he), hSt, hown, hatE⟩
              · have hkI : (0 : Int) < (k : Int) := by omega
                go_wp2_with fail
                go_meet
                exact ⟨m, RA, Rc, acc', HM, (fun h => absurd h he), hSt, hown, hatE⟩
        case rest =>
          obtain ⟨mr, RA, Rc, rs', HMR, hrs, hSt, hownR, hatE⟩ := hcut
          obtain ⟨wq, rfl⟩ : ∃ w12, w12 = wc := ⟨_, rfl⟩
          have hlast : (n : Int) + 24 ≤ X + 64 := by have := HNX.out; omega
          have k0 := hSt.k.cell 0 _ rfl
          have z0 := hSt.z.cell 0 _ rfl
          have f0 := hSt.z.frz 0
          have k1 := hSt.k.cell 1 _ rfl
          have z1 := hSt.z.cell 1 _ rfl
          have f1 := hSt.z.frz 1
          have k2 := hSt.k.cell 2 _ rfl
          have z2 := hSt.z.cell 2 _ rfl
          have f2 := hSt.z.frz 2
          have k3 := hSt.k.cell 3 _ rfl
          have z3 := hSt.z.cell 3 _ rfl
          have f3 := hSt.z.frz 3
          have k4 := hSt.k.cell 4 _ rfl
          have z4 := hSt.z.cell 4 _ rfl
          have f4 := hSt.z.frz 4
          have k5 := hSt.k.cell 5 _ rfl
          have z5 := hSt.z.cell 5 _ rfl
          have f5 := hSt.z.frz 5
          have k6 := hSt.k.cell 6 _ rfl
          have z6 := hSt.z.cell 6 _ rfl
          have f6 := hSt.z.frz 6
          have HF := Lib.hid (And.intro (((((((hSt.z.set 0 (.int .i64 b1)).set 1 (.int .i64 b2)).set 2 (.int .i64 b3)).set 3 (.int .i64 b4)).set 4 (.string (strOf t))).set 5 (.slice EA me Ec)).set 6 (.slice RA mr Rc)) (And.intro ((((((((Only.refl [w0.heap.size] wq).setCell (p := ⟨w0.heap.size, 0, none⟩) (Or.inl (by simp)) (.int .i64 b1)).setCell (p := ⟨w0.heap.size, 1, none⟩) (Or.inl (by simp)) (.int .i64 b2)).setCell (p := ⟨w0.heap.size, 2, none⟩) (Or.inl (by simp)) (.int .i64 b3)).setCell (p := ⟨w0.heap.size, 3, none⟩) (Or.inl (by simp)) (.int .i64 b4)).setCell (p := ⟨w0.heap.size, 4, none⟩) (Or.inl (by simp)) (.string (strOf t))).setCell (p := ⟨w0.heap.size, 5, none⟩) (Or.inl (by simp)) (.slice EA me Ec)).setCell (p := ⟨w0.heap.size, 6, none⟩) (Or.inl (by simp)) (.slice RA mr Rc)) (hSt.mono hlast)))
          clear hSt
          go_wp2_with fail
          have hz := HF.out.1
          have d0 := hz.cell 0 _ rfl
          have d1 := hz.cell 1 _ rfl
          have d2 := hz.cell 2 _ rfl
          have d3 := hz.cell 3 _ rfl
          have d4 := hz.cell 4 _ rfl
          have d5 := hz.cell 5 _ rfl
          have d6 := hz.cell 6 _ rfl
          have hSt := HF.out.2.2
          have hoF := HF.out.2.1
          have hq1 := hSt.hrb
          have hq2 := hSt.hib
          have hq3 := hSt.z.lt
          obtain ⟨RA', Rc', eR, hcR, hatR, hAR⟩ := hownR.read
          simp only [Value.slice.injEq] at eR
          obtain ⟨rfl, -, rfl⟩ := eR
          have h6 := HB6.out
          obtain ⟨rfl, rfl⟩ := HX.out
          refine bodyPost_ret (v := .agg #[.int .i64 b1, .int .i64 b2, .int .i64 b3, .int .i64 b4, .string (strOf t), .slice EA me Ec, .slice RA mr Rc]) (by simp [results, Try.results62, go_sem, d0, d1, d2, d3, d4, d5, d6]) rfl ⟨⟨EA, Ec, RA, Rc⟩, ⟨b1, b2, b3, b4, strOf t, es', rs'⟩, ?_, ?_, ?_, ?_, ?_, ?_, ?_⟩
          · simp only [inoCells]
            rw [HME.out, HMR.out]
          · exact fun h => by rw [hrs h]
          · exact hSt.r.only hoF (by simp; omega) (fun y e h0 hm => by have := hSt.hA y e h0; simp at hm; omega)
          · refine ⟨hatE.only hoF (fun y e h0 hm => by have h1 := HatE.out.2.2 y e; simp at hm; omega), hatR.only hoF (fun y e h0 hm => by have h1 := (hAR y e).1; simp at hm; omega), by rw [HME.out]; exact HatE.out.2.1, hcR⟩
          · intro y e
            have h1 := HatE.out.2.2 y e
            omega
          · intro y e
            have h1 := (hAR y e).1
            omega
          · exact hSt.o.trans' hoF (fun q hq => Or.inr (by simp at hq; omega))

end
end Go.Proofs.Ytdieeleaaejfhaa
