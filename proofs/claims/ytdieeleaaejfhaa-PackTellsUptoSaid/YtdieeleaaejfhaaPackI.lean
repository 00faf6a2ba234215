/- The program's reader of an inode. -/
import Derived.Test.YtdieeleaaejfhaaPackR
import Derived.Deep.AppendLies
set_option linter.unusedVariables false
set_option maxRecDepth 100000
set_option linter.unusedSimpArgs false
namespace Go.Proofs.Ytdieeleaaejfhaa
open Go.RowKit

section
variable {w : World} {rb n c : Nat} {A : Option Addr} {b : List UInt8} {s : RS}
theorem Rdr.only {w' : World} {S : List Nat} (h : Rdr w rb A n c b s) (ho : Only S w w') (h1 : rb ∉ S) (h2 : ∀ y, A = some y → 0 < n → y.block ∉ S) : Rdr w' rb A n c b s :=
  ⟨h.blk.only ho h1, h.by'.only ho (fun y e h0 => h2 y e (by rw [h.len] at h0; exact h0)), h.len, h.cap, h.lim, h.far, h.ok⟩
theorem Rdr.inl (h : Rdr w rb A n c b s) : ∀ y, A = some y → 0 < n → y.block < w.heap.size := fun y e h0 => by
  obtain ⟨b', off, e2, hc⟩ := h.by'.at (k := 0) (by rw [h.len]; exact h0)
  rw [e] at e2
  cases e2
  exact World.block_lt_of_cell? w _ hc

/-- A reader at rb that fills an inode at block ib (its result's block lies ahead). -/
structure InoSt (w0 : World) (rb : Nat) (A : Option Addr) (n c : Nat) (b : List UInt8) (ib : Nat) (cs : List Value) (s : RS) (w : World) : Prop where
  o : Only [rb] w0 w
  r : Rdr w rb A n c b s
  k : Blk w ib 69 cs
  z : Blk w w0.heap.size 69 [.int .i64 0, .int .i64 0, .int .i64 0, .int .i64 0, .string ByteArray.empty, .slice none 0 0, .slice none 0 0]
  hrb : rb < w0.heap.size
  hib : w0.heap.size < ib
  hA : ∀ y, A = some y → 0 < n → y.block < w0.heap.size
theorem InoSt.step {w0 : World} {ib : Nat} {cs : List Value} (h : InoSt w0 rb A n c b ib cs s w) {w' : World} {s' : RS} (ho : Only [rb] w w') (hR : Rdr w' rb A n c b s') : InoSt w0 rb A n c b ib cs s' w' :=
  ⟨h.o.trans ho, hR, h.k.only ho (by have := h.hrb; have := h.hib; simp; omega), h.z.only ho (by have := h.hrb; simp; omega), h.hrb, h.hib, h.hA⟩
theorem InoSt.below {w0 : World} {ib : Nat} {cs : List Value} (h : InoSt w0 rb A n c b ib cs s w) {w' : World} (hb : Below w.heap.size w w') : InoSt w0 rb A n c b ib cs s w' := h.step (Only.of_below hb _) (h.r.below hb)
theorem InoSt.turn {w0 : World} {ib : Nat} {cs : List Value} (h : InoSt w0 rb A n c b ib cs s w) {w' : World} {S : List Nat} (ho : Only S w w') (hS : ∀ x ∈ S, ib < x) : InoSt w0 rb A n c b ib cs s w' :=
  have h1 := h.hrb
  have h2 := h.hib
  ⟨h.o.trans' ho (fun x hx => Or.inr (by have := hS x hx; omega)), h.r.only ho (fun hm => by have := hS _ hm; omega) (fun y e h0 hm => by have := hS _ hm; have := h.hA y e h0; omega), h.k.only ho (fun hm => by have := hS _ hm; omega), h.z.only ho (fun hm => by have := hS _ hm; omega), h.hrb, h.hib, h.hA⟩
theorem InoSt.set {w0 : World} {ib : Nat} {cs : List Value} (h : InoSt w0 rb A n c b ib cs s w) (i : Nat) (u : Value) : InoSt w0 rb A n c b ib (cs.set i u) s (w.setCell ⟨ib, i, none⟩ u) := by
  have h1 := h.hrb
  have h2 := h.hib
  have ho : Only [ib] w (w.setCell ⟨ib, i, none⟩ u) := (Only.refl _ w).setCell (Or.inl (by simp)) _
  exact ⟨h.o.trans' ho (fun x hx => Or.inr (by simp at hx; omega)), h.r.only ho (by simp; omega) (fun y e h0 hm => by have := h.hA y e h0; simp at hm; omega), h.k.set i u, h.z.only ho (by simp; omega), h.hrb, h.hib, h.hA⟩

theorem only_of_grown {w w' : World} {row : Option Nat} (hg : w.grownBy w' row) {B : Nat} (hr : ∀ k, row = some k → B ≤ k) : ∃ S : List Nat, Only S w w' ∧ ∀ q ∈ S, B ≤ q := by
  cases row with
  | none => exact ⟨[], Only.of_below (below_of_grown hg (Nat.le_refl _) (fun k e => by cases e)) _, by simp⟩
  | some g => exact ⟨[g], Only.of_grown hg, fun q hq => by simp at hq; rw [hq]; exact hr g rfl⟩
theorem InoSt.grown {w0 : World} {ib : Nat} {cs : List Value} (h : InoSt w0 rb A n c b ib cs s w) {w' : World} {row : Option Nat} (hg : w.grownBy w' row) (hr : ∀ k, row = some k → ib < k) : InoSt w0 rb A n c b ib cs s w' := by
  cases row with
  | none => exact h.below (below_of_grown hg (Nat.le_refl _) (fun k e => by cases e))
  | some g => exact h.turn (Only.of_grown hg) (fun x hx => by simp at hx; rw [hx]; exact hr g rfl)

/-- An inode's first numbers, so many of them read. -/
def headAt (w0 : World) (rb : Nat) (A : Option Addr) (n c : Nat) (b : List UInt8) (ib : Nat) (s0 s1 s2 s3 s4 : RS) (a1 a2 a3 a4 : Int) (j : Nat) (w : World) : Prop :=
  match j with
  | 0 => InoSt w0 rb A n c b ib [.int .i64 0, .int .i64 0, .int .i64 0, .int .i64 0, .string ByteArray.empty, .slice none 0 0, .slice none 0 0] s0 w
  | 1 => InoSt w0 rb A n c b ib [.int .i64 a1, .int .i64 0, .int .i64 0, .int .i64 0, .string ByteArray.empty, .slice none 0 0, .slice none 0 0] s1 w
  | 2 => InoSt w0 rb A n c b ib [.int .i64 a1, .int .i64 a2, .int .i64 0, .int .i64 0, .string ByteArray.empty, .slice none 0 0, .slice none 0 0] s2 w
  | 3 => InoSt w0 rb A n c b ib [.int .i64 a1, .int .i64 a2, .int .i64 a3, .int .i64 0, .string ByteArray.empty, .slice none 0 0, .slice none 0 0] s3 w
  | _ => InoSt w0 rb A n c b ib [.int .i64 a1, .int .i64 a2, .int .i64 a3, .int .i64 a4, .string ByteArray.empty, .slice none 0 0, .slice none 0 0] s4 w

/-- A run's numbers, so many of them read. -/
def runAt (w0 : World) (rb : Nat) (A : Option Addr) (n c : Nat) (b : List UInt8) (q : Nat) (s0 s1 s2 s3 : RS) (a1 a2 a3 : Int) (j : Nat) (w : World) : Prop :=
  match j with
  | 0 => Rdr w rb A n c b s0 ∧ Blk w q 125 [.int .i64 0, .int .i64 0, .int .i64 0]
  | 1 => Rdr w rb A n c b s1 ∧ Blk w q 125 [.int .i64 a1, .int .i64 0, .int .i64 0]
  | 2 => Rdr w rb A n c b s2 ∧ Blk w q 125 [.int .i64 a1, .int .i64 a2, .int .i64 0]
  | _ => Rdr w rb A n c b s3 ∧ Blk w q 125 [.int .i64 a1, .int .i64 a2, .int .i64 a3]

theorem rdInt_at {b : List UInt8} {s : RS} (h : s.ok b.length) (he : (rdInt b s).2.e = 0) : s.e = 0 ∧ (rdInt b s).2.at' = s.at' + 8 := by
  obtain ⟨-, -, h3⟩ := h.get 8 (by decide)
  refine ⟨?_, h3 he⟩
  by_cases e1 : s.e = 0
  · exact e1
  · have : (rdInt b s).2 = s := by
      show (rdGet b s 8).2 = _
      unfold rdGet
      rw [if_neg e1]
    rw [this] at he
    exact absurd he e1
/-- How far a reader is behind an entry, a run. -/
theorem rdEnt_at {b : List UInt8} {s : RS} (h : s.ok b.length) (he : (rdInt b (rdText b s).2).2.e = 0) : s.at' + 12 ≤ (rdInt b (rdText b s).2).2.at' := by
  have h1 := h.text
  obtain ⟨-, -, h3⟩ := h1.get 8 (by decide)
  have h4 : (rdInt b (rdText b s).2).2.at' = (rdText b s).2.at' + 8 := h3 he
  rw [h4]
  obtain ⟨h5, -, -, -⟩ := h
  by_cases e0 : s.e = 0
  · have h6 : (rdText b s).2.e = 0 := by
      by_cases e1 : (rdText b s).2.e = 0
      · exact e1
      · have : (rdInt b (rdText b s).2).2 = (rdText b s).2 := by
          show (rdGet b (rdText b s).2 8).2 = _
          unfold rdGet
          rw [if_neg e1]
        rw [this] at he
        exact he
    unfold rdText at h6 ⊢
    rw [if_pos e0] at h6 ⊢
    rcases getT_cases b s.at' h5 with ⟨a, cc, d⟩ | ⟨a, cc⟩
    · simp only
      omega
    · simp only at h6
      omega
  · have e1 : (rdText b s).2 = s := by unfold rdText; rw [if_neg e0]
    have : (rdInt b (rdText b s).2).2 = (rdText b s).2 := by
      show (rdGet b (rdText b s).2 8).2 = _
      unfold rdGet
      rw [if_neg (by rw [e1]; exact e0)]
    rw [this, e1] at he
    exact absurd he e0

set_option maxHeartbeats 16000000 in
theorem rd_inode (h : Rdr w rb A n c b s) {x : Ino} {s' : RS} (hE : rdIno b s = (x, s')) :
    Calls Try.prog 73 #[.pointer (some ⟨rb, 0, none⟩)] w fun e w' => ∃ v : IV, e = .returned (.agg (inoCells x v).toArray) ∧ Rdr w' rb A n c b s' ∧ IvIs w' v x ∧ (∀ y, v.EA = some y → w.heap.size ≤ y.block) ∧ (∀ y, v.RA = some y → w.heap.size ≤ y.block) ∧ Only [rb] w w' := by
  obtain ⟨w0, rfl⟩ : ∃ w0 : World, w0 = w := ⟨_, rfl⟩
  have hs0 := Nat.le_refl w0.heap.size
  have hrb := h.lt
  have hzI : ∀ W : World, (zeroValue 69).run Try.prog W = .ok (.agg #[.int .i64 0, .int .i64 0, .int .i64 0, .int .i64 0, .string ByteArray.empty, .slice none 0 0, .slice none 0 0]) W := fun W => by kernel_rfl
  go_enter Try.func73, Try.ntmps73
  go_upto_region 3 with fail
  have hb1 : Blk ((w0.alloc (.cells [.int .i64 0, .int .i64 0, .int .i64 0, .int .i64 0, .string ByteArray.empty, .slice none 0 0, .slice none 0 0].toArray 69 (0, 0))).alloc (.cells [.int .i64 0, .int .i64 0, .int .i64 0, .int .i64 0, .string ByteArray.empty, .slice none 0 0, .slice none 0 0].toArray 69 (0, 0))) w0.heap.size 69 [.int .i64 0, .int .i64 0, .int .i64 0, .int .i64 0, .string ByteArray.empty, .slice none 0 0, .slice none 0 0] := (Blk.new w0 [.int .i64 0, .int .i64 0, .int .i64 0, .int .i64 0, .string ByteArray.empty, .slice none 0 0, .slice none 0 0] 69).alloc _
  have hb2 : Blk ((w0.alloc (.cells [.int .i64 0, .int .i64 0, .int .i64 0, .int .i64 0, .string ByteArray.empty, .slice none 0 0, .slice none 0 0].toArray 69 (0, 0))).alloc (.cells [.int .i64 0, .int .i64 0, .int .i64 0, .int .i64 0, .string ByteArray.empty, .slice none 0 0, .slice none 0 0].toArray 69 (0, 0))) (w0.heap.size + 1) 69 [.int .i64 0, .int .i64 0, .int .i64 0, .int .i64 0, .string ByteArray.empty, .slice none 0 0, .slice none 0 0] := by
    have := Blk.new (w0.alloc (.cells [.int .i64 0, .int .i64 0, .int .i64 0, .int .i64 0, .string ByteArray.empty, .slice none 0 0, .slice none 0 0].toArray 69 (0, 0))) [.int .i64 0, .int .i64 0, .int .i64 0, .int .i64 0, .string ByteArray.empty, .slice none 0 0, .slice none 0 0] 69
    rw [World.size_alloc] at this
    exact this
  have hbl : Below w0.heap.size w0 ((w0.alloc (.cells [.int .i64 0, .int .i64 0, .int .i64 0, .int .i64 0, .string ByteArray.empty, .slice none 0 0, .slice none 0 0].toArray 69 (0, 0))).alloc (.cells [.int .i64 0, .int .i64 0, .int .i64 0, .int .i64 0, .string ByteArray.empty, .slice none 0 0, .slice none 0 0].toArray 69 (0, 0))) := (below_alloc w0 _).alloc (by rw [World.size_alloc]; omega) _
  generalize (w0.alloc (.cells [.int .i64 0, .int .i64 0, .int .i64 0, .int .i64 0, .string ByteArray.empty, .slice none 0 0, .slice none 0 0].toArray 69 (0, 0))).alloc (.cells [.int .i64 0, .int .i64 0, .int .i64 0, .int .i64 0, .string ByteArray.empty, .slice none 0 0, .slice none 0 0].toArray 69 (0, 0)) = w1 at *
  have HSt0 := Lib.hid (show InoSt w0 rb A n c b (w0.heap.size + 1) [.int .i64 0, .int .i64 0, .int .i64 0, .int .i64 0, .string ByteArray.empty, .slice none 0 0, .slice none 0 0] s w1 from ⟨Only.of_below hbl _, h.below hbl, hb2, hb1, hrb, Nat.lt_succ_self _, h.inl⟩)
  obtain ⟨ib, hib⟩ : ∃ ib, w0.heap.size + 1 = ib := ⟨_, rfl⟩
  rw [hib] at HSt0 ⊢
  have hibl : w0.heap.size < ib := by omega
  clear hib hb1 hb2 hbl
  obtain ⟨a1, s1, hI1⟩ : ∃ a s1, rdInt b s = (a, s1) := ⟨_, _, rfl⟩
  obtain ⟨a2, s2, hI2⟩ : ∃ a s2, rdInt b s1 = (a, s2) := ⟨_, _, rfl⟩
  obtain ⟨a3, s3, hI3⟩ : ∃ a s3, rdInt b s2 = (a, s3) := ⟨_, _, rfl⟩
  obtain ⟨a4, s4, hI4⟩ : ∃ a s4, rdInt b s3 = (a, s4) := ⟨_, _, rfl⟩
  obtain ⟨t, s5, hI5⟩ : ∃ t s5, rdText b s4 = (t, s5) := ⟨_, _, rfl⟩
  obtain ⟨ne, s6, hI6⟩ : ∃ ne s6, rdGet b s5 4 = (ne, s6) := ⟨_, _, rfl⟩
  obtain ⟨es, s7, hI7⟩ : ∃ es s7, rdEnts b ne s6 [] = (es, s7) := ⟨_, _, rfl⟩
  obtain ⟨nr, s8, hI8⟩ : ∃ nr s8, rdGet b s7 4 = (nr, s8) := ⟨_, _, rfl⟩
  obtain ⟨rs, s9, hI9⟩ : ∃ rs s9, rdRuns b nr s8 [] = (rs, s9) := ⟨_, _, rfl⟩
  have HX : Hid (x = ⟨a1, a2, a3, a4, strOf t, es, rs⟩ ∧ s' = s9) := by
    unfold rdIno rdHead at hE
    simp only [hI1, hI2, hI3, hI4, hI5, hI6, hI7, hI8, hI9, Prod.mk.injEq] at hE
    exact ⟨hE.1.symm, hE.2.symm⟩
  have HE := Lib.hid (And.intro hI1 (And.intro hI2 (And.intro hI3 (And.intro hI4 (And.intro hI5 (And.intro hI6 (And.intro hI7 (And.intro hI8 hI9))))))))
  obtain ⟨s0, hs00⟩ : ∃ s0, s0 = s := ⟨_, rfl⟩
  subst hs00
  clear hI1 hI2 hI3 hI4 hI5 hI6 hI7 hI8 hI9 hE h
  go_loopw [16] (fun v16 wr => ∃ j : Nat, j ≤ 4 ∧ v16 = .int .i64 (j : Int) ∧ headAt w0 rb A n c b ib s0 s1 s2 s3 s4 a1 a2 a3 a4 j wr) (fun v16 _ => 4 - (intOf v16).toNat)
  case atStart => exact ⟨0, by decide, rfl, HSt0.out⟩
  case round =>
    clear HSt0
    obtain ⟨j, hj, rfl, hrel⟩ := hrel
    rcases (by omega : j = 0 ∨ j = 1 ∨ j = 2 ∨ j = 3 ∨ j = 4) with rfl | rfl | rfl | rfl | rfl
    · as_aux_lemma =>
        have hSt : InoSt w0 rb A n c b ib [.int .i64 0, .int .i64 0, .int .i64 0, .int .i64 0, .string ByteArray.empty, .slice none 0 0, .slice none 0 0] s0 wr := hrel
        have hE1 := HE.out.1
        have hix : ∀ W : World, (Instr.index 124 (.agg #[.pointer (some ⟨ib, 0, none⟩), .pointer (some ⟨ib, 1, none⟩), .pointer (some ⟨ib, 2, none⟩), .pointer (some ⟨ib, 3, none⟩)]) (.int .i64 0)).run Try.prog W = .ok (.pointer (some ⟨ib, 0, none⟩)) W := fun W => by kernel_rfl
        go_upto_region 5 with fail
        go_wp2_with (go_at_call 72; refine (rd_int hSt.r hE1).mono ?_; rintro e w2 ⟨rfl, hR2, ho2⟩; have hSt2 := hSt.step ho2 hR2; have c0 := hSt2.k.cell 0 _ rfl; have f0 := hSt2.k.frz 0)
        go_roundw
        case rel => exact ⟨1, by decide, by go_num, hSt2.set 0 (.int .i64 a1)⟩
        case measure => simp [intOf]
    · as_aux_lemma =>
        have hSt : InoSt w0 rb A n c b ib [.int .i64 a1, .int .i64 0, .int .i64 0, .int .i64 0, .string ByteArray.empty, .slice none 0 0, .slice none 0 0] s1 wr := hrel
        have hE2 := HE.out.2.1
        have hix : ∀ W : World, (Instr.index 124 (.agg #[.pointer (some ⟨ib, 0, none⟩), .pointer (some ⟨ib, 1, none⟩), .pointer (some ⟨ib, 2, none⟩), .pointer (some ⟨ib, 3, none⟩)]) (.int .i64 1)).run Try.prog W = .ok (.pointer (some ⟨ib, 1, none⟩)) W := fun W => by kernel_rfl
        go_upto_region 5 with fail
        go_wp2_with (go_at_call 72; refine (rd_int hSt.r hE2).mono ?_; rintro e w2 ⟨rfl, hR2, ho2⟩; have hSt2 := hSt.step ho2 hR2; have c1 := hSt2.k.cell 1 _ rfl; have f1 := hSt2.k.frz 1)
        go_roundw
        case rel => exact ⟨2, by decide, by go_num, hSt2.set 1 (.int .i64 a2)⟩
        case measure => simp [intOf]
    · as_aux_lemma =>
        have hSt : InoSt w0 rb A n c b ib [.int .i64 a1, .int .i64 a2, .int .i64 0, .int .i64 0, .string ByteArray.empty, .slice none 0 0, .slice none 0 0] s2 wr := hrel
        have hE3 := HE.out.2.2.1
        have hix : ∀ W : World, (Instr.index 124 (.agg #[.pointer (some ⟨ib, 0, none⟩), .pointer (some ⟨ib, 1, none⟩), .pointer (some ⟨ib, 2, none⟩), .pointer (some ⟨ib, 3, none⟩)]) (.int .i64 2)).run Try.prog W = .ok (.pointer (some ⟨ib, 2, none⟩)) W := fun W => by kernel_rfl
        go_upto_region 5 with fail
        go_wp2_with (go_at_call 72; refine (rd_int hSt.r hE3).mono ?_; rintro e w2 ⟨rfl, hR2, ho2⟩; have hSt2 := hSt.step ho2 hR2; have c2 := hSt2.k.cell 2 _ rfl; have f2 := hSt2.k.frz 2)
        go_roundw
        case rel => exact ⟨3, by decide, by go_num, hSt2.set 2 (.int .i64 a3)⟩
        case measure => simp [intOf]
    · as_aux_lemma =>
        have hSt : InoSt w0 rb A n c b ib [.int .i64 a1, .int .i64 a2, .int .i64 a3, .int .i64 0, .string ByteArray.empty, .slice none 0 0, .slice none 0 0] s3 wr := hrel
        have hE4 := HE.out.2.2.2.1
        have hix : ∀ W : World, (Instr.index 124 (.agg #[.pointer (some ⟨ib, 0, none⟩), .pointer (some ⟨ib, 1, none⟩), .pointer (some ⟨ib, 2, none⟩), .pointer (some ⟨ib, 3, none⟩)]) (.int .i64 3)).run Try.prog W = .ok (.pointer (some ⟨ib, 3, none⟩)) W := fun W => by kernel_rfl
        go_upto_region 5 with fail
        go_wp2_with (go_at_call 72; refine (rd_int hSt.r hE4).mono ?_; rintro e w2 ⟨rfl, hR2, ho2⟩; have hSt2 := hSt.step ho2 hR2; have c3 := hSt2.k.cell 3 _ rfl; have f3 := hSt2.k.frz 3)
        go_roundw
        case rel => exact ⟨4, by decide, by go_num, hSt2.set 3 (.int .i64 a4)⟩
        case measure => simp [intOf]
    · have hSt : InoSt w0 rb A n c b ib [.int .i64 a1, .int .i64 a2, .int .i64 a3, .int .i64 a4, .string ByteArray.empty, .slice none 0 0, .slice none 0 0] s4 wr := hrel
      have HE5 := Lib.hid HE.out.2.2.2.2
      clear hrel HE
      go_upto_region 7 with fail
      go_upto_region 8 with (go_at_call 85; refine (rd_text hSt.r HE5.out.1).mono ?_; rintro e w2 ⟨rfl, hR2, ho2⟩; have hSt2 := hSt.step ho2 hR2; have c4 := hSt2.k.cell 4 _ rfl; have f4 := hSt2.k.frz 4)
      have hSt3 : InoSt w0 rb A n c b ib [.int .i64 a1, .int .i64 a2, .int .i64 a3, .int .i64 a4, .string (strOf t), .slice none 0 0, .slice none 0 0] s5 (w2.setCell ⟨ib, 4, none⟩ (.string (strOf t))) := hSt2.set 4 (.string (strOf t))
      clear hSt hSt2 hR2 ho2 c4 f4
      generalize w2.setCell ⟨ib, 4, none⟩ (.string (strOf t)) = w3 at *
      have HG6 : Hid (Calls Try.prog 71 #[.pointer (some ⟨rb, 0, none⟩), .int .i64 4] w3 fun e w' => e = .returned (.int .u64 (ne : Int)) ∧ Rdr w' rb A n c b s6 ∧ Only [rb] w3 w') := rd_get hSt3.r 4 (by decide) HE5.out.2.1
      have hne : ne < 4294967296 := by
        have := (show RS.ok s5 b.length by rw [hSt3.r.len]; exact hSt3.r.ok).get 4 (by decide)
        rw [HE5.out.2.1] at this
        exact this.2.1
      go_upto_block 2 with (go_at_call 71; refine HG6.out.mono ?_; rintro e w4 ⟨rfl, hR4, ho4⟩)
      have hSt4 := hSt3.step ho4 hR4
      clear hSt3 hR4 ho4 HG6
      go_cut [6, 7] (fun v6 v7 w' => ∃ m EA Ec, Hid (es.length = m) ∧ InoSt w0 rb A n c b ib [.int .i64 a1, .int .i64 a2, .int .i64 a3, .int .i64 a4, .string (strOf t), .slice EA m Ec, .slice none 0 0] s7 w' ∧ kEnt.Own w' (ib + 1) (.slice EA m Ec) es ∧ m ≤ 100000000)
      case first =>
        go_upto_region 9 with fail
        go_loopw [6] (fun v6 wr => ∃ (k : Nat) (sc : RS) (acc : List Ent) (m : Nat) (EA : Option Addr) (Ec : Nat), k < 4294967296 ∧ v6 = .int .u64 (k : Int) ∧ Hid (rdEnts b k sc acc = (es, s7)) ∧ Hid (acc.length = m) ∧ InoSt w0 rb A n c b ib [.int .i64 a1, .int .i64 a2, .int .i64 a3, .int .i64 a4, .string (strOf t), .slice EA m Ec, .slice none 0 0] sc wr ∧ kEnt.Own wr (ib + 1) (.slice EA m Ec) acc ∧ (sc.e = 0 → 12 * (m : Int) ≤ sc.at') ∧ m ≤ 100000000) (fun v6 _ => (intOf v6).toNat)
        case atStart => exact ⟨ne, s6, [], 0, none, 0, hne, rfl, HE5.out.2.2.1, rfl, hSt4, Kind.Own.nil _ _, (fun _ => by have := hSt4.r.ok.1; omega), by decide⟩
        case round =>
          clear hSt4
          obtain ⟨k, sc, acc, m, EA, Ec, hk, rfl, HR, HM, hSt, hown, hm12, hmb⟩ := hrel
          have q2 := hSt.r.blk.cell 2 _ rfl
          by_cases hgo : 0 < k ∧ sc.e = 0
          · as_aux_lemma =>
              obtain ⟨hk0, he⟩ := hgo
              obtain ⟨k', rfl⟩ : ∃ k', k = k' + 1 := ⟨k - 1, by omega⟩
              rw [he] at q2
              have hkI : (0 : Int) < ((k' + 1 : Nat) : Int) := by omega
              have hm1 := hm12 he
              obtain ⟨nm, sA, hA⟩ : ∃ nm sA, rdText b sc = (nm, sA) := ⟨_, _, rfl⟩
              obtain ⟨v, sB, hB⟩ : ∃ v sB, rdInt b sA = (v, sB) := ⟨_, _, rfl⟩
              have hokc : RS.ok sc b.length := by rw [hSt.r.len]; exact hSt.r.ok
              have h12 : sB.e = 0 → sc.at' + 12 ≤ sB.at' := fun h => by
                have := rdEnt_at hokc (by rw [hA]; show (rdInt b sA).2.e = 0; rw [hB]; exact h)
                rw [hA] at this
                simp only [hB] at this
                exact this
              have hmm : m + 1 ≤ 100000000 := by
                have h1 := hSt.r.ok.2.2.1 he
                have h2 := hSt.r.lim
                omega
              have HR2 : Hid (rdEnts b k' sB (acc ++ [⟨strOf nm, v⟩]) = (es, s7)) := by
                have h1 := HR.out
                unfold rdEnts at h1
                rw [if_pos he, hA] at h1
                simp only [hB] at h1
                exact h1
              have HA := Lib.hid hA
              have HB := Lib.hid hB
              clear hA hB hokc hm12
              go_upto_region 12 with (go_at_call 85; refine (rd_text hSt.r HA.out).mono ?_; rintro e w5 ⟨rfl, hR5, ho5⟩)
              have hSt5 := hSt.step ho5 hR5
              have hnr : ∀ y, (Value.slice EA m Ec).ownBlock = some y → y ∉ [rb] := fun y hy => by
                have h1 := hown.lt hy
                have h2 := hSt.hrb
                simp
                omega
              have hown5 := hown.only ho5 hnr
              have c5 := hSt5.k.cell 5 _ rfl
              have hStd := hSt5.below (Below.refl w5.heap.size w5).drew
              have c5d := hStd.k.cell 5 _ rfl
              clear hSt hR5 ho5 hown q2
              have HLE := Lib.hid (show (acc.length + 1) * kEnt.bytes ≤ 140737488355328 by rw [HM.out]; show (m + 1) * 24 ≤ _; omega)
              have HL7 := Lib.hid (show (acc ++ [(⟨strOf nm, v⟩ : Ent)]).length = m + 1 by rw [List.length_append, HM.out]; rfl)
              have HLE2 := Lib.hid (show acc.length + 1 ≤ 9223372036854775807 by rw [HM.out]; omega)
              go_region_law (first
                  | (go_simp; go_at_call 72; refine (rd_int hStd.r HB.out).mono ?_; rintro e w6 ⟨rfl, hR6, ho6⟩; have hSt6 := hStd.step ho6 hR6; have c6 := hSt6.k.cell 5 _ rfl; have c6a := (hSt6.below (below_alloc w6 (.cells #[.string (strOf nm), .int .i64 v] 80))).k.cell 5 _ rfl; have hown6 := (hown5.below (Below.refl w5.heap.size w5).drew).only ho6 hnr)
                  | (refine step_by (by rfl) (wp_append_el kEnt _ _ rfl (y := ⟨strOf nm, v⟩) rfl rfl (hown6.alloc (.cells #[.string (strOf nm), .int .i64 v] 80)) (cells_alloc w6 [.string (strOf nm), .int .i64 v] 80 (0, 0)) HLE.out HLE2.out (by rw [World.size_alloc]; have := hSt6.k.lt; omega) ?_); intro v7 w7 hown7 hg7 hv7; have hSt7 := (hSt6.below (below_alloc w6 (.cells #[.string (strOf nm), .int .i64 v] 80))).grown hg7 (fun q hq => (hown6.lt hq).1); have c7 := hSt7.k.cell 5 _ rfl; have f7 := hSt7.k.frz 5; obtain ⟨EA7, Ec7, rfl, hc7, -, -⟩ := hown7.read; rw [HL7.out] at hc7 hown7 ⊢))
              all_goals
                have hSt8 : InoSt w0 rb A n c b ib [.int .i64 a1, .int .i64 a2, .int .i64 a3, .int .i64 a4, .string (strOf t), .slice EA7 (m + 1) Ec7, .slice none 0 0] sB (w7.setCell ⟨ib, 5, none⟩ (.slice EA7 (m + 1) Ec7)) := hSt7.set 5 (.slice EA7 (m + 1) Ec7)
                have hown8 := hown7.only ((Only.refl [ib] w7).setCell (p := ⟨ib, 5, none⟩) (Or.inl (by simp)) (.slice EA7 (m + 1) Ec7)) (fun q hq => by have := (hown7.lt hq).1; simp; omega)
                clear hSt5 hSt6 hSt7 hStd hown5 hown6 hown7 hg7 hv7 c5 c5d c6 c6a c7 f7 hR6 ho6 hnr
                go_wp2_with fail
                go_roundw
                case rel => exact ⟨k', sB, acc ++ [⟨strOf nm, v⟩], m + 1, EA7, Ec7, by omega, by go_num, HR2, HL7, hSt8, hown8, (fun h => by have := h12 h; push_cast; omega), hmm⟩
                case measure => simp [intOf] <;> omega
          · have hfin : acc = es ∧ sc = s7 := by
              have h1 := HR.out
              match k, hgo with
              | 0, _ => unfold rdEnts at h1; simpa using h1
              | k + 1, hgo =>
                unfold rdEnts at h1
                rw [if_neg (fun h => hgo ⟨Nat.succ_pos _, h⟩)] at h1
                simpa using h1
            obtain ⟨rfl, rfl⟩ := hfin
            clear HR
            by_cases hk0 : k = 0
            · subst hk0
              clear hgo
              go_wp2_with fail
              go_meet
              exact ⟨m, EA, Ec, HM, hSt, hown, hmb⟩
            · have hkI : (0 : Int) < (k : Int) := by omega
              have heI : (((sc.e : Nat) : Int) == 0) = false := by
                have : sc.e ≠ 0 := fun h => hgo ⟨by omega, h⟩
                simp; omega
              clear hgo
              go_wp2_with fail
              go_meet
              exact ⟨m, EA, Ec, HM, hSt, hown, hmb⟩
      case rest =>
      obtain ⟨me, EA, Ec, HME, hSt4, hownE, hme⟩ := hcut
      obtain ⟨w5, rfl⟩ : ∃ w5, w5 = wc := ⟨_, rfl⟩
      have HG8 : Hid (Calls Try.prog 71 #[.pointer (some ⟨rb, 0, none⟩), .int .i64 4] w5 fun e w' => e = .returned (.int .u64 (nr : Int)) ∧ Rdr w' rb A n c b s8 ∧ Only [rb] w5 w') := rd_get hSt4.r 4 (by decide) HE5.out.2.2.2.1
      have hnr4 : nr < 4294967296 := by
        have := (show RS.ok s7 b.length by rw [hSt4.r.len]; exact hSt4.r.ok).get 4 (by decide)
        rw [HE5.out.2.2.2.1] at this
        exact this.2.1
      have hnrb : ∀ y, (Value.slice EA me Ec).ownBlock = some y → y ∉ [rb] := fun y hy => by
        have h1 := hownE.lt hy
        have h2 := hSt4.hrb
        simp
        omega
      go_upto_block 4 with (go_at_call 71; refine HG8.out.mono ?_; rintro e w6 ⟨rfl, hR6, ho6⟩)
      have hSt6 := hSt4.step ho6 hR6
      have hownE6 := hownE.only ho6 hnrb
      obtain ⟨Ae, ce, eE, hcE, hatE, hAE⟩ := hownE6.read
      have HatE : Hid (kEnt.At w6 EA es ∧ (me ≤ Ec ∧ Ec ≤ maxLen) ∧ (∀ y, EA = some y → ib < y.block)) := by
        simp only [Value.slice.injEq] at eE
        obtain ⟨rfl, -, rfl⟩ := eE
        rw [HME.out] at hcE
        exact ⟨hatE, hcE, fun y e => (hAE y e).1⟩
      have hEl : ∀ y, EA = some y → 0 < es.length → y.block < w6.heap.size := fun y e h0 => by
        rcases HatE.out.1 with h | ⟨b', off, e2, hc⟩
        · rw [h] at h0; simp at h0
        · rw [e] at e2
          cases e2
          have hu : 0 < (kEnt.cells es).length := by rw [kEnt.cells_length]; show 0 < es.length * 2; omega
          exact World.block_lt_of_cell? w6 _ (hc 0 _ (List.getElem?_eq_getElem hu))
      have HEl := Lib.hid hEl
      have HB6 : Hid (w0.heap.size < w6.heap.size) := hSt6.z.lt
      clear hSt4 hR6 ho6 HG8 hownE hownE6 eE hcE hatE hAE hEl hnrb
      go_cut [8] (fun v8 w' => ∃ m RA Rc, Hid (rs.length = m) ∧ InoSt w0 rb A n c b ib [.int .i64 a1, .int .i64 a2, .int .i64 a3, .int .i64 a4, .string (strOf t), .slice EA me Ec, .slice RA m Rc] s9 w' ∧ kRun.Own w' w6.heap.size (.slice RA m Rc) rs ∧ kEnt.At w' EA es)
      case first =>
        go_upto_region 14 with fail
        go_loopw [8] (fun v8 wr => ∃ (k : Nat) (sc : RS) (acc : List RunT) (m : Nat) (RA : Option Addr) (Rc : Nat), k < 4294967296 ∧ v8 = .int .u64 (k : Int) ∧ Hid (rdRuns b k sc acc = (rs, s9)) ∧ Hid (acc.length = m) ∧ InoSt w0 rb A n c b ib [.int .i64 a1, .int .i64 a2, .int .i64 a3, .int .i64 a4, .string (strOf t), .slice EA me Ec, .slice RA m Rc] sc wr ∧ kRun.Own wr w6.heap.size (.slice RA m Rc) acc ∧ kEnt.At wr EA es ∧ (sc.e = 0 → 24 * (m : Int) ≤ sc.at') ∧ m ≤ 100000000 ∧ w6.heap.size ≤ wr.heap.size) (fun v8 _ => (intOf v8).toNat)
        case atStart => exact ⟨nr, s8, [], 0, none, 0, hnr4, rfl, HE5.out.2.2.2.2, rfl, hSt6, Kind.Own.nil _ _, HatE.out.1, (fun _ => by have := hSt6.r.ok.1; omega), by decide, Nat.le_refl _⟩
        case round =>
          have hib6 : ib < w6.heap.size := hSt6.k.lt
          clear hSt6
          obtain ⟨k, sc, acc, m, RA, Rc, hk, rfl, HR, HM, hSt, hown, hatE, hm24, hmb, hz6⟩ := hrel
          have q2 := hSt.r.blk.cell 2 _ rfl
          by_cases hgo : 0 < k ∧ sc.e = 0
          · as_aux_lemma =>
              obtain ⟨hk0, he⟩ := hgo
              obtain ⟨k', HK'⟩ : ∃ k', Hid (k = k' + 1) := ⟨k - 1, (by omega : k = (k - 1) + 1)⟩
              rw [he] at q2
              have hkI : (0 : Int) < (k : Int) := by omega
              have hm1 := hm24 he
              obtain ⟨f1, sA, hA⟩ : ∃ v sA, rdInt b sc = (v, sA) := ⟨_, _, rfl⟩
              obtain ⟨f2, sB, hB⟩ : ∃ v sB, rdInt b sA = (v, sB) := ⟨_, _, rfl⟩
              obtain ⟨f3, sC, hC⟩ : ∃ v sC, rdInt b sB = (v, sC) := ⟨_, _, rfl⟩
              have hokc : RS.ok sc b.length := by rw [hSt.r.len]; exact hSt.r.ok
              have hokA : RS.ok sA b.length := by have := hokc.int; rw [hA] at this; exact this
              have hokB : RS.ok sB b.length := by have := hokA.int; rw [hB] at this; exact this
              have h24 : sC.e = 0 → sc.at' + 24 ≤ sC.at' := fun h => by
                have h1 := rdInt_at hokB (by rw [hC]; exact h)
                rw [hC] at h1
                have h2 := rdInt_at hokA (by rw [hB]; exact h1.1)
                rw [hB] at h2
                have h3 := rdInt_at hokc (by rw [hA]; exact h2.1)
                rw [hA] at h3
                simp only at h1 h2 h3
                omega
              have hmm : m + 1 ≤ 100000000 := by
                have h1 := hSt.r.ok.2.2.1 he
                have h2 := hSt.r.lim
                omega
              have HR2 : Hid (rdRuns b k' sC (acc ++ [⟨f1, f2, f3⟩]) = (rs, s9)) := by
                have h1 := HR.out
                rw [HK'.out] at h1
                unfold rdRuns rdRun at h1
                rw [if_pos he] at h1
                simp only [hA, hB, hC] at h1
                exact h1
              have HABC := Lib.hid (And.intro hA (And.intro hB hC))
              have HST := Lib.hid hSt
              clear hA hB hC hokc hokA hokB hm24 HR
              obtain ⟨wo, rfl⟩ : ∃ wo, wo = wr := ⟨_, rfl⟩
              go_upto_region 17 with fail
              have hq0 := Blk.new wo [.int .i64 0, .int .i64 0, .int .i64 0] 125
              have hqb := below_alloc wo (.cells [.int .i64 0, .int .i64 0, .int .i64 0].toArray 125 (0, 0))
              generalize wo.alloc (.cells [.int .i64 0, .int .i64 0, .int .i64 0].toArray 125 (0, 0)) = w7 at *
              have hR7 := hSt.r.below hqb
              have ho7 : Only [rb] wo w7 := Only.of_below hqb _
              have HQ1 : Hid (wo.heap.size ≠ rb ∧ (∀ y, A = some y → 0 < n → y.block ≠ wo.heap.size)) := by
                have h1 := hSt.hrb
                have h2 := hSt.z.lt
                refine ⟨by omega, fun y e h0 => ?_⟩
                have := hSt.hA y e h0
                omega
              clear hSt q2 hqb
              go_upto_block 6 with fail
              go_cut [64, 10] (fun v64 v10 w' => Only [rb] wo w' ∧ Rdr w' rb A n c b sC ∧ Blk w' wo.heap.size 125 [.int .i64 f1, .int .i64 f2, .int .i64 f3])
              case first =>
                go_upto_region 18 with fail
                go_loopw [64] (fun v64 wr => ∃ j : Nat, j ≤ 3 ∧ v64 = .int .i64 (j : Int) ∧ Only [rb] wo wr ∧ runAt w0 rb A n c b wo.heap.size sc sA sB sC f1 f2 f3 j wr) (fun v64 _ => 3 - (intOf v64).toNat)
                case atStart => exact ⟨0, by decide, rfl, ho7, hR7, hq0⟩
                case round =>
                  clear ho7 hR7 hq0
                  obtain ⟨j, hj, rfl, ho, hrel⟩ := hrel
                  rcases (by omega : j = 0 ∨ j = 1 ∨ j = 2 ∨ j = 3) with rfl | rfl | rfl | rfl
                  · obtain ⟨hR, hq⟩ : Rdr wr rb A n c b sc ∧ Blk wr wo.heap.size 125 [.int .i64 0, .int .i64 0, .int .i64 0] := hrel
                    go_wp2_with (go_at_call 72; refine (rd_int hR HABC.out.1).mono ?_; rintro e w8 ⟨rfl, hR8, ho8⟩; have hq8 := hq.only ho8 (by have := HQ1.out.1; simpa using this); have c0 := hq8.cell 0 _ rfl; have f0' := hq8.frz 0)
                    have hoS : Only [wo.heap.size] w8 (w8.setCell ⟨wo.heap.size, 0, none⟩ (.int .i64 f1)) := (Only.refl _ w8).setCell (Or.inl (by simp)) _
                    have hR9 := hR8.only hoS (by have := HQ1.out.1; simp; omega) (fun y e h0 hm => HQ1.out.2 y e h0 (by simpa using hm))
                    go_roundw
                    case rel => exact ⟨1, by decide, by go_num, (ho.trans ho8).setCell (Or.inr (Nat.le_refl _)) _, hR9, hq8.set 0 _⟩
                    case measure => simp [intOf]
                  · obtain ⟨hR, hq⟩ : Rdr wr rb A n c b sA ∧ Blk wr wo.heap.size 125 [.int .i64 f1, .int .i64 0, .int .i64 0] := hrel
                    go_wp2_with (go_at_call 72; refine (rd_int hR HABC.out.2.1).mono ?_; rintro e w8 ⟨rfl, hR8, ho8⟩; have hq8 := hq.only ho8 (by have := HQ1.out.1; simpa using this); have c1 := hq8.cell 1 _ rfl; have f1' := hq8.frz 1)
                    have hoS : Only [wo.heap.size] w8 (w8.setCell ⟨wo.heap.size, 1, none⟩ (.int .i64 f2)) := (Only.refl _ w8).setCell (Or.inl (by simp)) _
                    have hR9 := hR8.only hoS (by have := HQ1.out.1; simp; omega) (fun y e h0 hm => HQ1.out.2 y e h0 (by simpa using hm))
                    go_roundw
                    case rel => exact ⟨2, by decide, by go_num, (ho.trans ho8).setCell (Or.inr (Nat.le_refl _)) _, hR9, hq8.set 1 _⟩
                    case measure => simp [intOf]
                  · obtain ⟨hR, hq⟩ : Rdr wr rb A n c b sB ∧ Blk wr wo.heap.size 125 [.int .i64 f1, .int .i64 f2, .int .i64 0] := hrel
                    go_wp2_with (go_at_call 72; refine (rd_int hR HABC.out.2.2).mono ?_; rintro e w8 ⟨rfl, hR8, ho8⟩; have hq8 := hq.only ho8 (by have := HQ1.out.1; simpa using this); have c2 := hq8.cell 2 _ rfl; have f2' := hq8.frz 2)
                    have hoS : Only [wo.heap.size] w8 (w8.setCell ⟨wo.heap.size, 2, none⟩ (.int .i64 f3)) := (Only.refl _ w8).setCell (Or.inl (by simp)) _
                    have hR9 := hR8.only hoS (by have := HQ1.out.1; simp; omega) (fun y e h0 hm => HQ1.out.2 y e h0 (by simpa using hm))
                    go_roundw
                    case rel => exact ⟨3, by decide, by go_num, (ho.trans ho8).setCell (Or.inr (Nat.le_refl _)) _, hR9, hq8.set 2 _⟩
                    case measure => simp [intOf]
                  · obtain ⟨hR, hq⟩ : Rdr wr rb A n c b sC ∧ Blk wr wo.heap.size 125 [.int .i64 f1, .int .i64 f2, .int .i64 f3] := hrel
                    go_wp2_with fail
                    go_meet
                    exact ⟨ho, hR, hq⟩
              case rest =>
                obtain ⟨ho9, hR9, hq9⟩ := hcut
                obtain ⟨w9, rfl⟩ : ∃ w9, w9 = wc := ⟨_, rfl⟩
                have hSt9 := HST.out.step ho9 hR9
                have hnrr : ∀ y, (Value.slice RA m Rc).ownBlock = some y → y ∉ [rb] := fun y hy => by
                  have h1 := (hown.lt hy).1
                  have h2 := HST.out.hrb
                  have h3 := HST.out.hib
                  simp
                  omega
                have hown9 := hown.only ho9 hnrr
                have hatE9 := hatE.only ho9 (fun y e h0 hm => by have h1 := HatE.out.2.2 y e; have h2 := HST.out.hrb; have h3 := HST.out.hib; simp at hm; omega)
                have c6 := hSt9.k.cell 6 _ rfl
                have f6 := hSt9.k.frz 6
                have e0 := hq9.cell 0 _ rfl
                have e1 := hq9.cell 1 _ rfl
                have e2 := hq9.cell 2 _ rfl
                have HLR := Lib.hid (show (acc.length + 1) * kRun.bytes ≤ 140737488355328 by rw [HM.out]; show (m + 1) * 24 ≤ _; omega)
                have HLR2 := Lib.hid (show acc.length + 1 ≤ 9223372036854775807 by rw [HM.out]; omega)
                have HL7 := Lib.hid (show (acc ++ [(⟨f1, f2, f3⟩ : RunT)]).length = m + 1 by rw [List.length_append, HM.out]; rfl)
                have hz9 := ho9.size
                have hoA := hown9.alloc (.cells #[.int .i64 f1, .int .i64 f2, .int .i64 f3] 109)
                have hcA := cells_alloc w9 [.int .i64 f1, .int .i64 f2, .int .i64 f3] 109 (0, 0)
                have hzA : w6.heap.size ≤ (w9.alloc (.cells #[.int .i64 f1, .int .i64 f2, .int .i64 f3] 109)).heap.size := by rw [World.size_alloc]; omega
                have hStA := hSt9.below (below_alloc w9 (.cells #[.int .i64 f1, .int .i64 f2, .int .i64 f3] 109))
                have hatA := hatE9.below (below_alloc w9 (.cells #[.int .i64 f1, .int .i64 f2, .int .i64 f3] 109))
                clear hq9 hSt9 hown9 hatE9 hR9
                go_wp2_with (at_builtin; refine wpList_wanted (by rfl) fun K hK => wp_append_el kRun _ _ rfl (y := ⟨f1, f2, f3⟩) rfl rfl hoA hcA HLR.out HLR2.out hzA ?_; intro v7 w10 hown7 hg7 hv7; have hSt10 := hStA.grown hg7 (fun q hq => by have := (hoA.lt hq).1; omega); have c6b := hSt10.k.cell 6 _ rfl; have f6b := hSt10.k.frz 6; obtain ⟨RA7, Rc7, rfl, hc7, -, -⟩ := hown7.read; rw [HL7.out] at hc7 hown7 ⊢; refine hK _ _ ?_; clear hK K)
                have hSt11 : InoSt w0 rb A n c b ib [.int .i64 a1, .int .i64 a2, .int .i64 a3, .int .i64 a4, .string (strOf t), .slice EA me Ec, .slice RA7 (m + 1) Rc7] sC (w10.setCell ⟨ib, 6, none⟩ (.slice RA7 (m + 1) Rc7)) := hSt10.set 6 (.slice RA7 (m + 1) Rc7)
                have hoB : Only [ib] w10 (w10.setCell ⟨ib, 6, none⟩ (.slice RA7 (m + 1) Rc7)) := (Only.refl [ib] w10).setCell (Or.inl (by simp)) _
                have hown11 := hown7.only hoB (fun q hq => by have := (hown7.lt hq).1; simp; omega)
                have hatE10 : kEnt.At w10 EA es := by
                  have hg8 : (w9.alloc (.cells #[.int .i64 f1, .int .i64 f2, .int .i64 f3] 109)).grownBy w10 (Value.slice RA m Rc).ownBlock := hg7
                  obtain ⟨S, hS1, hS2⟩ := only_of_grown hg8 (B := w6.heap.size) (fun k e => (hoA.lt e).1)
                  exact hatA.only hS1 (fun y e h0 hm => by have h1 := hS2 _ hm; have h2 := HEl.out y e h0; omega)
                have hatE11 := hatE10.only hoB (fun y e h0 hm => by have h1 := HatE.out.2.2 y e; simp at hm; omega)
                have hz11 : w6.heap.size ≤ (w10.setCell ⟨ib, 6, none⟩ (.slice RA7 (m + 1) Rc7)).heap.size := by
                  have h1 := hoB.size
                  have h2 := hg7.size
                  omega
                go_roundw
                case rel => exact ⟨k', sC, acc ++ [⟨f1, f2, f3⟩], m + 1, RA7, Rc7, by have := HK'.out; omega, (by have := HK'.out; subst this; go_num), HR2, HL7, hSt11, hown11, hatE11, (fun h => by have := h24 h; push_cast; omega), hmm, hz11⟩
                case measure => simp [intOf]; have := HK'.out; omega
          · have hfin : acc = rs ∧ sc = s9 := by
              have h1 := HR.out
              match k, hgo with
              | 0, _ => unfold rdRuns at h1; simpa using h1
              | k + 1, hgo =>
                unfold rdRuns at h1
                rw [if_neg (fun h => hgo ⟨Nat.succ_pos _, h⟩)] at h1
                simpa using h1
            obtain ⟨rfl, rfl⟩ := hfin
            clear HR
            by_cases hk0 : k = 0
            · subst hk0
              clear hgo
              go_wp2_with fail
              go_meet
              exact ⟨m, RA, Rc, HM, hSt, hown, hatE⟩
            · have hkI : (0 : Int) < (k : Int) := by omega
              have heI : (((sc.e : Nat) : Int) == 0) = false := by
                have : sc.e ≠ 0 := fun h => hgo ⟨by omega, h⟩
                simp; omega
              clear hgo
              go_wp2_with fail
              go_meet
              exact ⟨m, RA, Rc, HM, hSt, hown, hatE⟩
      case rest =>
        obtain ⟨mr, RA, Rc, HMR, hSt, hownR, hatE⟩ := hcut
        obtain ⟨w12, rfl⟩ : ∃ w12, w12 = wc := ⟨_, rfl⟩
        have k0 := hSt.k.cell 0 _ rfl
        have z0 := hSt.z.cell 0 _ rfl
        have f0 := hSt.z.frz 0
        have k1 := hSt.k.cell 1 _ rfl
        have z1 := hSt.z.cell 1 _ rfl
        have f1 := hSt.z.frz 1
        have k2 := hSt.k.cell 2 _ rfl
        have z2 := hSt.z.cell 2 _ rfl
        have f2 := hSt.z.frz 2
        have k3 := hSt.k.cell 3 _ rfl
        have z3 := hSt.z.cell 3 _ rfl
        have f3 := hSt.z.frz 3
        have k4 := hSt.k.cell 4 _ rfl
        have z4 := hSt.z.cell 4 _ rfl
        have f4 := hSt.z.frz 4
        have k5 := hSt.k.cell 5 _ rfl
        have z5 := hSt.z.cell 5 _ rfl
        have f5 := hSt.z.frz 5
        have k6 := hSt.k.cell 6 _ rfl
        have z6 := hSt.z.cell 6 _ rfl
        have f6 := hSt.z.frz 6
        have HF := Lib.hid (And.intro (((((((hSt.z.set 0 (.int .i64 a1)).set 1 (.int .i64 a2)).set 2 (.int .i64 a3)).set 3 (.int .i64 a4)).set 4 (.string (strOf t))).set 5 (.slice EA me Ec)).set 6 (.slice RA mr Rc)) (And.intro ((((((((Only.refl [w0.heap.size] w12).setCell (p := ⟨w0.heap.size, 0, none⟩) (Or.inl (by simp)) (.int .i64 a1)).setCell (p := ⟨w0.heap.size, 1, none⟩) (Or.inl (by simp)) (.int .i64 a2)).setCell (p := ⟨w0.heap.size, 2, none⟩) (Or.inl (by simp)) (.int .i64 a3)).setCell (p := ⟨w0.heap.size, 3, none⟩) (Or.inl (by simp)) (.int .i64 a4)).setCell (p := ⟨w0.heap.size, 4, none⟩) (Or.inl (by simp)) (.string (strOf t))).setCell (p := ⟨w0.heap.size, 5, none⟩) (Or.inl (by simp)) (.slice EA me Ec)).setCell (p := ⟨w0.heap.size, 6, none⟩) (Or.inl (by simp)) (.slice RA mr Rc)) hSt))
        clear hSt
        go_wp2_with fail
        have hz := HF.out.1
        have d0 := hz.cell 0 _ rfl
        have d1 := hz.cell 1 _ rfl
        have d2 := hz.cell 2 _ rfl
        have d3 := hz.cell 3 _ rfl
        have d4 := hz.cell 4 _ rfl
        have d5 := hz.cell 5 _ rfl
        have d6 := hz.cell 6 _ rfl
        have hSt := HF.out.2.2
        have hoF := HF.out.2.1
        obtain ⟨RA', Rc', eR, hcR, hatR, hAR⟩ := hownR.read
        simp only [Value.slice.injEq] at eR
        obtain ⟨rfl, -, rfl⟩ := eR
        obtain ⟨rfl, rfl⟩ := HX.out
        refine bodyPost_ret (v := .agg #[.int .i64 a1, .int .i64 a2, .int .i64 a3, .int .i64 a4, .string (strOf t), .slice EA me Ec, .slice RA mr Rc]) (by simp [results, Try.results73, go_sem, d0, d1, d2, d3, d4, d5, d6]) rfl ⟨⟨EA, Ec, RA, Rc⟩, ?_, ?_, ?_, ?_, ?_, ?_⟩
        · simp only [inoCells]
          rw [HME.out, HMR.out]
        · exact hSt.r.only hoF (by have := hSt.hrb; simp; omega) (fun y e h0 hm => by have := hSt.hA y e h0; simp at hm; omega)
        · refine ⟨hatE.only hoF (fun y e h0 hm => by have h1 := HatE.out.2.2 y e; have := hSt.hib; simp at hm; omega), hatR.only hoF (fun y e h0 hm => by have h1 := (hAR y e).1; have h2 := hSt.hib; have := hSt.z.lt; simp at hm; have h3 := HB6.out; omega), by rw [HME.out]; exact HatE.out.2.1, hcR⟩
        · intro y e
          have h1 := HatE.out.2.2 y e
          have := hSt.hib
          omega
        · intro y e
          have h1 := (hAR y e).1
          have h3 := HB6.out
          omega
        · exact hSt.o.trans' hoF (fun q hq => Or.inr (by simp at hq; omega))
end
end Go.Proofs.Ytdieeleaaejfhaa
