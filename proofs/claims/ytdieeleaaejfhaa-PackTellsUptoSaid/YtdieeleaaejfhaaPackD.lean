/- The program's reader of deeds, and all deeds that bytes are. -/
import Derived.Test.YtdieeleaaejfhaaPackI
import Derived.Test.YtdieeleaaejfhaaMake
set_option linter.unusedVariables false
set_option maxRecDepth 100000
set_option linter.unusedSimpArgs false
namespace Go.Proofs.Ytdieeleaaejfhaa
open Go.RowKit

section
variable {w : World} {rb n c : Nat} {A : Option Addr} {b : List UInt8} {s : RS}

set_option maxHeartbeats 16000000 in
theorem rd_deed (h : Rdr w rb A n c b s) {d : Dd} {s' : RS} (hE : rdDd b s = (d, s')) :
    Calls Try.prog 60 #[.pointer (some ⟨rb, 0, none⟩)] w fun e w' => ∃ v : IV, e = .returned (.agg (ddCells d v).toArray) ∧ Rdr w' rb A n c b s' ∧ IvIs w' v d.ino ∧ (∀ y, v.EA = some y → w.heap.size ≤ y.block) ∧ (∀ y, v.RA = some y → w.heap.size ≤ y.block) ∧ Only [rb] w w' := by
  obtain ⟨w0, rfl⟩ : ∃ w0 : World, w0 = w := ⟨_, rfl⟩
  have hs0 := Nat.le_refl w0.heap.size
  have hrb := h.lt
  have hA0 := h.inl
  have hzD : ∀ W : World, (zeroValue 71).run Try.prog W = .ok (.agg #[.int .i64 0, .int .i64 0, .int .i64 0, .int .i64 0, .int .i64 0, .int .i64 0, .string ByteArray.empty, .slice none 0 0, .slice none 0 0]) W := fun W => by kernel_rfl
  have hzI : ∀ W : World, (zeroValue 69).run Try.prog W = .ok (.agg #[.int .i64 0, .int .i64 0, .int .i64 0, .int .i64 0, .string ByteArray.empty, .slice none 0 0, .slice none 0 0]) W := fun W => by kernel_rfl
  obtain ⟨k, s1, hK⟩ : ∃ k s1, rdGet b s 1 = (k, s1) := ⟨_, _, rfl⟩
  have hk : k < 256 := by
    have := (show RS.ok s b.length by rw [h.len]; exact h.ok).get 1 (by decide)
    rw [hK] at this
    exact this.2.1
  unfold rdDd at hE
  simp only [hK] at hE
  go_enter Try.func60, Try.ntmps60
  go_upto_region 1 with fail
  have hz1 := Blk.new w0 [.int .i64 0, .int .i64 0, .int .i64 0, .int .i64 0, .int .i64 0, .int .i64 0, .string ByteArray.empty, .slice none 0 0, .slice none 0 0] 71
  have hb1 := below_alloc w0 (.cells [.int .i64 0, .int .i64 0, .int .i64 0, .int .i64 0, .int .i64 0, .int .i64 0, .string ByteArray.empty, .slice none 0 0, .slice none 0 0].toArray 71 (0, 0))
  generalize hw1 : w0.alloc (.cells [.int .i64 0, .int .i64 0, .int .i64 0, .int .i64 0, .int .i64 0, .int .i64 0, .string ByteArray.empty, .slice none 0 0, .slice none 0 0].toArray 71 (0, 0)) = w1 at *
  have hzs : w0.heap.size < w1.heap.size := hz1.lt
  have hR1 := h.below hb1
  have HG : Hid (Calls Try.prog 71 #[.pointer (some ⟨rb, 0, none⟩), .int .i64 1] w1 fun e w' => e = .returned (.int .u64 (k : Int)) ∧ Rdr w' rb A n c b s1 ∧ Only [rb] w1 w') := rd_get hR1 1 (by decide) hK
  clear hw1
  go_upto_region 2 with (go_at_call 71; refine HG.out.mono ?_; rintro e w2 ⟨rfl, hR2, ho2⟩)
  have hzn : w0.heap.size ∉ [rb] := by simp; omega
  have hq3 := Blk.new w2 [.int .i64 (k : Int), .int .i64 0, .int .i64 0, .int .i64 0, .int .i64 0, .int .i64 0, .string ByteArray.empty, .slice none 0 0, .slice none 0 0] 71
  have hb3 := below_alloc w2 (.cells [.int .i64 (k : Int), .int .i64 0, .int .i64 0, .int .i64 0, .int .i64 0, .int .i64 0, .string ByteArray.empty, .slice none 0 0, .slice none 0 0].toArray 71 (0, 0))
  have hz3 := (hz1.only ho2 hzn).below hb3
  have hR3 := hR2.below hb3
  have ho30 : Only [rb] w0 (w2.alloc (.cells [.int .i64 (k : Int), .int .i64 0, .int .i64 0, .int .i64 0, .int .i64 0, .int .i64 0, .string ByteArray.empty, .slice none 0 0, .slice none 0 0].toArray 71 (0, 0))) := ((Only.of_below hb1 _).trans ho2).trans (Only.of_below hb3 _)
  generalize hw3 : w2.alloc (.cells [.int .i64 (k : Int), .int .i64 0, .int .i64 0, .int .i64 0, .int .i64 0, .int .i64 0, .string ByteArray.empty, .slice none 0 0, .slice none 0 0].toArray 71 (0, 0)) = w3 at *
  have hdb : w0.heap.size < w2.heap.size := Nat.lt_of_lt_of_le hzs ho2.size
  obtain ⟨db, hdbe⟩ : ∃ db, db = w2.heap.size := ⟨_, rfl⟩
  rw [← hdbe] at hq3 hdb ⊢
  have hdb3 : db < w3.heap.size := hq3.lt
  have hdn : db ∉ [rb] := by simp; omega
  have c0 := hq3.cell 0 _ rfl
  have HE := Lib.hid hE
  clear hw3 hdbe hz1 hb1 hb3 hR1 hR2 ho2 HG h hE hs0
  go_upto_block 0 with fail
  go_cut [3] (fun v3 w' => v3 = .pointer (some ⟨db, 0, none⟩) ∧ ∃ v : IV, Only [rb] w0 w' ∧ Rdr w' rb A n c b s' ∧ Blk w' db 71 (ddCells d v) ∧ Blk w' w0.heap.size 71 [.int .i64 0, .int .i64 0, .int .i64 0, .int .i64 0, .int .i64 0, .int .i64 0, .string ByteArray.empty, .slice none 0 0, .slice none 0 0] ∧ IvIs w' v d.ino ∧ (∀ y, v.EA = some y → w3.heap.size ≤ y.block) ∧ (∀ y, v.RA = some y → w3.heap.size ≤ y.block))
  case first =>
    by_cases k1 : k = 1
    · subst k1
      as_aux_lemma =>
        obtain ⟨a, s2, hI⟩ : ∃ a s2, rdInt b s1 = (a, s2) := ⟨_, _, rfl⟩
        have HD : Hid (d = ⟨1, a, ino0⟩ ∧ s' = s2) := by
          have h1 := HE.out
          rw [if_pos (by decide : numKind ((1 : Nat) : Int)), hI] at h1
          simp only [Prod.mk.injEq] at h1
          exact ⟨h1.1.symm, h1.2.symm⟩
        have HI := Lib.hid hI
        clear hI
        go_wp2_with (go_at_call 72; refine (rd_int hR3 HI.out).mono ?_; rintro e w4 ⟨rfl, hR4, ho4⟩; have hq4 := hq3.only ho4 hdn; have c1 := hq4.cell 1 _ rfl; have f1 := hq4.frz 1)
        go_meet
        have ho : Only [db] w4 (w4.setCell ⟨db, 1, none⟩ (.int .i64 a)) := (Only.refl [db] w4).setCell (Or.inl (by simp)) _
        obtain ⟨rfl, rfl⟩ := HD.out
        exact ⟨rfl, ⟨none, 0, none, 0⟩, (ho30.trans ho4).trans' ho (fun x hx => Or.inr (by simp at hx; omega)), hR4.only ho (by simp; omega) (fun y e h0 hm => by have := hA0 y e h0; simp at hm; omega), hq4.set 1 _, (hz3.only ho4 hzn).only ho (by simp; omega),
          ⟨Kind.At.nil _ _ _, Kind.At.nil _ _ _, ⟨Nat.le_refl _, Nat.zero_le _⟩, ⟨Nat.le_refl _, Nat.zero_le _⟩⟩, (fun y e => by cases e), (fun y e => by cases e)⟩
    by_cases k3 : k = 3
    · subst k3
      as_aux_lemma =>
        obtain ⟨a, s2, hI⟩ : ∃ a s2, rdInt b s1 = (a, s2) := ⟨_, _, rfl⟩
        have HD : Hid (d = ⟨3, a, ino0⟩ ∧ s' = s2) := by
          have h1 := HE.out
          rw [if_pos (by decide : numKind ((3 : Nat) : Int)), hI] at h1
          simp only [Prod.mk.injEq] at h1
          exact ⟨h1.1.symm, h1.2.symm⟩
        have HI := Lib.hid hI
        clear hI
        go_wp2_with (go_at_call 72; refine (rd_int hR3 HI.out).mono ?_; rintro e w4 ⟨rfl, hR4, ho4⟩; have hq4 := hq3.only ho4 hdn; have c1 := hq4.cell 1 _ rfl; have f1 := hq4.frz 1)
        go_meet
        have ho : Only [db] w4 (w4.setCell ⟨db, 1, none⟩ (.int .i64 a)) := (Only.refl [db] w4).setCell (Or.inl (by simp)) _
        obtain ⟨rfl, rfl⟩ := HD.out
        exact ⟨rfl, ⟨none, 0, none, 0⟩, (ho30.trans ho4).trans' ho (fun x hx => Or.inr (by simp at hx; omega)), hR4.only ho (by simp; omega) (fun y e h0 hm => by have := hA0 y e h0; simp at hm; omega), hq4.set 1 _, (hz3.only ho4 hzn).only ho (by simp; omega),
          ⟨Kind.At.nil _ _ _, Kind.At.nil _ _ _, ⟨Nat.le_refl _, Nat.zero_le _⟩, ⟨Nat.le_refl _, Nat.zero_le _⟩⟩, (fun y e => by cases e), (fun y e => by cases e)⟩
    by_cases k4 : k = 4
    · subst k4
      as_aux_lemma =>
        obtain ⟨a, s2, hI⟩ : ∃ a s2, rdInt b s1 = (a, s2) := ⟨_, _, rfl⟩
        have HD : Hid (d = ⟨4, a, ino0⟩ ∧ s' = s2) := by
          have h1 := HE.out
          rw [if_pos (by decide : numKind ((4 : Nat) : Int)), hI] at h1
          simp only [Prod.mk.injEq] at h1
          exact ⟨h1.1.symm, h1.2.symm⟩
        have HI := Lib.hid hI
        clear hI
        go_wp2_with (go_at_call 72; refine (rd_int hR3 HI.out).mono ?_; rintro e w4 ⟨rfl, hR4, ho4⟩; have hq4 := hq3.only ho4 hdn; have c1 := hq4.cell 1 _ rfl; have f1 := hq4.frz 1)
        go_meet
        have ho : Only [db] w4 (w4.setCell ⟨db, 1, none⟩ (.int .i64 a)) := (Only.refl [db] w4).setCell (Or.inl (by simp)) _
        obtain ⟨rfl, rfl⟩ := HD.out
        exact ⟨rfl, ⟨none, 0, none, 0⟩, (ho30.trans ho4).trans' ho (fun x hx => Or.inr (by simp at hx; omega)), hR4.only ho (by simp; omega) (fun y e h0 hm => by have := hA0 y e h0; simp at hm; omega), hq4.set 1 _, (hz3.only ho4 hzn).only ho (by simp; omega),
          ⟨Kind.At.nil _ _ _, Kind.At.nil _ _ _, ⟨Nat.le_refl _, Nat.zero_le _⟩, ⟨Nat.le_refl _, Nat.zero_le _⟩⟩, (fun y e => by cases e), (fun y e => by cases e)⟩
    have hnk : ¬ numKind (k : Int) := by unfold numKind; omega
    by_cases k2 : k = 2
    · subst k2
      as_aux_lemma =>
        obtain ⟨x, s2, hI⟩ : ∃ x s2, rdIno b s1 = (x, s2) := ⟨_, _, rfl⟩
        have HD : Hid (d = ⟨2, 0, x⟩ ∧ s' = s2) := by
          have h1 := HE.out
          rw [if_neg (by decide : ¬ numKind ((2 : Nat) : Int)), if_pos (by decide), hI] at h1
          simp only [Prod.mk.injEq] at h1
          exact ⟨h1.1.symm, h1.2.symm⟩
        have HI := Lib.hid hI
        clear hI
        go_wp2_with (go_at_call 73; refine (rd_inode hR3 HI.out).mono ?_; rintro e w4 ⟨v, rfl, hR4, hIv4, hEA4, hRA4, ho4⟩; rw [show inoCells x v = [.int .i64 x.no, .int .i64 x.kind, .int .i64 x.links, .int .i64 x.size, .string x.target, .slice v.EA x.ents.length v.Ec, .slice v.RA x.runs.length v.Rc] from rfl]; have hq4 := hq3.only ho4 hdn; have c2 := hq4.cell 2 _ rfl; have f2 := hq4.frz 2; have c3 := hq4.cell 3 _ rfl; have f3 := hq4.frz 3; have c4 := hq4.cell 4 _ rfl; have f4 := hq4.frz 4; have c5 := hq4.cell 5 _ rfl; have f5 := hq4.frz 5; have c6 := hq4.cell 6 _ rfl; have f6 := hq4.frz 6; have c7 := hq4.cell 7 _ rfl; have f7 := hq4.frz 7; have c8 := hq4.cell 8 _ rfl; have f8 := hq4.frz 8)
        go_meet
        have ho := ((((((((Only.refl [db] w4).setCell (p := ⟨db, 2, none⟩) (Or.inl (by simp)) (.int .i64 x.no)).setCell (p := ⟨db, 3, none⟩) (Or.inl (by simp)) (.int .i64 x.kind)).setCell (p := ⟨db, 4, none⟩) (Or.inl (by simp)) (.int .i64 x.links)).setCell (p := ⟨db, 5, none⟩) (Or.inl (by simp)) (.int .i64 x.size)).setCell (p := ⟨db, 6, none⟩) (Or.inl (by simp)) (.string x.target)).setCell (p := ⟨db, 7, none⟩) (Or.inl (by simp)) (.slice v.EA x.ents.length v.Ec)).setCell (p := ⟨db, 8, none⟩) (Or.inl (by simp)) (.slice v.RA x.runs.length v.Rc))
        have hz4 := hz3.only ho4 hzn
        obtain ⟨rfl, rfl⟩ := HD.out
        exact ⟨rfl, v, (ho30.trans ho4).trans' ho (fun x hx => Or.inr (by simp at hx; omega)), hR4.only ho (by simp; omega) (fun y e h0 hm => by have := hA0 y e h0; simp at hm; omega), (((((((hq4.set 2 (.int .i64 x.no)).set 3 (.int .i64 x.kind)).set 4 (.int .i64 x.links)).set 5 (.int .i64 x.size)).set 6 (.string x.target)).set 7 (.slice v.EA x.ents.length v.Ec)).set 8 (.slice v.RA x.runs.length v.Rc)), hz4.only ho (by simp; omega),
          hIv4.only ho (fun y e h0 hm => by have := hEA4 y e; simp at hm; omega) (fun y e h0 hm => by have := hRA4 y e; simp at hm; omega), hEA4, hRA4⟩
    · have k1' : ((k : Int) == 1) = false := by simp; omega
      have k3' : ((k : Int) == 3) = false := by simp; omega
      have k4' : ((k : Int) == 4) = false := by simp; omega
      have k2' : ((k : Int) == 2) = false := by simp; omega
      have HD : Hid (d = ⟨k, 0, ino0⟩ ∧ s' = ⟨s1.at', 5⟩) := by
        have h1 := HE.out
        rw [if_neg hnk, if_neg (by omega)] at h1
        simp only [Prod.mk.injEq] at h1
        exact ⟨h1.1.symm, h1.2.symm⟩
      clear k1 k2 k3 k4 hnk
      have e2 := hR3.blk.cell 2 _ rfl
      have f2 := hR3.blk.frz 2
      have hT : Rdr (w3.setCell ⟨rb, 2, none⟩ (.int .i64 5)) rb A n c b ⟨s1.at', 5⟩ := by
        have ho : Only [rb] w3 (w3.setCell ⟨rb, 2, none⟩ (.int .i64 5)) := (Only.refl [rb] w3).setCell (Or.inl (by simp)) _
        have hok := hR3.ok
        exact ⟨hR3.blk.set 2 _, hR3.by'.only ho (fun y e h0 hm => hR3.far y e (by rw [hR3.len] at h0; exact h0) (by simpa using hm)), hR3.len, hR3.cap, hR3.lim, hR3.far, ⟨hok.1, hok.2.1, (fun h => by cases h), by show 5 ≤ 5; exact Nat.le_refl _⟩⟩
      have hoT : Only [rb] w3 (w3.setCell ⟨rb, 2, none⟩ (.int .i64 5)) := (Only.refl [rb] w3).setCell (Or.inl (by simp)) _
      have HT := Lib.hid (And.intro hT hoT)
      clear hT hoT hR3
      go_wp2_with fail
      go_meet
      obtain ⟨rfl, rfl⟩ := HD.out
      exact ⟨rfl, ⟨none, 0, none, 0⟩, ho30.trans HT.out.2, HT.out.1, hq3.only HT.out.2 hdn, hz3.only HT.out.2 hzn, ⟨Kind.At.nil _ _ _, Kind.At.nil _ _ _, ⟨Nat.le_refl _, Nat.zero_le _⟩, ⟨Nat.le_refl _, Nat.zero_le _⟩⟩, (fun y e => by cases e), (fun y e => by cases e)⟩
  case rest =>
    obtain ⟨rfl, v, ho, hR, hq, hz, hIv, hEA, hRA⟩ := hcut
    obtain ⟨w5, rfl⟩ : ∃ w5, w5 = wc := ⟨_, rfl⟩
    unfold ddCells at hq
    have k0 := hq.cell 0 _ rfl
    have z0 := hz.cell 0 _ rfl
    have f0 := hz.frz 0
    have k1 := hq.cell 1 _ rfl
    have z1 := hz.cell 1 _ rfl
    have f1 := hz.frz 1
    have k2 := hq.cell 2 _ rfl
    have z2 := hz.cell 2 _ rfl
    have f2 := hz.frz 2
    have k3 := hq.cell 3 _ rfl
    have z3 := hz.cell 3 _ rfl
    have f3 := hz.frz 3
    have k4 := hq.cell 4 _ rfl
    have z4 := hz.cell 4 _ rfl
    have f4 := hz.frz 4
    have k5 := hq.cell 5 _ rfl
    have z5 := hz.cell 5 _ rfl
    have f5 := hz.frz 5
    have k6 := hq.cell 6 _ rfl
    have z6 := hz.cell 6 _ rfl
    have f6 := hz.frz 6
    have k7 := hq.cell 7 _ rfl
    have z7 := hz.cell 7 _ rfl
    have f7 := hz.frz 7
    have k8 := hq.cell 8 _ rfl
    have z8 := hz.cell 8 _ rfl
    have f8 := hz.frz 8
    have HF := Lib.hid (And.intro (((((((((hz.set 0 (.int .i64 d.kind)).set 1 (.int .i64 d.no)).set 2 (.int .i64 d.ino.no)).set 3 (.int .i64 d.ino.kind)).set 4 (.int .i64 d.ino.links)).set 5 (.int .i64 d.ino.size)).set 6 (.string d.ino.target)).set 7 (.slice v.EA d.ino.ents.length v.Ec)).set 8 (.slice v.RA d.ino.runs.length v.Rc)) ((((((((((Only.refl [w0.heap.size] w5).setCell (p := ⟨w0.heap.size, 0, none⟩) (Or.inl (by simp)) (.int .i64 d.kind)).setCell (p := ⟨w0.heap.size, 1, none⟩) (Or.inl (by simp)) (.int .i64 d.no)).setCell (p := ⟨w0.heap.size, 2, none⟩) (Or.inl (by simp)) (.int .i64 d.ino.no)).setCell (p := ⟨w0.heap.size, 3, none⟩) (Or.inl (by simp)) (.int .i64 d.ino.kind)).setCell (p := ⟨w0.heap.size, 4, none⟩) (Or.inl (by simp)) (.int .i64 d.ino.links)).setCell (p := ⟨w0.heap.size, 5, none⟩) (Or.inl (by simp)) (.int .i64 d.ino.size)).setCell (p := ⟨w0.heap.size, 6, none⟩) (Or.inl (by simp)) (.string d.ino.target)).setCell (p := ⟨w0.heap.size, 7, none⟩) (Or.inl (by simp)) (.slice v.EA d.ino.ents.length v.Ec)).setCell (p := ⟨w0.heap.size, 8, none⟩) (Or.inl (by simp)) (.slice v.RA d.ino.runs.length v.Rc)))
    have HRI := Lib.hid (And.intro hR hIv)
    clear hq hz c0 hR hIv hq3 hz3 hR3
    go_wp2_with fail
    have hzF := HF.out.1
    have d0 := hzF.cell 0 _ rfl
    have d1 := hzF.cell 1 _ rfl
    have d2 := hzF.cell 2 _ rfl
    have d3 := hzF.cell 3 _ rfl
    have d4 := hzF.cell 4 _ rfl
    have d5 := hzF.cell 5 _ rfl
    have d6 := hzF.cell 6 _ rfl
    have d7 := hzF.cell 7 _ rfl
    have d8 := hzF.cell 8 _ rfl
    have hoF := HF.out.2
    refine bodyPost_ret (v := .agg #[.int .i64 d.kind, .int .i64 d.no, .int .i64 d.ino.no, .int .i64 d.ino.kind, .int .i64 d.ino.links, .int .i64 d.ino.size, .string d.ino.target, .slice v.EA d.ino.ents.length v.Ec, .slice v.RA d.ino.runs.length v.Rc]) (by simp [results, Try.results60, go_sem, d0, d1, d2, d3, d4, d5, d6, d7, d8]) rfl ⟨v, rfl, ?_, ?_, ?_, ?_, ?_⟩
    · exact HRI.out.1.only hoF (by simp; omega) (fun y e h0 hm => by have := hA0 y e h0; simp at hm; omega)
    · exact HRI.out.2.only hoF (fun y e h0 hm => by have := hEA y e; simp at hm; omega) (fun y e h0 hm => by have := hRA y e; simp at hm; omega)
    · intro y e
      have := hEA y e
      omega
    · intro y e
      have := hRA y e
      omega
    · exact ho.trans' hoF (fun q hq => Or.inr (by simp at hq; omega))
end
end Go.Proofs.Ytdieeleaaejfhaa
