/- The reference's deeds out of bytes. -/
import Derived.Test.YtdieeleaaejfhaaPackRI
set_option linter.unusedVariables false
set_option maxRecDepth 100000
set_option linter.unusedSimpArgs false
namespace Go.Proofs.Ytdieeleaaejfhaa
open Go.RowKit

theorem rd_one {b : List UInt8} {o : Nat} (h : o < b.length) : rdGet b ⟨(o : Int), 0⟩ 1 = (b[o].toNat, ⟨(o : Int) + 1, 0⟩) := by
  have e : (b.take (o + 1)).drop o = [b[o]] := by
    rw [List.drop_take, List.drop_eq_getElem_cons h, show o + 1 - o = 1 by omega]
    rfl
  have h2 : getR b (o : Int) ((1 : Nat) : Int) = (b[o].toNat, 0) := by
    unfold getR
    rw [if_neg (by omega), if_neg (by omega)]
    rw [show ((o : Int).toNat + ((1 : Nat) : Int).toNat) = o + 1 by omega, show (o : Int).toNat = o by omega, e]
    rfl
  unfold rdGet
  rw [if_pos rfl]
  simp only [h2]
  rfl

/-- The error is none, or that of too few bytes. -/
def E3 (s : RS) : Prop := s.e = 0 ∨ s.e = 3
def Fw3 (n : Nat) (s s' : RS) : Prop := s.ok n → E3 s → s'.ok n ∧ E3 s'
theorem Fw3.trans {n : Nat} {a b c : RS} (h : Fw3 n a b) (k : Fw3 n b c) : Fw3 n a c := fun h1 h2 => k (h h1 h2).1 (h h1 h2).2
theorem Fw3.refl (n : Nat) (a : RS) : Fw3 n a a := fun h1 h2 => ⟨h1, h2⟩
theorem fw3_get (b : List UInt8) (s : RS) (k : Nat) (hk : 1 ≤ k ∧ k ≤ 8) : Fw3 b.length s (rdGet b s k).2 := fun h h2 => by
  refine ⟨(h.get k hk).1, ?_⟩
  unfold rdGet
  by_cases he : s.e = 0
  · rw [if_pos he]
    rcases getR_cases b s.at' k h.1 hk with ⟨_, c, _⟩ | ⟨_, c⟩
    · exact Or.inl c
    · right
      show (getR b s.at' k).2 = 3
      rw [c]
  · rw [if_neg he]
    exact h2
theorem fw3_int (b : List UInt8) (s : RS) : Fw3 b.length s (rdInt b s).2 := fw3_get b s 8 (by decide)
theorem fw3_text (b : List UInt8) (s : RS) : Fw3 b.length s (rdText b s).2 := fun h h2 => by
  refine ⟨h.text, ?_⟩
  unfold rdText
  by_cases he : s.e = 0
  · rw [if_pos he]
    rcases getT_cases b s.at' h.1 with ⟨c, _⟩ | ⟨c, _⟩
    · exact Or.inl c
    · exact Or.inr c
  · rw [if_neg he]
    exact h2
theorem fw3_ents (b : List UInt8) (k : Nat) (s : RS) (acc : List Ent) : Fw3 b.length s (rdEnts b k s acc).2 := by
  induction k generalizing s acc with
  | zero => exact Fw3.refl _ _
  | succ k ih =>
    unfold rdEnts
    split
    · exact ((fw3_text b s).trans (fw3_int b _)).trans (ih _ _)
    · exact Fw3.refl _ _
theorem fw3_runs (b : List UInt8) (k : Nat) (s : RS) (acc : List RunT) : Fw3 b.length s (rdRuns b k s acc).2 := by
  induction k generalizing s acc with
  | zero => exact Fw3.refl _ _
  | succ k ih =>
    unfold rdRuns
    split
    · exact (((fw3_int b s).trans (fw3_int b _)).trans (fw3_int b _)).trans (ih _ _)
    · exact Fw3.refl _ _
theorem fw3_ino (b : List UInt8) (s : RS) : Fw3 b.length s (rdIno b s).2 := by
  have h0 : Fw3 b.length s (rdHead b s).2 := by
    unfold rdHead
    simp only
    have h1 := fw3_int b s
    generalize (rdInt b s).2 = r1 at *
    have h2 := fw3_int b r1
    generalize (rdInt b r1).2 = r2 at *
    have h3 := fw3_int b r2
    generalize (rdInt b r2).2 = r3 at *
    have h4 := fw3_int b r3
    generalize (rdInt b r3).2 = r4 at *
    exact (((h1.trans h2).trans h3).trans h4).trans (fw3_text b r4)
  unfold rdIno
  simp only
  generalize (rdHead b s).2 = q1 at *
  have h1 := fw3_get b q1 4 (by decide)
  generalize rdGet b q1 4 = q2 at *
  have h2 := fw3_ents b q2.1 q2.2 []
  generalize rdEnts b q2.1 q2.2 [] = q3 at *
  have h3 := fw3_get b q3.2 4 (by decide)
  generalize rdGet b q3.2 4 = q4 at *
  exact (((h0.trans h1).trans h2).trans h3).trans (fw3_runs b q4.1 q4.2 [])

theorem RTd.rr {w : World} {rb n c : Nat} {A : Option Addr} {b : List UInt8} {s : RS} {X : Int} (h : RTd w rb A n c b s X) (he : s.e = 0) : RRd w rb A n c b s.at' false := by
  obtain ⟨a, bad, hr, h2, h3, h4⟩ := h
  rw [h3 he] at hr
  rw [h2] at hr
  simpa [he] using hr
theorem RTd.of {w : World} {rb n c : Nat} {A : Option Addr} {b : List UInt8} {o : Nat} (h : RRd w rb A n c b (o : Int) false) (ho : o ≤ n) : RTd w rb A n c b ⟨(o : Int), 0⟩ (n : Int) :=
  ⟨_, _, h, by simp, fun _ => rfl, by omega, by omega, ⟨by show (0 : Int) ≤ o; omega, by show (o : Int) ≤ n + 8; omega, fun _ => by show (o : Int) ≤ n; omega, Nat.zero_le _⟩⟩

/-- What stands behind one round's reading. -/
def UnAt (wb : World) (rb : Nat) (A : Option Addr) (n c : Nat) (b : List UInt8) (db LB : Nat) (d : Dd) (s2 : RS) (w' : World) : Prop :=
  ∃ (d' : Dd) (v : IV), Only [rb, db] wb w' ∧ RTd w' rb A n c b s2 ((n : Int) + 200) ∧ Blk w' db 71 (ddCells d' v) ∧ IvIs w' v d'.ino ∧ (∀ y, v.EA = some y → LB ≤ y.block) ∧ (∀ y, v.RA = some y → LB ≤ y.block) ∧ (s2.e = 0 → d' = d) ∧ E3 s2

set_option maxHeartbeats 16000000 in
theorem ref_unpack (A : Option Addr) (n c : Nat) (b : List UInt8) (w : World) (hb : Byts w A b) (hn : b.length = n) (hc : n ≤ c ∧ c ≤ maxLen) (hl : n ≤ 100000000) {ds : List Dd} {k en : Nat} (hE : rdDds b (n + 1) ⟨0, 0⟩ [] = (ds, en)) (hk : ds.length = k) :
    Calls Try.prog 43 #[.slice A n c] w fun e w' => ∃ A' c', e = .returned (.tuple #[.slice A' k c', .int .i64 (en : Int)]) ∧ (k ≤ c' ∧ c' ≤ maxLen) ∧ DdsAt w' A' ds ∧ (∀ y, A' = some y → w.heap.size ≤ y.block) ∧ Below w.heap.size w w' := by
  obtain ⟨w0, rfl⟩ : ∃ w0 : World, w0 = w := ⟨_, rfl⟩
  have hs0 := Nat.le_refl w0.heap.size
  have hrd := Blk.new w0 [.slice A n c, .int .i64 0, .bool false] 103
  have hb1 := below_alloc w0 (.cells [.slice A n c, .int .i64 0, .bool false].toArray 103 (0, 0))
  have hA0 : ∀ y, A = some y → 0 < n → y.block < w0.heap.size := fun y e h0 => by
    obtain ⟨b', off, e2, hc'⟩ := hb.at (k := 0) (by rw [hn]; exact h0)
    rw [e] at e2
    cases e2
    exact World.block_lt_of_cell? w0 _ hc'
  have hzD : ∀ W : World, (zeroValue 71).run Try.prog W = .ok (.agg #[.int .i64 0, .int .i64 0, .int .i64 0, .int .i64 0, .int .i64 0, .int .i64 0, .string ByteArray.empty, .slice none 0 0, .slice none 0 0]) W := fun W => by kernel_rfl
  have hzI : ∀ W : World, (zeroValue 69).run Try.prog W = .ok (.agg #[.int .i64 0, .int .i64 0, .int .i64 0, .int .i64 0, .string ByteArray.empty, .slice none 0 0, .slice none 0 0]) W := fun W => by kernel_rfl
  have HKL := Lib.hid hk
  have HN := Lib.hid hn
  go_enter Try.func43, Try.ntmps43
  go_upto_region 3 with fail
  generalize w0.alloc (.cells [.slice A n c, .int .i64 0, .bool false].toArray 103 (0, 0)) = w1 at *
  have hR1 : RTd w1 w0.heap.size A n c b ⟨((0 : Nat) : Int), 0⟩ (n : Int) := RTd.of ⟨hrd, hb.below hb1, hn, hc, hl, fun y e h0 => by have := hA0 y e h0; omega⟩ (Nat.zero_le _)
  have hw1 : w0.heap.size < w1.heap.size := hrd.lt
  obtain ⟨rb, hrbe⟩ : ∃ rb, rb = w0.heap.size := ⟨_, rfl⟩
  rw [← hrbe] at hR1 ⊢
  have hrb1 : rb < w1.heap.size := by omega
  have HRB := Lib.hid hrbe
  have HE0 := Lib.hid hE
  clear hrbe hrd hk hn hE hb
  go_loopw [5] (fun v5 wr => ∃ (f o : Nat) (acc : List Dd), n < o + f ∧ o ≤ n ∧ Hid (rdDds b f ⟨(o : Int), 0⟩ acc = (ds, en)) ∧ RTd wr rb A n c b ⟨(o : Int), 0⟩ (n : Int) ∧ OwnDds wr w1.heap.size w1.heap.size v5 acc ∧ acc.length ≤ o ∧ Only [rb] w1 wr) (fun _ wr => (n - (intOf ((wr.cell? ⟨rb, 1, none⟩).getD (.int .i64 0)))).toNat)
  case atStart => exact ⟨n + 1, 0, [], by omega, Nat.zero_le _, HE0, hR1, OwnDds.nil _ _ _, Nat.zero_le _, Only.refl _ _⟩
  case round =>
    clear hR1 HE0
    obtain ⟨f, o, acc, hf, hon, HE, hR, hown, hacc, ho⟩ := hrel
    have hRR := hR.rr rfl
    have c1 := hRR.blk.cell 1 _ rfl
    have f1 := hRR.blk.frz 1
    obtain ⟨wo, rfl⟩ : ∃ wo, wo = wr := ⟨_, rfl⟩
    by_cases hlt : o < n
    · obtain ⟨f', rfl⟩ : ∃ f', f = f' + 1 := ⟨f - 1, by omega⟩
      have hlb : o < b.length := by rw [HN.out]; exact hlt
      obtain ⟨kk, hkk⟩ : ∃ kk, b[o].toNat = kk := ⟨_, rfl⟩
      have hk256 : kk < 256 := by rw [← hkk]; exact b[o].toNat_lt
      obtain ⟨ab, off, rfl, hcell⟩ := hRR.by'.at hlb
      rw [hkk] at hcell
      have HG1 := Lib.hid (rd_one hlb)
      rw [hkk] at HG1
      obtain ⟨d, s2, hD⟩ : ∃ d s2, rdDd b ⟨(o : Int), 0⟩ = (d, s2) := ⟨_, _, rfl⟩
      have hok : RS.ok ⟨(o : Int), 0⟩ b.length := by rw [hR.len]; exact hR.ok
      obtain ⟨hok2, hat2⟩ := rdDd_at hok
      rw [hD] at hok2 hat2
      simp only at hok2 hat2
      have HE2 : Hid ((s2.e = 0 → rdDds b f' s2 (acc ++ [d]) = (ds, en)) ∧ (s2.e ≠ 0 → ds = [] ∧ en = s2.e)) := by
        have h1 := HE.out
        unfold rdDds at h1
        rw [if_pos (by show (o : Int) < b.length; omega), hD] at h1
        simp only at h1
        constructor
        · intro h
          rw [if_pos h] at h1
          exact h1
        · intro h
          rw [if_neg h] at h1
          simp only [Prod.mk.injEq] at h1
          exact ⟨h1.1.symm, h1.2.symm⟩
      have HD2 : Hid ((if numKind (kk : Int) then ((⟨(kk : Int), (rdInt b ⟨(o : Int) + 1, 0⟩).1, ino0⟩ : Dd), (rdInt b ⟨(o : Int) + 1, 0⟩).2) else if (kk : Int) = 2 then ((⟨(kk : Int), 0, (rdIno b ⟨(o : Int) + 1, 0⟩).1⟩ : Dd), (rdIno b ⟨(o : Int) + 1, 0⟩).2) else ((⟨(kk : Int), 0, ino0⟩ : Dd), ⟨(o : Int) + 1, 5⟩)) = (d, s2)) := by
        have h1 := hD
        unfold rdDd at h1
        simp only [HG1.out] at h1
        exact h1
      have HOK := Lib.hid (And.intro hok2 hat2)
      have HRR := Lib.hid hRR
      have HCO := Lib.hid c1
      have hz1 := ho.size
      have hlim := hR.lim
      have hoI : (o : Int) < (n : Int) := by omega
      have hset : Only [rb] wo (wo.setCell ⟨rb, 1, none⟩ (.int .i64 ((o : Int) + 1))) := (Only.refl _ _).setCell (Or.inl (by simp)) _
      have hzs : (wo.setCell ⟨rb, 1, none⟩ (.int .i64 ((o : Int) + 1))).heap.size = wo.heap.size := by simp [World.setCell]
      have hq4 := Blk.new (wo.setCell ⟨rb, 1, none⟩ (.int .i64 ((o : Int) + 1))) [.int .i64 (kk : Int), .int .i64 0, .int .i64 0, .int .i64 0, .int .i64 0, .int .i64 0, .string ByteArray.empty, .slice none 0 0, .slice none 0 0] 71
      have hb3 := below_alloc (wo.setCell ⟨rb, 1, none⟩ (.int .i64 ((o : Int) + 1))) (.cells [.int .i64 (kk : Int), .int .i64 0, .int .i64 0, .int .i64 0, .int .i64 0, .int .i64 0, .string ByteArray.empty, .slice none 0 0, .slice none 0 0].toArray 71 (0, 0))
      rw [hzs] at hq4
      have hrbl : rb < wo.heap.size := hRR.blk.lt
      have hRR3 : RRd (wo.setCell ⟨rb, 1, none⟩ (.int .i64 ((o : Int) + 1))) rb (some ⟨ab, off, none⟩) n c b ((o : Int) + 1) false :=
        ⟨hRR.blk.set 1 _, hRR.by'.only hset (fun y e h0 hm => hRR.far y e (by rw [hRR.len] at h0; exact h0) (by simpa using hm)), hRR.len, hRR.cap, hRR.lim, hRR.far⟩
      have hRR4 := hRR3.below hb3
      have ho4 : Only [rb] wo ((wo.setCell ⟨rb, 1, none⟩ (.int .i64 ((o : Int) + 1))).alloc (.cells [.int .i64 (kk : Int), .int .i64 0, .int .i64 0, .int .i64 0, .int .i64 0, .int .i64 0, .string ByteArray.empty, .slice none 0 0, .slice none 0 0].toArray 71 (0, 0))) := hset.trans (Only.of_below hb3 _)
      have HQ := Lib.hid (And.intro hq4 (And.intro hRR4 ho4))
      clear hD HE hR hok hok2 hat2 hRR hRR3 hRR4 hset hq4 ho4 hb3 hkk hlb hzs
      go_upto_region 6 with fail
      obtain ⟨hq4, hRR4, ho4⟩ := HQ.out
      clear HQ HRR c1 f1 hcell
      generalize (wo.setCell ⟨rb, 1, none⟩ (.int .i64 ((o : Int) + 1))).alloc (.cells [.int .i64 (kk : Int), .int .i64 0, .int .i64 0, .int .i64 0, .int .i64 0, .int .i64 0, .string ByteArray.empty, .slice none 0 0, .slice none 0 0].toArray 71 (0, 0)) = w4 at *
      have hR4 : RTd w4 rb (some ⟨ab, off, none⟩) n c b ⟨(o : Int) + 1, 0⟩ (n : Int) := RTd.of (o := o + 1) hRR4 (by omega)
      obtain ⟨db, hdb⟩ : ∃ db, wo.heap.size = db := ⟨_, rfl⟩
      rw [hdb] at hq4 hrbl ⊢
      have hdn : db ∉ [rb] := by simp; omega
      have hdb4 := hq4.lt
      have hw1d : w1.heap.size ≤ db := by omega
      have d0 := hq4.cell 0 _ rfl
      have hown4 := hown.only ho4 (fun x hx => by simp at hx; omega)
      have HOW := Lib.hid (And.intro hown hdb)
      have hdbw : wo.heap.size = db := hdb
      have hA0d : ∀ y, (some (⟨ab, off, none⟩ : Addr)) = some y → 0 < n → y.block ≠ db := fun y e h0 => by have := hA0 y e h0; omega
      clear hRR4 hown hdb
      go_upto_block 2 with fail
      have HAD : Hid (∀ y, (some (⟨ab, off, none⟩ : Addr)) = some y → 0 < n → y.block ≠ db) := hA0d
      go_cut [6, 33, 34, 35, 42] (fun v6 _ _ _ _ w' => v6 = .pointer (some ⟨db, 0, none⟩) ∧ UnAt w4 rb (some ⟨ab, off, none⟩) n c b db w4.heap.size d s2 w')
      case first =>
        by_cases k1 : kk = 1
        · subst k1
          obtain ⟨a, t2, hI⟩ : ∃ a t2, rdInt b ⟨(o : Int) + 1, 0⟩ = (a, t2) := ⟨_, _, rfl⟩
          have HD : Hid (d = ⟨1, a, ino0⟩ ∧ s2 = t2) := by
            have h1 := HD2.out
            rw [if_pos (by decide : numKind ((1 : Nat) : Int)), hI] at h1
            simp only [Prod.mk.injEq] at h1
            exact ⟨h1.1.symm, h1.2.symm⟩
          have HI := Lib.hid hI
          have HE3 : Hid (E3 t2) := by
            have h1 := fw3_int b ⟨(o : Int) + 1, 0⟩ (by rw [hR4.len]; exact hR4.ok) (Or.inl rfl)
            rw [hI] at h1
            exact h1.2
          clear hI
          go_wp2_with (go_at_call 61; refine (rt_number hR4 (by omega) HI.out).mono ?_; rintro e w5 ⟨a', rfl, ha, hR5, ho5⟩; have hq5 := hq4.only ho5 hdn; have c1 := hq5.cell 1 _ rfl; have f1 := hq5.frz 1)
          go_meet
          have hoS : Only [db] w5 (w5.setCell ⟨db, 1, none⟩ (.int .i64 a')) := (Only.refl [db] w5).setCell (Or.inl (by simp)) _
          obtain ⟨rfl, rfl⟩ := HD.out
          obtain rfl := ha trivial
          exact ⟨rfl, ⟨1, a', ino0⟩, ⟨none, 0, none, 0⟩, (ho5.mono (by simp)).trans (hoS.mono (by simp)), (hR5.only hoS (by simp; omega) (fun y e h0 hm => HAD.out y e h0 (by simpa using hm))).mono (by omega), hq5.set 1 _,
            ⟨Kind.At.nil _ _ _, Kind.At.nil _ _ _, ⟨Nat.le_refl _, Nat.zero_le _⟩, ⟨Nat.le_refl _, Nat.zero_le _⟩⟩, (fun y e => by cases e), (fun y e => by cases e), fun _ => rfl, HE3.out⟩
        by_cases k3 : kk = 3
        · subst k3
          obtain ⟨a, t2, hI⟩ : ∃ a t2, rdInt b ⟨(o : Int) + 1, 0⟩ = (a, t2) := ⟨_, _, rfl⟩
          have HD : Hid (d = ⟨3, a, ino0⟩ ∧ s2 = t2) := by
            have h1 := HD2.out
            rw [if_pos (by decide : numKind ((3 : Nat) : Int)), hI] at h1
            simp only [Prod.mk.injEq] at h1
            exact ⟨h1.1.symm, h1.2.symm⟩
          have HI := Lib.hid hI
          have HE3 : Hid (E3 t2) := by
            have h1 := fw3_int b ⟨(o : Int) + 1, 0⟩ (by rw [hR4.len]; exact hR4.ok) (Or.inl rfl)
            rw [hI] at h1
            exact h1.2
          clear hI
          go_wp2_with (go_at_call 61; refine (rt_number hR4 (by omega) HI.out).mono ?_; rintro e w5 ⟨a', rfl, ha, hR5, ho5⟩; have hq5 := hq4.only ho5 hdn; have c1 := hq5.cell 1 _ rfl; have f1 := hq5.frz 1)
          go_meet
          have hoS : Only [db] w5 (w5.setCell ⟨db, 1, none⟩ (.int .i64 a')) := (Only.refl [db] w5).setCell (Or.inl (by simp)) _
          obtain ⟨rfl, rfl⟩ := HD.out
          obtain rfl := ha trivial
          exact ⟨rfl, ⟨3, a', ino0⟩, ⟨none, 0, none, 0⟩, (ho5.mono (by simp)).trans (hoS.mono (by simp)), (hR5.only hoS (by simp; omega) (fun y e h0 hm => HAD.out y e h0 (by simpa using hm))).mono (by omega), hq5.set 1 _,
            ⟨Kind.At.nil _ _ _, Kind.At.nil _ _ _, ⟨Nat.le_refl _, Nat.zero_le _⟩, ⟨Nat.le_refl _, Nat.zero_le _⟩⟩, (fun y e => by cases e), (fun y e => by cases e), fun _ => rfl, HE3.out⟩
        by_cases k4 : kk = 4
        · subst k4
          obtain ⟨a, t2, hI⟩ : ∃ a t2, rdInt b ⟨(o : Int) + 1, 0⟩ = (a, t2) := ⟨_, _, rfl⟩
          have HD : Hid (d = ⟨4, a, ino0⟩ ∧ s2 = t2) := by
            have h1 := HD2.out
            rw [if_pos (by decide : numKind ((4 : Nat) : Int)), hI] at h1
            simp only [Prod.mk.injEq] at h1
            exact ⟨h1.1.symm, h1.2.symm⟩
          have HI := Lib.hid hI
          have HE3 : Hid (E3 t2) := by
            have h1 := fw3_int b ⟨(o : Int) + 1, 0⟩ (by rw [hR4.len]; exact hR4.ok) (Or.inl rfl)
            rw [hI] at h1
            exact h1.2
          clear hI
          go_wp2_with (go_at_call 61; refine (rt_number hR4 (by omega) HI.out).mono ?_; rintro e w5 ⟨a', rfl, ha, hR5, ho5⟩; have hq5 := hq4.only ho5 hdn; have c1 := hq5.cell 1 _ rfl; have f1 := hq5.frz 1)
          go_meet
          have hoS : Only [db] w5 (w5.setCell ⟨db, 1, none⟩ (.int .i64 a')) := (Only.refl [db] w5).setCell (Or.inl (by simp)) _
          obtain ⟨rfl, rfl⟩ := HD.out
          obtain rfl := ha trivial
          exact ⟨rfl, ⟨4, a', ino0⟩, ⟨none, 0, none, 0⟩, (ho5.mono (by simp)).trans (hoS.mono (by simp)), (hR5.only hoS (by simp; omega) (fun y e h0 hm => HAD.out y e h0 (by simpa using hm))).mono (by omega), hq5.set 1 _,
            ⟨Kind.At.nil _ _ _, Kind.At.nil _ _ _, ⟨Nat.le_refl _, Nat.zero_le _⟩, ⟨Nat.le_refl _, Nat.zero_le _⟩⟩, (fun y e => by cases e), (fun y e => by cases e), fun _ => rfl, HE3.out⟩
        have hnk : ¬ numKind (kk : Int) := by unfold numKind; omega
        by_cases k2 : kk = 2
        · subst k2
          obtain ⟨x, t2, hI⟩ : ∃ x t2, rdIno b ⟨(o : Int) + 1, 0⟩ = (x, t2) := ⟨_, _, rfl⟩
          have HD : Hid (d = ⟨2, 0, x⟩ ∧ s2 = t2) := by
            have h1 := HD2.out
            rw [if_neg (by decide : ¬ numKind ((2 : Nat) : Int)), if_pos (by decide), hI] at h1
            simp only [Prod.mk.injEq] at h1
            exact ⟨h1.1.symm, h1.2.symm⟩
          have HI := Lib.hid hI
          have HE3 : Hid (E3 t2) := by
            have h1 := fw3_ino b ⟨(o : Int) + 1, 0⟩ (by rw [hR4.len]; exact hR4.ok) (Or.inl rfl)
            rw [hI] at h1
            exact h1.2
          clear hI hnk
          go_wp2_with (go_at_call 62; refine (rt_inode hR4 (by omega) (Int.le_refl _) HI.out).mono ?_; rintro e w5 ⟨v, x', rfl, hx', hR5, hIv5, hEA5, hRA5, ho5⟩; rw [show inoCells x' v = [.int .i64 x'.no, .int .i64 x'.kind, .int .i64 x'.links, .int .i64 x'.size, .string x'.target, .slice v.EA x'.ents.length v.Ec, .slice v.RA x'.runs.length v.Rc] from rfl]; have hq5 := hq4.only ho5 hdn; have c2 := hq5.cell 2 _ rfl; have f2 := hq5.frz 2; have c3 := hq5.cell 3 _ rfl; have f3 := hq5.frz 3; have c4 := hq5.cell 4 _ rfl; have f4 := hq5.frz 4; have c5 := hq5.cell 5 _ rfl; have f5 := hq5.frz 5; have c6 := hq5.cell 6 _ rfl; have f6 := hq5.frz 6; have c7 := hq5.cell 7 _ rfl; have f7 := hq5.frz 7; have c8 := hq5.cell 8 _ rfl; have f8 := hq5.frz 8)
          go_meet
          have hoS := ((((((((Only.refl [db] w5).setCell (p := ⟨db, 2, none⟩) (Or.inl (by simp)) (.int .i64 x'.no)).setCell (p := ⟨db, 3, none⟩) (Or.inl (by simp)) (.int .i64 x'.kind)).setCell (p := ⟨db, 4, none⟩) (Or.inl (by simp)) (.int .i64 x'.links)).setCell (p := ⟨db, 5, none⟩) (Or.inl (by simp)) (.int .i64 x'.size)).setCell (p := ⟨db, 6, none⟩) (Or.inl (by simp)) (.string x'.target)).setCell (p := ⟨db, 7, none⟩) (Or.inl (by simp)) (.slice v.EA x'.ents.length v.Ec)).setCell (p := ⟨db, 8, none⟩) (Or.inl (by simp)) (.slice v.RA x'.runs.length v.Rc))
          obtain ⟨rfl, rfl⟩ := HD.out
          exact ⟨rfl, ⟨2, 0, x'⟩, v, (ho5.mono (by simp)).trans (hoS.mono (by simp)), (hR5.only hoS (by simp; omega) (fun y e h0 hm => HAD.out y e h0 (by simpa using hm))).mono (by omega), (((((((hq5.set 2 (.int .i64 x'.no)).set 3 (.int .i64 x'.kind)).set 4 (.int .i64 x'.links)).set 5 (.int .i64 x'.size)).set 6 (.string x'.target)).set 7 (.slice v.EA x'.ents.length v.Ec)).set 8 (.slice v.RA x'.runs.length v.Rc)),
            hIv5.only hoS (fun y e h0 hm => by have := hEA5 y e; simp at hm; omega) (fun y e h0 hm => by have := hRA5 y e; simp at hm; omega), hEA5, hRA5, fun h => by rw [hx' h], HE3.out⟩
        · have k1' : ((kk : Int) == 1) = false := by simp; omega
          have k3' : ((kk : Int) == 3) = false := by simp; omega
          have k4' : ((kk : Int) == 4) = false := by simp; omega
          have k2' : ((kk : Int) == 2) = false := by simp; omega
          have HD : Hid (ds = [] ∧ en = 5) := by
            have h1 := HD2.out
            rw [if_neg hnk, if_neg (by omega)] at h1
            simp only [Prod.mk.injEq] at h1
            have h2 := HE2.out.2 (by rw [← h1.2]; show 5 ≠ 0; decide)
            rw [← h1.2] at h2
            exact h2
          clear k1 k2 k3 k4 hnk
          have HB : Hid (Below w0.heap.size w0 w4) := hb1.trans (((ho.trans ho4)).below (B := w0.heap.size) (fun x hx => by simp at hx; have := HRB.out; omega) (by omega))
          clear hq4 hR4 hown4
          go_wp2_with fail
          go_ret2
          obtain ⟨rfl, rfl⟩ := HD.out
          exact ⟨none, 0, by rw [← HKL.out]; rfl, by rw [← HKL.out]; exact ⟨Nat.le_refl _, Nat.zero_le _⟩, ⟨[], rfl, Kind.At.nil _ _ _, fun p hp => by simp at hp⟩, (fun y e => by cases e), HB.out⟩
      case rest =>
        obtain ⟨rfl, d', v, ho5, hR5, hq5, hiv, hEA, hRA, hdd, he3⟩ := hcut
        obtain ⟨w5, rfl⟩ : ∃ w5, w5 = wc := ⟨_, rfl⟩
        unfold ddCells at hq5
        have hown := HOW.out.1
        have hdb := HOW.out.2
        have hz45 := hq4.lt
        have hoA : Only [rb] wo w5 := ho4.trans' ho5 (fun x hx => by simp at hx ⊢; omega)
        have hown5 := hown.only hoA (fun x hx => by simp at hx; omega)
        have hol := fun g (hg : u5.ownBlock = some g) => hown.lt hg
        by_cases he2 : s2.e = 0
        · obtain rfl := hdd he2
          obtain ⟨o2, hso⟩ : ∃ o2 : Nat, s2 = ⟨(o2 : Int), 0⟩ := by
            obtain ⟨a2, e2⟩ := s2
            have h1 := hR5.ok.1
            simp only at he2 h1
            exact ⟨a2.toNat, by rw [he2]; congr 1; omega⟩
          subst hso
          have q2 := hR5.good rfl
          have hat := HOK.out.2 rfl
          have hon2 := HOK.out.1.2.2.1 rfl
          rw [HN.out] at hon2
          simp only at hat hon2
          have k0 := hq5.cell 0 _ rfl
          have k1 := hq5.cell 1 _ rfl
          have k2 := hq5.cell 2 _ rfl
          have k3 := hq5.cell 3 _ rfl
          have k4 := hq5.cell 4 _ rfl
          have k5 := hq5.cell 5 _ rfl
          have k6 := hq5.cell 6 _ rfl
          have k7 := hq5.cell 7 _ rfl
          have k8 := hq5.cell 8 _ rfl
          have hRt := hR5.tight rfl
          have HREST := Lib.hid (And.intro hRt (And.intro hoA (And.intro hown hdb)))
          have hiv2 := hiv.below (below_alloc w5 (.cells #[.int .i64 d'.kind, .int .i64 d'.no, .int .i64 d'.ino.no, .int .i64 d'.ino.kind, .int .i64 d'.ino.links, .int .i64 d'.ino.size, .string d'.ino.target, .slice v.EA d'.ino.ents.length v.Ec, .slice v.RA d'.ino.runs.length v.Rc] 71))
          have hown6 := hown5.below (below_alloc w5 (.cells #[.int .i64 d'.kind, .int .i64 d'.no, .int .i64 d'.ino.no, .int .i64 d'.ino.kind, .int .i64 d'.ino.links, .int .i64 d'.ino.size, .string d'.ino.target, .slice v.EA d'.ino.ents.length v.Ec, .slice v.RA d'.ino.runs.length v.Rc] 71))
          have HF1 : Hid (∀ g, u5.ownBlock = some g → Far (d', v) g) := fun g hg => ⟨fun y e h0 => by have := hEA y e; have := (hol g hg).2; omega, fun y e h0 => by have := hRA y e; have := (hol g hg).2; omega⟩
          have HF2 : Hid (∀ g, g < w1.heap.size → Far (d', v) g) := fun g hg => ⟨fun y e h0 => by have := hEA y e; omega, fun y e h0 => by have := hRA y e; omega⟩
          have HLN : Hid (acc.length + 1 ≤ 100000000000) := by show _ ≤ _; omega
          have HSZ : Hid (w1.heap.size ≤ (w5.alloc (.cells #[.int .i64 d'.kind, .int .i64 d'.no, .int .i64 d'.ino.no, .int .i64 d'.ino.kind, .int .i64 d'.ino.links, .int .i64 d'.ino.size, .string d'.ino.target, .slice v.EA d'.ino.ents.length v.Ec, .slice v.RA d'.ino.runs.length v.Rc] 71)).heap.size) := by show _ ≤ _; rw [World.size_alloc]; have := hoA.size; omega
          have hcl := cells_alloc w5 [.int .i64 d'.kind, .int .i64 d'.no, .int .i64 d'.ino.no, .int .i64 d'.ino.kind, .int .i64 d'.ino.links, .int .i64 d'.ino.size, .string d'.ino.target, .slice v.EA d'.ino.ents.length v.Ec, .slice v.RA d'.ino.runs.length v.Rc] 71 (0, 0)
          clear hq5 hR5 hRt hown5 hiv hEA hRA hol ho5 hoA hown hq4 hR4 hown4
          go_wp2_with (at_builtin; refine wpList_wanted (by rfl) fun K hK => wp_append_dd _ _ rfl (d := d') (iv := v) rfl rfl hown6 hcl hiv2 HF1.out HF2.out HLN.out HSZ.out ?_; intro v6 w6 hown7 hg7; refine hK _ _ ?_; clear hK K)
          obtain ⟨hRt, hoA, hown, hdb⟩ := HREST.out
          obtain ⟨S, hS1, hS2⟩ := only_of_grown hg7 (B := w1.heap.size) (fun k e => (hown6.lt e).1)
          have hR6 := (hRt.below (below_alloc w5 (.cells #[.int .i64 d'.kind, .int .i64 d'.no, .int .i64 d'.ino.no, .int .i64 d'.ino.kind, .int .i64 d'.ino.links, .int .i64 d'.ino.size, .string d'.ino.target, .slice v.EA d'.ino.ents.length v.Ec, .slice v.RA d'.ino.runs.length v.Rc] 71))).only hS1 (fun hm => by have := hS2 _ hm; omega) (fun y e h0 hm => by have := hS2 _ hm; have := hA0 y e h0; omega)
          have ho6 : Only [rb] w1 w6 := (ho.trans (hoA.trans (Only.of_below (below_alloc w5 (.cells #[.int .i64 d'.kind, .int .i64 d'.no, .int .i64 d'.ino.no, .int .i64 d'.ino.kind, .int .i64 d'.ino.links, .int .i64 d'.ino.size, .string d'.ino.target, .slice v.EA d'.ino.ents.length v.Ec, .slice v.RA d'.ino.runs.length v.Rc] 71)) _))).trans' hS1 (fun x hx => Or.inr (hS2 x hx))
          have hc6 := (hR6.rr rfl).blk.cell 1 _ rfl
          have HM : Hid ((w6.cell? ⟨rb, 1, none⟩).getD (.int .i64 0) = .int .i64 (o2 : Int) ∧ (wo.cell? ⟨rb, 1, none⟩).getD (.int .i64 0) = .int .i64 (o : Int)) := ⟨by rw [hc6]; rfl, by rw [HCO.out]; rfl⟩
          clear hS1 hS2 hRt hoA hown hown6 hiv2 hg7 hcl hc6 q2
          go_roundw
          case rel => exact ⟨f', o2, acc ++ [d'], by omega, by omega, HE2.out.1 rfl, hR6, hown7, by rw [List.length_append]; simp only [List.length_singleton]; omega, ho6⟩
          case measure =>
            rw [HM.out.1, HM.out.2]
            simp [intOf]
            omega
        · have q2 := hR5.ill he2
          have h3 : s2.e = 3 := he3.resolve_left he2
          have HD : Hid (ds = [] ∧ en = 3) := by
            have h2 := HE2.out.2 he2
            rw [h3] at h2
            exact h2
          have HB : Hid (Below w0.heap.size w0 w5) := hb1.trans (((ho.trans hoA)).below (B := w0.heap.size) (fun x hx => by simp at hx; have := HRB.out; omega) (by omega))
          clear hq5 hR5 hown5 hiv hEA hRA hol ho5 hoA hown hq4 hR4 hown4
          go_wp2_with fail
          go_ret2
          obtain ⟨rfl, rfl⟩ := HD.out
          exact ⟨none, 0, by rw [← HKL.out]; rfl, by rw [← HKL.out]; exact ⟨Nat.le_refl _, Nat.zero_le _⟩, ⟨[], rfl, Kind.At.nil _ _ _, fun p hp => by simp at hp⟩, (fun y e => by cases e), HB.out⟩
    · have HF : Hid (acc = ds ∧ en = 0) := by
        obtain ⟨f', rfl⟩ : ∃ f', f = f' + 1 := ⟨f - 1, by omega⟩
        have h1 := HE.out
        unfold rdDds at h1
        rw [if_neg (by show ¬ (o : Int) < b.length; rw [HN.out]; omega)] at h1
        simp only [Prod.mk.injEq] at h1
        exact ⟨h1.1, h1.2.symm⟩
      obtain ⟨A5, c5, rfl, hc5, hat5, hA5⟩ := hown.form
      have hb9 := hb1.trans (ho.below (B := w0.heap.size) (fun x hx => by simp at hx; have := HRB.out; omega) (by omega))
      have hge : ¬ (o : Int) < (n : Int) := by omega
      clear hown hR hacc HE hRR
      go_wp2_with fail
      go_ret2
      obtain ⟨rfl, rfl⟩ := HF.out
      rw [HKL.out] at hc5 ⊢
      exact ⟨A5, c5, rfl, hc5, hat5, fun y e => Nat.le_trans (Nat.le_of_lt hw1) (hA5 y e), hb9⟩
end Go.Proofs.Ytdieeleaaejfhaa
