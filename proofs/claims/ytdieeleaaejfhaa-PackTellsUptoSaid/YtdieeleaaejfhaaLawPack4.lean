/- The walk of PackTells: deeds as bytes, and bytes as deeds, by the program and by the reference. -/
import Derived.Test.YtdieeleaaejfhaaPackRU
import Derived.Test.YtdieeleaaejfhaaPackG
set_option linter.unusedVariables false
set_option maxRecDepth 100000
set_option linter.unusedSimpArgs false
namespace Go.Proofs.Ytdieeleaaejfhaa
open Go.RowKit

theorem rdEnts_len (b : List UInt8) (k : Nat) (s : RS) (acc : List Ent) : (rdEnts b k s acc).1.length ≤ acc.length + k := by
  induction k generalizing s acc with
  | zero => exact Nat.le_refl _
  | succ k ih =>
    unfold rdEnts
    split
    · have := ih (rdInt b (rdText b s).2).2 (acc ++ [⟨strOf (rdText b s).1, (rdInt b (rdText b s).2).1⟩])
      rw [List.length_append, List.length_singleton] at this
      omega
    · show acc.length ≤ _
      omega
theorem rdRuns_len (b : List UInt8) (k : Nat) (s : RS) (acc : List RunT) : (rdRuns b k s acc).1.length ≤ acc.length + k := by
  induction k generalizing s acc with
  | zero => exact Nat.le_refl _
  | succ k ih =>
    unfold rdRuns
    split
    · have := ih (rdRun b s).2 (acc ++ [(rdRun b s).1])
      rw [List.length_append, List.length_singleton] at this
      omega
    · show acc.length ≤ _
      omega
theorem rdGet_lt (b : List UInt8) (s : RS) : (rdGet b s 4).1 < 4294967296 := by
  unfold rdGet
  split
  · show (getR b s.at' ((4 : Nat) : Int)).1 < _
    unfold getR
    split
    · decide
    · split
      · decide
      · have h := num_lt ((b.take (s.at'.toNat + ((4 : Nat) : Int).toNat)).drop s.at'.toNat)
        have hl : ((b.take (s.at'.toNat + ((4 : Nat) : Int).toNat)).drop s.at'.toNat).length ≤ 4 := by
          rw [List.length_drop, List.length_take]
          omega
        have hp : 2 ^ (8 * ((b.take (s.at'.toNat + ((4 : Nat) : Int).toNat)).drop s.at'.toNat).length) ≤ 2 ^ 32 := Nat.pow_le_pow_right (by omega) (by omega)
        exact Nat.lt_of_lt_of_le h hp
  · show (0 : Nat) < _
    decide
theorem rdIno_len (b : List UInt8) (s : RS) : (rdIno b s).1.ents.length ≤ 1000000000000 ∧ (rdIno b s).1.runs.length ≤ 1000000000000 := by
  unfold rdIno
  simp only
  constructor
  · have h1 := rdEnts_len b (rdGet b (rdHead b s).2 4).1 (rdGet b (rdHead b s).2 4).2 []
    have h2 := rdGet_lt b (rdHead b s).2
    rw [List.length_nil] at h1
    omega
  · generalize (rdEnts b (rdGet b (rdHead b s).2 4).1 (rdGet b (rdHead b s).2 4).2 []).2 = q
    have h1 := rdRuns_len b (rdGet b q 4).1 (rdGet b q 4).2 []
    have h2 := rdGet_lt b q
    rw [List.length_nil] at h1
    omega
theorem rdDd_len (b : List UInt8) (s : RS) : (rdDd b s).1.ino.ents.length ≤ 1000000000000 ∧ (rdDd b s).1.ino.runs.length ≤ 1000000000000 := by
  unfold rdDd
  simp only
  split
  · exact ⟨Nat.zero_le _, Nat.zero_le _⟩
  · split
    · exact rdIno_len b _
    · exact ⟨Nat.zero_le _, Nat.zero_le _⟩
theorem rdDds_len (b : List UInt8) (f : Nat) (s : RS) (acc : List Dd) (h : ∀ d ∈ acc, d.ino.ents.length ≤ 1000000000000 ∧ d.ino.runs.length ≤ 1000000000000) :
    (rdDds b f s acc).1.length ≤ acc.length + f ∧ ∀ d ∈ (rdDds b f s acc).1, d.ino.ents.length ≤ 1000000000000 ∧ d.ino.runs.length ≤ 1000000000000 := by
  induction f generalizing s acc with
  | zero => exact ⟨Nat.le_refl _, h⟩
  | succ f ih =>
    unfold rdDds
    split
    · split
      · have h2 := ih (rdDd b s).2 (acc ++ [(rdDd b s).1]) (fun d hd => by
          rcases List.mem_append.1 hd with hd | hd
          · exact h d hd
          · rw [List.mem_singleton.1 hd]
            exact rdDd_len b s)
        rw [List.length_append, List.length_singleton] at h2
        exact ⟨by omega, h2.2⟩
      · exact ⟨Nat.zero_le _, fun d hd => by cases hd⟩
    · exact ⟨Nat.le_add_right _ _, h⟩

/-- What stands while the calls of PackTells go on. -/
structure CtxPk (w0 : World) (A : Option Addr) (l : List UInt8) (g : Nat) (Ad : Option Addr) (la : List Dd) (w : World) : Prop where
  b : Byts w A l
  i : Byts w (some ⟨g, 0, none⟩) (l ++ [71, 71, 71])
  d : DdsAt w Ad la
  bel : Below w0.heap.size w0 w
theorem CtxPk.below {w0 : World} {A Ad : Option Addr} {l : List UInt8} {g : Nat} {la : List Dd} {w w' : World} (h : CtxPk w0 A l g Ad la w) (hx : Below w.heap.size w w') : CtxPk w0 A l g Ad la w' :=
  ⟨h.b.below hx, h.i.below hx, h.d.below hx, h.bel.trans (hx.mono h.bel.size)⟩
theorem CtxPk.own {w0 : World} {A Ad : Option Addr} {l : List UInt8} {g : Nat} {la : List Dd} {w : World} (h : CtxPk w0 A l g Ad la w) : Byts w (some ⟨g, 0, none⟩) l := by
  have := h.i.take l.length; simpa using this

set_option maxHeartbeats 8000000 in
theorem packTells_walk {w : World} (A : Option Addr) (c : Nat) (la : List Dd) (hcA : la.length ≤ c ∧ c ≤ maxLen) (hA : DdsAt w A la) (hiA : ∀ d ∈ la, DdIn d) (hwA : ddsW la ≤ 20000000) (hlA : la.length ≤ 20000000)
    (A' : Option Addr) (c' : Nat) (l : List UInt8) (hcap : l.length ≤ c' ∧ c' ≤ maxLen) (hb : Byts w A' l) (hl : l.length ≤ 140737488351232) :
    Calls Try.prog 10 #[.slice A la.length c, .slice A' l.length c'] w fun e w' => e = .returned (.bool true) ∧ Below w.heap.size w w' := by
  obtain ⟨w0, rfl⟩ : ∃ w0 : World, w0 = w := ⟨_, rfl⟩
  have hs0 := Nat.le_refl w0.heap.size
  obtain ⟨na, hna⟩ : ∃ k, la.length = k := ⟨_, rfl⟩
  rw [hna] at hcA hlA ⊢
  obtain ⟨n, hn⟩ : ∃ k, l.length = k := ⟨_, rfl⟩
  rw [hn] at hcap hl ⊢
  have HNA := Lib.hid hna
  have HN := Lib.hid hn
  have HA := Lib.hid hA
  have HB := Lib.hid hb
  have HW := Lib.hid hwA
  clear hna hn hA hb hwA hiA
  by_cases fa : ddsW la ≤ 4000
  case neg =>
    have HX := Lib.hid (show decide (ddsW la ≤ 4000) = false by simpa using fa)
    clear fa
    go_enter Try.func10, Try.ntmps10
    go_upto_region 2 with (go_at_call 39; refine (law_few A na c la _ HA.out HNA.out HW.out hlA).mono ?_; rintro e w1 ⟨rfl, hb1⟩; rw [HX.out])
    go_wp2_with (go_at_call 40; refine (awake13 _).mono ?_; rintro e w' ⟨rfl, hb'⟩)
    go_ret
    exact ⟨rfl, hb1.trans (hb'.mono hb1.size)⟩
  case pos =>
    have HX := Lib.hid (show decide (ddsW la ≤ 4000) = true by simpa using fa)
    have HD : Hid (ddsW la ≤ 4000000) := Nat.le_trans fa (by decide)
    clear fa
    by_cases hbig : 3000 < n
    · have hbI : (3000 : Int) < (n : Int) := by omega
      go_enter Try.func10, Try.ntmps10
      go_upto_region 2 with (go_at_call 39; refine (law_few A na c la _ HA.out HNA.out HW.out hlA).mono ?_; rintro e w1 ⟨rfl, hb1⟩; rw [HX.out])
      go_wp2_with (go_at_call 40; refine (awake13 _).mono ?_; rintro e w' ⟨rfl, hb'⟩)
      go_ret
      exact ⟨rfl, hb1.trans (hb'.mono hb1.size)⟩
    · have hbI : ¬ (3000 : Int) < (n : Int) := by omega
      have hn3 : n ≤ 3000 := by omega
      obtain ⟨ds, en, hE⟩ : ∃ ds en, rdDds l (n + 1) ⟨0, 0⟩ [] = (ds, en) := ⟨_, _, rfl⟩
      obtain ⟨k, hk⟩ : ∃ k, ds.length = k := ⟨_, rfl⟩
      have hS := rdDds_len l (n + 1) ⟨0, 0⟩ [] (fun d hd => by cases hd)
      rw [hE] at hS
      obtain ⟨hS1, hS2⟩ := hS
      rw [List.length_nil] at hS1
      have hk3 : k ≤ 4000 := by rw [← hk]; simp only at hS1; omega
      have HE := Lib.hid hE
      have HK := Lib.hid hk
      have HS := Lib.hid hS2
      obtain ⟨m, hm⟩ : ∃ k, (putDds la).length = k := ⟨_, rfl⟩
      have HM := Lib.hid hm
      have HL2 := Lib.hid (show l.length ≤ 140737488355328 by rw [HN.out]; omega)
      have een : ((en : Int) == (en : Int)) = true := by simp
      clear hS1 hS2 hE hk hm
      go_enter Try.func10, Try.ntmps10
      go_upto_region 3 with (go_at_call 39; refine (law_few A na c la _ HA.out HNA.out HW.out hlA).mono ?_; rintro e w1 ⟨rfl, hb1⟩; rw [HX.out])
      have HA1 := Lib.hid (HA.out.below hb1)
      have HB1 := Lib.hid (HB.out.below hb1)
      go_upto_region 4 with (go_at_call 41; refine (own_byte A' n c' l 71 _ HB1.out HN.out.symm HL2.out).mono ?_; rintro e w2 ⟨v2, rfl, g, rfl, hin, hbel2, -⟩; rw [HN.out])
      have hC : CtxPk w0 A' l g A la w2 := ⟨HB1.out.below hbel2, hin, HA1.out.below hbel2, hb1.trans (hbel2.mono hb1.size)⟩
      clear hin hbel2 hb1 HA1 HB1 HA HB
      go_upto_region 5 with (go_at_call 42; refine (pk_parse _ n (n + 3) l _ hC.own HN.out ⟨by omega, by unfold maxLen; omega⟩ (by omega) HE.out HK.out).mono ?_; rintro e w3 ⟨A3, c3, rfl, hc3, hat3, -, hx⟩; replace hC := hC.below hx; clear hx)
      go_upto_region 6 with (go_at_call 43; refine (ref_unpack A' n c' l _ hC.b HN.out hcap (by omega) HE.out HK.out).mono ?_; rintro e w4 ⟨A4, c4, rfl, hc4, hat4, -, hx⟩; replace hC := hC.below hx; replace hat3 := hat3.below hx; clear hx)
      go_wp2_with (first
        | (go_at_call 40; refine (awake13 _).mono ?_; rintro e w5 ⟨rfl, hx⟩; replace hC := hC.below hx; replace hat3 := hat3.below hx; replace hat4 := hat4.below hx; clear hx)
        | (go_at_call 44; refine (pk_deeds A na c la _ hC.d HNA.out HD.out HM.out).mono ?_; rintro e w6 ⟨A6, c6, rfl, hc6, hown6, hx⟩; have hy6 := hown6.read; replace hC := hC.below hx; replace hat3 := hat3.below hx; replace hat4 := hat4.below hx; clear hx hown6)
        | (go_at_call 45; refine (ref_pack A na c la _ hC.d HNA.out HD.out HM.out).mono ?_; rintro e w7 ⟨A7, c7, rfl, hc7, hown7, hx⟩; have hy7 := hown7.read; replace hy6 := hy6.below hx; replace hC := hC.below hx; replace hat3 := hat3.below hx; replace hat4 := hat4.below hx; clear hx hown7)
        | (go_at_call 37; refine (help_bytes _ _ _ _ _ _ _ _ _ hy6 HM.out.symm hy7 HM.out.symm).mono ?_; rintro e w8 ⟨rfl, rfl⟩; clear hy6 hy7; (try rw [beq_self_eq_true]))
        | (go_at_call 46; refine (same_dds A3 k c3 A4 c4 ds _ hat3 HK.out hat4 (by omega) HS.out).mono ?_; rintro e w9 ⟨rfl, hx⟩; replace hC := hC.below hx; clear hx hat3 hat4)
        | (go_at_call 48; refine (kept_byte _ _ _ _ _ _ l 71 _ hC.i HN.out.symm (by rw [HN.out]; omega) (by omega) hC.b HN.out.symm HL2.out).mono ?_; rintro e w10 ⟨rfl, mm, rfl⟩; replace hC := hC.below (below_drewN (Below.refl _ _) mm)))
      go_ret
      exact ⟨rfl, hC.bel⟩
end Go.Proofs.Ytdieeleaaejfhaa
