/- Rows of deeds that a call appends; the walk of PackJoins. -/
import Derived.Test.YtdieeleaaejfhaaPackF
set_option linter.unusedVariables false
set_option maxRecDepth 100000
set_option linter.unusedSimpArgs false
namespace Go.Proofs.Ytdieeleaaejfhaa
open Go.RowKit

/-- Deeds whose rows lie in blocks below L. -/
def DdsLo (w : World) (L : Nat) (A : Option Addr) (ds : List Dd) : Prop := ∃ ps : List (Dd × IV), ps.map (·.1) = ds ∧ kDd.At w A ps ∧ ∀ p ∈ ps, IvIs w p.2 p.1.ino ∧ ∀ g, L ≤ g → Far p g
theorem IvIs.far {w : World} {v : IV} {d : Dd} (h : IvIs w v d.ino) {g : Nat} (hg : w.heap.size ≤ g) : Far (d, v) g :=
  ⟨fun y e h0 => by have := h.lt.1 y e h0; omega, fun y e h0 => by have := h.lt.2 y e h0; omega⟩
theorem DdsAt.lo {w : World} {A : Option Addr} {ds : List Dd} (h : DdsAt w A ds) : DdsLo w w.heap.size A ds := by
  obtain ⟨ps, h1, h2, h3⟩ := h
  exact ⟨ps, h1, h2, fun p hp => ⟨h3 p hp, fun g hg => (h3 p hp).far hg⟩⟩
theorem DdsLo.dds {w : World} {L : Nat} {A : Option Addr} {ds : List Dd} (h : DdsLo w L A ds) : DdsAt w A ds := by
  obtain ⟨ps, h1, h2, h3⟩ := h
  exact ⟨ps, h1, h2, fun p hp => (h3 p hp).1⟩
theorem DdsLo.below {w w' : World} {L : Nat} {A : Option Addr} {ds : List Dd} (h : DdsLo w L A ds) (hb : Below w.heap.size w w') : DdsLo w' L A ds := by
  obtain ⟨ps, h1, h2, h3⟩ := h
  exact ⟨ps, h1, h2.below hb, fun p hp => ⟨(h3 p hp).1.below hb, (h3 p hp).2⟩⟩

theorem wp_append_dds {o : Oper} {a : Act} {w : World} {K : Act → World → Prop} {Q : Exit → Act → World → Prop} (s x : Operand)
    (ho : o.op = .call { callee := .builtin .append, args := #[s, x], argTypes := #[59, 59] })
    {B L : Nat} {v : Value} {ds es : List Dd} {A : Option Addr} {n c : Nat} (hs : a.eval s = v) (hx : a.eval x = .slice A n c) (hown : OwnDds w B 0 v ds)
    (hat : DdsLo w L A es) (hn : es.length = n) (hL : L ≤ B) (hlen : ds.length + es.length ≤ 100000000000) (hB : B ≤ w.heap.size)
    (h : ∀ v' w', OwnDds w' B 0 v' (ds ++ es) → w.grownBy w' v.ownBlock → K (a.put o.dst v') w') : o.wp Try.prog a w K Q := by
  obtain ⟨ps, rfl, h2, h3⟩ := hown
  obtain ⟨qs, rfl, g2, g3⟩ := hat
  rw [List.length_map] at hlen hn
  rw [List.length_map] at hlen
  refine wp_append_els (k := kDd) s x ho hs hx h2 g2 hn.symm (by show (ps.length + qs.length) * 112 ≤ _; omega) (by omega) hB (fun v' w' hown' hg hv' => h v' w' ?_ hg)
  have key : ∀ p : Dd × IV, IvIs w p.2 p.1.ino → (∀ g, v.ownBlock = some g → Far p g) → IvIs w' p.2 p.1.ino ∧ ∀ g, v'.ownBlock = some g → Far p g := by
    intro p h5 h6
    refine ⟨h5.grown hg (fun g e => h6 g e), fun g e => ?_⟩
    rcases hv' with hv | hv
    · exact h6 g (by rw [← hv]; exact e)
    · rw [hv] at e
      cases e
      exact h5.far (Nat.le_refl _)
  refine ⟨ps ++ qs, by simp, hown', fun p hp => ?_⟩
  rcases List.mem_append.1 hp with hp | hp
  · exact ⟨(key p (h3 p hp).1 (h3 p hp).2.1).1, (key p (h3 p hp).1 (h3 p hp).2.1).2, fun g hg => absurd hg (Nat.not_lt_zero _)⟩
  · have hf : ∀ g, v.ownBlock = some g → Far p g := fun g e => (g3 p hp).2 g (Nat.le_trans hL (h2.lt e).1)
    exact ⟨(key p (g3 p hp).1 hf).1, (key p (g3 p hp).1 hf).2, fun g hg => absurd hg (Nat.not_lt_zero _)⟩

theorem ddsW_append (l m : List Dd) : ddsW (l ++ m) = ddsW l + ddsW m := by unfold ddsW; rw [List.map_append, List.sum_append]
/-- One deed of any kind: is it one byte? -/
theorem odd_one (kd : UInt8) : (putDds [⟨(kd.toNat : Int), 5, ino0⟩]).length = 1 ↔ ((kd.toNat : Int) < 1 ∨ 4 < (kd.toNat : Int)) := by
  have h := kd.toNat_lt
  have e1 : putDds [⟨(kd.toNat : Int), 5, ino0⟩] = low (uof (kd.toNat : Int)) 1 ++ putRest ⟨(kd.toNat : Int), 5, ino0⟩ := by unfold putDds putDd; simp
  rw [e1, List.length_append, low_length]
  unfold putRest
  simp only
  by_cases h1 : numKind (kd.toNat : Int)
  · rw [if_pos h1, putI_length]
    unfold numKind at h1
    omega
  · rw [if_neg h1]
    by_cases h2 : (kd.toNat : Int) = 2
    · rw [if_pos h2, putIno_length]
      omega
    · rw [if_neg h2]
      unfold numKind at h1
      have h3 : ([] : List UInt8).length = 0 := rfl
      rw [h3]
      constructor
      · intro _
        omega
      · intro _
        rfl

set_option maxHeartbeats 4000000 in
theorem packJoins_walk {w : World} (A : Option Addr) (c : Nat) (la : List Dd) (hcA : la.length ≤ c ∧ c ≤ maxLen) (hA : DdsAt w A la) (hiA : ∀ d ∈ la, DdIn d) (hwA : ddsW la ≤ 20000000) (hlA : la.length ≤ 20000000)
    (A' : Option Addr) (c' : Nat) (lb : List Dd) (hcB : lb.length ≤ c' ∧ c' ≤ maxLen) (hB : DdsAt w A' lb) (hiB : ∀ d ∈ lb, DdIn d) (hwB : ddsW lb ≤ 20000000) (hlB : lb.length ≤ 20000000) (kd : Int) (wk : (Lit.int .u8 kd).wf = true) :
    Calls Try.prog 12 #[.slice A la.length c, .slice A' lb.length c', .int .u8 kd] w fun e w' => e = .returned (.bool true) ∧ Below w.heap.size w w' := by
  obtain ⟨w0, rfl⟩ : ∃ w0 : World, w0 = w := ⟨_, rfl⟩
  have hs0 := Nat.le_refl w0.heap.size
  obtain ⟨kd, rfl⟩ := byte_of (wf_u8 wk)
  clear wk
  obtain ⟨na, hna⟩ : ∃ k, la.length = k := ⟨_, rfl⟩
  obtain ⟨nb, hnb⟩ : ∃ k, lb.length = k := ⟨_, rfl⟩
  rw [hna] at hcA hlA ⊢
  rw [hnb] at hcB hlB ⊢
  have HNA := Lib.hid hna
  have HNB := Lib.hid hnb
  clear hna hnb
  have hLA := hA.lo
  have hLB := hB.lo
  clear hiA hiB
  by_cases fa : ddsW la ≤ 4000
  · by_cases fb : ddsW lb ≤ 4000
    · have fa' : decide (ddsW la ≤ 4000) = true := by simpa using fa
      have fb' : decide (ddsW lb ≤ 4000) = true := by simpa using fb
      have HA := Lib.hid hLA
      have HB := Lib.hid hLB
      have HD : Hid (ddsW (la ++ lb) ≤ 4000000 ∧ ddsW la ≤ 4000000 ∧ ddsW lb ≤ 4000000) := by
        refine ⟨?_, by omega, by omega⟩
        rw [ddsW_append]
        omega
      have HX := Lib.hid fa'
      have HY := Lib.hid fb'
      have ho := odd_one kd
      have hkd := kd.toNat_lt
      clear fa fb fa' fb' hA hB hLA hLB hwA hwB
      obtain ⟨mo, hmo⟩ : ∃ k, (putDds [⟨(kd.toNat : Int), 5, ino0⟩]).length = k := ⟨_, rfl⟩
      rw [hmo] at ho
      have HMO := Lib.hid hmo
      clear hmo
      have hzI : ∀ W : World, (zeroValue 69).run Try.prog W = .ok (.agg #[.int .i64 0, .int .i64 0, .int .i64 0, .int .i64 0, .string ByteArray.empty, .slice none 0 0, .slice none 0 0]) W := fun W => by kernel_rfl
      have hzD : ∀ W : World, (zeroValue 71).run Try.prog W = .ok (.agg #[.int .i64 0, .int .i64 0, .int .i64 0, .int .i64 0, .int .i64 0, .int .i64 0, .string ByteArray.empty, .slice none 0 0, .slice none 0 0]) W := fun W => by kernel_rfl
      have HO := Lib.hid ho
      clear ho
      go_enter Try.func12, Try.ntmps12
      go_upto_region 3 with (first
        | (go_at_call 39; (with_reducible refine (law_few A na c la _ HA.out.dds HNA.out (Nat.le_trans HD.out.2.1 (by decide)) hlA).mono ?_); rintro e w1 ⟨rfl, hb1⟩; rw [HX.out])
        | (go_at_call 39; (with_reducible refine (law_few A' nb c' lb _ (HB.out.dds.below hb1) HNB.out (Nat.le_trans HD.out.2.2 (by decide)) hlB).mono ?_); rintro e w2 ⟨rfl, hb2⟩; rw [HY.out]; have hb20 := hb1.trans (hb2.mono hb1.size)))
      have hLA2 := HA.out.below hb20
      have hLB2 := HB.out.below hb20
      have hs20 := hb20.size
      have hs2 := Nat.le_refl w2.heap.size
      have hnil := OwnDds.nil w2 w2.heap.size 0
      have hl1 : ([] : List Dd).length + la.length ≤ 100000000000 := by rw [HNA.out]; simp; omega
      have hl2 : la.length + lb.length ≤ 100000000000 := by rw [HNA.out, HNB.out]; omega
      have HL1 := Lib.hid hl1
      have HL2 := Lib.hid hl2
      clear hl1 hl2
      go_upto_region 4 with (first
        | (at_builtin; refine wpList_wanted (by rfl) fun K hK => wp_append_dds _ _ rfl rfl rfl hnil hLA2 HNA.out hs20 HL1.out hs2 ?_; intro v3 w3 hown3 hg3; refine hK _ _ ?_; clear hK K; rw [List.nil_append] at hown3; obtain ⟨A3, c3, rfl, hc3, -, -⟩ := hown3.form; rw [HNA.out] at hown3 hc3 ⊢; have hb32 := below_of_grown (B := w2.heap.size) hg3 hs2 (fun k e => (hnil.lt e).1); have hLB3 := hLB2.below hb32)
        | (at_builtin; refine wpList_wanted (by rfl) fun K hK => wp_append_dds _ _ rfl rfl rfl hown3 hLB3 HNB.out hs20 HL2.out hb32.size ?_; intro v4 w4 hown4 hg4; refine hK _ _ ?_; clear hK K; have hb42 := hb32.grown hg4 hb32.size (fun k e => (hown3.lt e).1)))
      obtain ⟨A4, c4, rfl, hc4, hat4, -⟩ := hown4.form
      obtain ⟨nc, hnc⟩ : ∃ k, (la ++ lb).length = k := ⟨_, rfl⟩
      rw [hnc] at hc4 ⊢
      have hncl : nc ≤ 100000000000 := by rw [← hnc, List.length_append]; exact HL2.out
      have HNC := Lib.hid hnc
      have hb40 := hb20.trans (hb42.mono hs20)
      have hs40 := hb40.size
      clear hnc hown4 hg4 hown3 hg3 hLB3 hb32 hb42 hnil hLA2 hLB2 hb1 hb2 HX HY
      have hd : DdsAt (w4.alloc (.cells #[.int .i64 (kd.toNat : Int), .int .i64 5, .int .i64 0, .int .i64 0, .int .i64 0, .int .i64 0, .string ByteArray.empty, .slice none 0 0, .slice none 0 0] 71)) (some ⟨w4.heap.size, 0, none⟩) [⟨(kd.toNat : Int), 5, ino0⟩] := dds_lit (w := w4) [(⟨(kd.toNat : Int), 5, ino0⟩, ⟨none, 0, none, 0⟩)] (fun p hp => by simp at hp; subst hp; exact iv_nil _)
      have hba := below_alloc w4 (.cells #[.int .i64 (kd.toNat : Int), .int .i64 5, .int .i64 0, .int .i64 0, .int .i64 0, .int .i64 0, .string ByteArray.empty, .slice none 0 0, .slice none 0 0] 71)
      have D := Lib.hid (show ddsW [⟨(kd.toNat : Int), 5, ino0⟩] ≤ 4000000 by simp [ddsW, inoW, ino0, entsW])
      have K1 := Lib.hid (show [(⟨(kd.toNat : Int), 5, ino0⟩ : Dd)].length = 1 from rfl)
      go_upto_region 5 with (go_at_call 44; refine (pk_deeds _ 1 1 _ _ hd K1.out D.out HMO.out).mono ?_; rintro e w5 ⟨A5, c5, rfl, hc5, -, hb5⟩)
      have hb54 := hba.trans (hb5.mono hba.size)
      have hb50 := hb40.trans (hb54.mono hs40)
      have hatC := hat4.below hb54
      have hatA := HA.out.dds.below hb50
      have hatB := HB.out.dds.below hb50
      have hs50 := hb50.size
      have hs5 := Nat.le_refl w5.heap.size
      clear hd hba hb5 hb54 hat4 D K1 hzI hzD hs40 hb20 hs20 hb40
      obtain ⟨ma, hma⟩ : ∃ k, (putDds la).length = k := ⟨_, rfl⟩
      obtain ⟨mb, hmb⟩ : ∃ k, (putDds lb).length = k := ⟨_, rfl⟩
      obtain ⟨mc, hmc⟩ : ∃ k, (putDds (la ++ lb)).length = k := ⟨_, rfl⟩
      have HMA := Lib.hid hma
      have HMB := Lib.hid hmb
      have HMC := Lib.hid hmc
      have hmab : ma + mb = mc := by rw [← hma, ← hmb, ← hmc, putDds_append, List.length_append]
      have hla1 := putDds_le la
      have hlb1 := putDds_le lb
      rw [hma] at hla1
      rw [hmb] at hlb1
      have hma1 : ma ≤ 100000000 := Nat.le_trans hla1 (by have := HD.out.2.1; omega)
      have hmb1 : mb ≤ 100000000 := Nat.le_trans hlb1 (by have := HD.out.2.2; omega)
      have HPQ := Lib.hid (putDds_append la lb)
      have HLN := Lib.hid (show (putDds la).length + (putDds lb).length ≤ 140737488355328 by rw [hma, hmb]; omega)
      have HEQ := Lib.hid (show (putDds (la ++ lb) == putDds la ++ putDds lb) = true by rw [putDds_append]; simp)
      have HLL := Lib.hid (show mc = (putDds la ++ putDds lb).length by rw [List.length_append, hma, hmb]; exact hmab.symm)
      clear hma hmb hmc hmab hla1 hlb1
      have arms : True := trivial
      have kk : ((kd.toNat : Int) < 1 ∧ ¬ (4 : Int) < (kd.toNat : Int) ∧ mo = 1) ∨ (¬ (kd.toNat : Int) < 1 ∧ (4 : Int) < (kd.toNat : Int) ∧ mo = 1) ∨ (¬ (kd.toNat : Int) < 1 ∧ ¬ (4 : Int) < (kd.toNat : Int) ∧ mo ≠ 1) := by
        have := HO.out
        omega
      clear arms hkd
      obtain ⟨kn, hkn⟩ : ∃ k, kd.toNat = k := ⟨_, rfl⟩
      rw [hkn] at kk ⊢
      clear hkn HO HMO hcA hcB hc5
      rcases kk with ⟨k1, k2, rfl⟩ | ⟨k1, k2, rfl⟩ | ⟨k1, k2, k3⟩
      case' inr.inr => have k4 : ((mo : Int) == 1) = false := by simp; omega
      all_goals
        go_wp2_with (first
          | (go_at_call 40; refine (awake13 _).mono ?_; rintro e w6 ⟨rfl, hb6⟩; have hb60 := hb50.trans (hb6.mono hs50); have hatC6 := hatC.below hb6)
          | (go_at_call 44; (with_reducible refine (pk_deeds A4 nc c4 (la ++ lb) _ hatC6 HNC.out HD.out.1 HMC.out).mono ?_); rintro e w7 ⟨A7, c7, rfl, hc7, hown7, hb7⟩; have hb70 := hb60.trans (hb7.mono hb60.size); have hatA7 := HA.out.dds.below hb70)
          | (go_at_call 44; (with_reducible refine (pk_deeds A na c la _ hatA7 HNA.out HD.out.2.1 HMA.out).mono ?_); rintro e w8 ⟨A8, c8, rfl, hc8, hown8, hb8⟩; have hb80 := hb70.trans (hb8.mono hb70.size); have hatB8 := HB.out.dds.below hb80)
          | (go_at_call 44; (with_reducible refine (pk_deeds A' nb c' lb _ hatB8 HNB.out HD.out.2.2 HMB.out).mono ?_); rintro e w9 ⟨A9, c9, rfl, hc9, hown9, hb9⟩; have hb90 := hb80.trans (hb9.mono hb80.size); have hown89 := hown8.below hb9; have hs79 := Nat.le_trans hb8.size hb9.size)
          | (at_builtin; refine wpList_wanted (by rfl) fun K hK => wp_append_byts _ _ rfl rfl rfl hown89 hown9.read HMB.out.symm HLN.out hs79 ?_; intro v10 w10 hown10 hg10 hz10; refine hK _ _ ?_; clear hK K; have hb97 := (hb8.trans (hb9.mono hb8.size)).grown hg10 hs79 (fun k e => (hown89.lt e).1); have hb10 := hb70.trans (hb97.mono hb70.size); have hy70 := hown7.read.below hb97; obtain ⟨A10, c10, rfl, hc10, hy10, -⟩ := hown10.byts; rw [← HLL.out])
          | (go_at_call 37; refine (help_bytes _ _ _ (putDds (la ++ lb)) _ _ _ (putDds la ++ putDds lb) _ hy70 HMC.out.symm hy10 HLL.out).mono ?_; rintro e w' ⟨rfl, rfl⟩; rw [HEQ.out]))
      all_goals go_ret
      all_goals exact ⟨by first | rfl | (simp; omega) | simp [k1, k2], hb10⟩
    · have fa' : decide (ddsW la ≤ 4000) = true := by simpa using fa
      have fb' : decide (ddsW lb ≤ 4000) = false := by simpa using fb
      have HA := Lib.hid hA
      have HB := Lib.hid hB
      have HX := Lib.hid fa'
      have HY := Lib.hid fb'
      clear fa fb fa' fb' hA hB hLA hLB
      go_enter Try.func12, Try.ntmps12
      go_upto_region 2 with (first
        | (go_at_call 39; (with_reducible refine (law_few A na c la _ HA.out HNA.out hwA hlA).mono ?_); rintro e w1 ⟨rfl, hb1⟩; rw [HX.out])
        | (go_at_call 39; (with_reducible refine (law_few A' nb c' lb _ (HB.out.below hb1) HNB.out hwB hlB).mono ?_); rintro e w2 ⟨rfl, hb2⟩; rw [HY.out]; have hb20 := hb1.trans (hb2.mono hb1.size)))
      go_wp2_with (go_at_call 40; refine (awake13 _).mono ?_; rintro e w' ⟨rfl, hb'⟩)
      go_ret
      exact ⟨rfl, hb20.trans (hb'.mono hb20.size)⟩
  · have fa' : decide (ddsW la ≤ 4000) = false := by simpa using fa
    have HA := Lib.hid hA
    have HX := Lib.hid fa'
    clear fa fa' hA hB hLA hLB
    go_enter Try.func12, Try.ntmps12
    go_upto_region 2 with (go_at_call 39; refine (law_few A na c la _ HA.out HNA.out hwA hlA).mono ?_; rintro e w1 ⟨rfl, hb1⟩; rw [HX.out])
    go_wp2_with (go_at_call 40; refine (awake13 _).mono ?_; rintro e w' ⟨rfl, hb'⟩)
    go_ret
    exact ⟨rfl, hb1.trans (hb'.mono hb1.size)⟩
end Go.Proofs.Ytdieeleaaejfhaa
