/- The walk of the law FrameTorn. -/
import Derived.Test.YtcdgpioljilgeaaLawFrame3
import Derived.Test.YtcdgpioljilgeaaTornP
import Derived.Test.YtcdgpioljilgeaaKinds
import Derived.Test.YtcdgpioljilgeaaPlay
set_option linter.unusedVariables false
set_option maxRecDepth 100000
set_option linter.unusedSimpArgs false
namespace Go.Proofs.Ytcdgpioljilgeaa
open Go.RowKit

theorem info_row : (Try.prog.info? 24).map (fun i => (i.zero, i.size, i.bytes)) = some (some (.slice none 0 0), 1, 24) := by kernel_rfl
theorem addr_zero (A : Option Addr) : A.map (·.add (0 * 1)) = A := by
  cases A with
  | none => rfl
  | some a => rcases a with ⟨b, o, s⟩; cases s <;> rfl
theorem run_slice_rows (w : World) (A : Option Addr) (n c k : Nat) (h : k ≤ c) :
    (Instr.sliceAt 65 (.slice A n c) none (some (.int .i64 (k : Int))) none).run Try.prog w = .ok (.slice A k c) w := by
  obtain ⟨i0, hi0, hz0, hz1, hz2⟩ := info_parts info_row
  have e : (if c = 0 then A else A.map (·.add (0 * 1))) = A := by rw [addr_zero]; split <;> rfl
  simp [Instr.sliceAt, Instr.slice, run_underlying Try.underlying65, Instr.sliceBounds, Instr.sliceBound, sizeOf, typeInfo, hi0, hz1, asIntOf, h]
  simpa using e
theorem Rows.drewN {w : World} {A : Option Addr} {xs : List (List UInt8)} (h : Rows w A xs) (n : Nat) : Rows (w.drewN n) A xs := h.below (below_drewN (Below.refl _ _) n)
theorem Rows.take {w : World} {A : Option Addr} {xs : List (List UInt8)} (h : Rows w A xs) (k : Nat) : Rows w A (xs.take k) := fun i hi => by
  have h2 : i < xs.length := by rw [List.length_take] at hi; omega
  have := h i h2
  rw [List.getElem_take]
  exact this

set_option maxHeartbeats 16000000 in
theorem frameTorn_walk {w : World} (A : Option Addr) (c : Nat) (l : List (List UInt8)) (hcap : l.length ≤ c ∧ c ≤ maxLen) (hl : Rows w A l)
    (cut0 : Int) (wcut : (Lit.int .i64 cut0).wf = true) (at0 : Int) (wat : (Lit.int .i64 at0).wf = true) (by0 : Int) (wby : (Lit.int .u8 by0).wf = true) (bl0 : Int) (wbl : (Lit.int .i64 bl0).wf = true) :
    Calls Try.prog 8 #[.slice A l.length c, .int .i64 cut0, .int .i64 at0, .int .u8 by0, .int .i64 bl0] w fun e w' => e = .returned (.bool true) ∧ Below w.heap.size w w' := by
  obtain ⟨w0, rfl⟩ : ∃ w0 : World, w0 = w := ⟨_, rfl⟩
  have hs0 : w0.heap.size ≤ w0.heap.size := Nat.le_refl _
  obtain ⟨bk, rfl⟩ := byte_of (wf_u8 wby)
  have wcut := wf_i64 wcut
  have wat := wf_i64 wat
  have wbl := wf_i64 wbl
  clear wby
  unfold maxLen at hcap
  go_enter Try.func8, Try.ntmps8
  go_upto_region 3 with fail
  go_upto_block 0 with fail
  go_cut [11, 12] (fun v11 v12 w' => ∃ (N : Nat) (X : List UInt8), N ≤ l.length ∧ N ≤ 10 ∧ Hid (X = ((l.take N).map recL).flatten) ∧ X.length ≤ 207 * N ∧ Hid (∀ y ∈ l.take N, y.length ≤ 200) ∧ Own w' w0.heap.size v11 X ∧ kInt.Own w' w0.heap.size v12 (endsL (l.take N)) ∧ Below w0.heap.size w0 w')
  case first =>
    go_upto_region 4 with fail
    go_loopw [11, 12, 13] (fun v11 v12 v13 wr => ∃ (i : Nat) (X : List UInt8), i ≤ l.length ∧ i ≤ 10 ∧ v13 = .int .i64 (i : Int) ∧ Hid (X = ((l.take i).map recL).flatten) ∧ X.length ≤ 207 * i ∧ Hid (∀ y ∈ l.take i, y.length ≤ 200) ∧ Own wr w0.heap.size v11 X ∧ kInt.Own wr w0.heap.size v12 (endsL (l.take i)) ∧ (∀ g, v12.ownBlock = some g → v11.ownBlock ≠ some g) ∧ Below w0.heap.size w0 wr) (fun _ _ v13 _ => 10 - (intOf v13).toNat)
    case atStart => exact ⟨0, [], Nat.zero_le _, Nat.zero_le _, rfl, rfl, Nat.zero_le _, (fun y hy => by simp at hy), Own.nil _ _, Kind.Own.nil _ _, (fun g h => by cases h), Below.refl _ _⟩
    case round =>
      obtain ⟨i, X, hia, hi8, rfl, HX, hXl, HA, hown, hends, hap, hbel⟩ := hrel
      obtain ⟨A7, c7, rfl, hc7, hy7, hA7⟩ := hown.byts
      go_upto_region 4 with fail
      go_cut [36] (fun v36 w' => v36 = .bool (decide (i < l.length ∧ i < 10)) ∧ w' = wr)
      case first =>
        by_cases g1 : i < l.length
        · have g1i : (i : Int) < (l.length : Int) := by omega
          by_cases g2 : i < 10
          · have g2i : (i : Int) < 10 := by omega
            have E := Lib.hid (show decide (i < l.length ∧ i < 10) = true from decide_eq_true ⟨g1, g2⟩)
            go_wp2_with fail
            go_meet
            exact ⟨by rw [E.out], rfl⟩
          · have g2i : ¬ (i : Int) < 10 := by omega
            have E := Lib.hid (show decide (i < l.length ∧ i < 10) = false from decide_eq_false (by omega))
            go_wp2_with fail
            go_meet
            exact ⟨by rw [E.out], rfl⟩
        · have g1i : ¬ (i : Int) < (l.length : Int) := by omega
          have E := Lib.hid (show decide (i < l.length ∧ i < 10) = false from decide_eq_false (by omega))
          go_wp2_with fail
          go_meet
          exact ⟨by rw [E.out], rfl⟩
      case rest =>
      obtain ⟨rfl, hw'⟩ := hcut
      subst hw'
      by_cases hgo : i < l.length ∧ i < 10
      · rw [decide_eq_true hgo]
        obtain ⟨h1, h2⟩ := hgo
        obtain ⟨g, o, B1, cB, rfl, hcell, hyb⟩ := (hl.below hbel) i h1
        have hsn : l.take (i + 1) = l.take i ++ [l[i]] := by rw [List.take_succ_eq_append_getElem h1]
        have HSN := Lib.hid hsn
        clear hsn
        generalize l[i] = y at *
        obtain ⟨m, hm⟩ : ∃ m, y.length = m := ⟨_, rfl⟩
        rw [hm] at hcell
        have HM := Lib.hid hm
        clear hm
        by_cases h150 : 200 < m
        · go_wp2_with (go_at_call 43; refine (awake07 _).mono ?_; rintro e w2 ⟨rfl, hb2⟩)
          go_ret
          exact ⟨rfl, hbel.trans (hb2.mono (hbel).size)⟩
        · have hs1 := hbel.size
          have hX2 : X ++ recL y = ((l.take (i + 1)).map recL).flatten := by rw [HSN.out, HX.out]; simp
          have HA2 := Lib.hid (show ∀ z ∈ l.take (i + 1), z.length ≤ 200 from fun z hz => by
            rw [HSN.out, List.mem_append] at hz
            rcases hz with hz | hz
            · exact HA.out z hz
            · simp at hz; rw [hz, HM.out]; omega)
          have hrl : (recL y).length = m + 7 := by rw [recL_length, HM.out]
          have HRL := Lib.hid hrl
          have hXX : (X ++ recL y).length = X.length + (m + 7) := by rw [List.length_append, hrl]
          have hEE : endsL (l.take (i + 1)) = endsL (l.take i) ++ [((X ++ recL y).length : Int)] := by
            rw [HSN.out, endsL_snoc, ← endF_flat, ← HSN.out, ← hX2]
          have HX2 := Lib.hid hX2
          obtain ⟨X2, hXX2⟩ : ∃ X2, X ++ recL y = X2 := ⟨_, rfl⟩
          have HXX2 := Lib.hid hXX2
          rw [hXX2] at hXX hEE
          have HEE := Lib.hid hEE
          obtain ⟨n2, hn2⟩ : ∃ n2, X2.length = n2 := ⟨_, rfl⟩
          have HN2 := Lib.hid hn2
          have hn2b : n2 ≤ 207 * (i + 1) := by omega
          clear hrl hXX hEE hX2 hXX2 hn2
          go_upto_region 9 with (first
            | (go_at_call 50; refine (law07_record _ m _ y _ hyb HM.out (by omega)).mono ?_; rintro e w1 ⟨A1, c1, rfl, hc1, -, hy1, -, hb1⟩; have hown1 := hown.below hb1; have hends1 := hends.below hb1)
            | (at_builtin; refine wpList_wanted (by rfl) fun K hK => wp_append_byts _ _ rfl rfl rfl hown1 hy1 HRL.out.symm (by rw [HRL.out]; omega) (Nat.le_trans hs1 hb1.size) ?_; intro v2 w2 hown2 hg2 hv2; refine hK _ _ ?_; clear hK K; rw [HXX2.out] at hown2))
          have hbel2 := (hbel.trans (hb1.mono hs1)).grown hg2 (Nat.le_trans hs1 hb1.size) (fun k e => (hown1.lt e).1)
          have hends2 := hends1.grown hg2 (by
            cases hv : u12.ownBlock with
            | none => exact Or.inl rfl
            | some q => exact Or.inr fun e => hap q hv e.symm)
          have hap2 : ∀ g, u12.ownBlock = some g → v2.ownBlock ≠ some g := fun q hq e => by
            rcases hv2 with hv2 | hv2
            · exact hap q hq (hv2 ▸ e)
            · rw [hv2] at e
              have := (hends1.lt hq).2
              cases e
              omega
          obtain ⟨A2, c2, rfl, hc2, hy2, hA2⟩ := hown2.byts
          rw [HN2.out] at hown2 hc2 hap2 ⊢
          clear hown hown1 hb1 hg2 hy7 hy1 hyb hcell hv2 hends hends1 hap
          have hs2 := hbel2.size
          have hownA := hown2.alloc (.cells #[.int .i64 (n2 : Int)] 3)
          have hendsA := hends2.alloc (.cells #[.int .i64 (n2 : Int)] 3)
          have hbelA := hbel2.alloc hs2 (.cells #[.int .i64 (n2 : Int)] 3)
          have hcA : ∀ j u, (kInt.enc (n2 : Int))[j]? = some u → (w2.alloc (.cells #[.int .i64 (n2 : Int)] 3)).cell? ⟨w2.heap.size, 0 + j, none⟩ = some u := fun j u hu => by
            rw [Nat.zero_add]
            exact (Blk.new w2 [.int .i64 (n2 : Int)] 3).cell j u hu
          have hsA := hbelA.size
          have hlenA : ((endsL (l.take i)).length + 1) * kInt.bytes ≤ 140737488355328 := by
            rw [endsL_length, List.length_take]
            show _ * 8 ≤ _
            omega
          have hlenB : (endsL (l.take i)).length + 1 ≤ 9223372036854775807 := by
            rw [endsL_length, List.length_take]
            omega
          go_wp2_with (at_builtin; refine wpList_wanted (by rfl) fun K hK => wp_append_el kInt _ _ rfl rfl rfl hendsA hcA hlenA hlenB hsA ?_; intro v3 w3 hends3 hg3 hv3; refine hK _ _ ?_; clear hK K)
          have hbel3 := hbelA.grown hg3 hsA (fun k e => (hendsA.lt e).1)
          have HEE2 := HEE.out
          rw [HN2.out] at HEE2
          rw [← HEE2] at hends3
          have hown3 := hownA.grown hg3 (by
            cases hv : (Value.slice A2 n2 c2).ownBlock with
            | none => exact Or.inl rfl
            | some q => exact Or.inr fun e => hap2 q e.symm hv)
          have hap3 : ∀ g, v3.ownBlock = some g → (Value.slice A2 n2 c2).ownBlock ≠ some g := fun q hq e => by
            rcases hv3 with hv3 | hv3
            · exact hap2 q (hv3 ▸ hq) e
            · rw [hv3] at hq
              have := (hownA.lt e).2
              cases hq
              omega
          clear hends2 hap2 hown2 hbel2 hownA hendsA hbelA hcA hg3 hv3 hA2 hA7
          go_wp2_with fail
          go_roundw
          case rel => exact ⟨i + 1, X2, by omega, by omega, by go_num, by rw [← HXX2.out]; exact HX2.out, by rw [HN2.out]; exact hn2b, HA2.out, hown3, hends3, hap3, hbel3⟩
          case measure => simp [intOf]; omega
      · rw [decide_eq_false hgo]
        go_wp2_with fail
        go_meet
        exact ⟨i, X, hia, hi8, HX, hXl, HA, hown, hends, hbel⟩
  case rest =>
    obtain ⟨N, X, hN1, hN2, HX, hXl, HA, hown, hends, hbel⟩ := hcut
    have HT := Lib.hid (show (∀ k, k ≤ N → l.take k = (l.take N).take k) ∧ (l.take N).length = N from ⟨fun k hk => by rw [List.take_take, Nat.min_eq_left hk], by rw [List.length_take]; omega⟩)
    generalize l.take N = xs at *
    obtain ⟨A11, c11, rfl, hc11, hy11, hA11⟩ := hown.byts
    obtain ⟨A12, c12, rfl, hc12, hat12, hA12⟩ := hends.read
    have hi12 := kInt_ints hat12
    rw [endsL_length, HT.out.2] at hc12 ⊢
    obtain ⟨nx, hnx⟩ : ∃ nx, X.length = nx := ⟨_, rfl⟩
    rw [hnx] at hc11 hXl ⊢
    have HNX := Lib.hid hnx
    have hnx2 : nx ≤ 2070 := by omega
    clear hown hends hnx hat12 hA11 hA12 hXl
    by_cases h0 : nx = 0
    · subst h0
      go_upto_region 11 with (go_at_call 43; refine (awake07 _).mono ?_; rintro e w1 ⟨rfl, hb1⟩)
      go_wp2_with (go_at_call 43; refine (awake07 _).mono ?_; rintro e w2 ⟨rfl, hb2⟩)
      go_ret
      exact ⟨rfl, (hbel.trans (hb1.mono hbel.size)).trans (hb2.mono (hbel.trans (hb1.mono hbel.size)).size)⟩
    have hn0 : ((nx : Int) == 0) = false := by simpa using h0
    have hp0 : (0 : Int) < (nx : Int) := by omega
    obtain ⟨hC1, hC2⟩ := pmod_is cut0 (nx + 1) (by omega) (by omega)
    obtain ⟨hT1, hT2⟩ := pmod_is at0 nx (by omega) (by omega)
    rw [show ((nx + 1 : Nat) : Int) = (nx : Int) + 1 from rfl] at hC1
    generalize pmod cut0 (nx + 1) = ct at *
    generalize pmod at0 nx = at' at *
    have HC1 := Lib.hid hC1
    have HT1 := Lib.hid hT1
    clear hC1 hT1
    go_upto_region 12 with (go_at_call 43; refine (awake07 _).mono ?_; rintro e w1 ⟨rfl, hb1⟩)
    go_region
    rw [HC1.out, HT1.out]
    have hbel2 := (hbel.trans (hb1.mono hbel.size)).drew
    have hy2 : Byts w1.drew A11 X := (hy11.below hb1).below (Below.refl _ _).drew
    have hi2 : Ints w1.drew A12 (endsL xs) := (hi12.below hb1).below (Below.refl _ _).drew
    clear hbel hb1 hy11 hi12 HC1 HT1 hs0
    generalize w1.drew = w2 at *
    go_upto_block 2 with fail
    go_cut [14, 15, 16, 17] (fun v14 v15 v16 v17 w' => ∃ k s : Nat, k ≤ N ∧ s ≤ N ∧ v14 = .int .i64 (k : Int) ∧ v15 = .int .i64 (endF (xs.take k) : Int) ∧ v16 = .int .i64 (s : Int) ∧ v17 = .int .i64 (endF (xs.take s) : Int) ∧ Hid (UptoF xs k N ct) ∧ Hid (UptoF xs s N at') ∧ Below w2.heap.size w2 w')
    case first =>
      go_upto_region 15 with fail
      go_loopw [14, 15, 16, 17, 18] (fun v14 v15 v16 v17 v18 wr => ∃ i k s : Nat, i ≤ N ∧ v18 = .int .i64 (i : Int) ∧ k ≤ i ∧ s ≤ i ∧ v14 = .int .i64 (k : Int) ∧ v15 = .int .i64 (endF (xs.take k) : Int) ∧ v16 = .int .i64 (s : Int) ∧ v17 = .int .i64 (endF (xs.take s) : Int) ∧ Hid (UptoF xs k i ct) ∧ Hid (UptoF xs s i at') ∧ Below w2.heap.size w2 wr) (fun _ _ _ _ v18 _ => 10 - (intOf v18).toNat)
      case atStart => exact ⟨0, 0, 0, Nat.zero_le _, rfl, Nat.le_refl _, Nat.le_refl _, rfl, rfl, rfl, rfl, UptoF.zero _ _, UptoF.zero _ _, Below.refl _ _⟩
      case round =>
        obtain ⟨i, k, s, hiN, rfl, hki, hsi, rfl, rfl, rfl, rfl, HK, HS, hbr⟩ := hrel
        by_cases hlt : i < N
        · obtain ⟨b, off, rfl, hc⟩ := hi2.at (k := i) (by rw [endsL_length, HT.out.2]; exact hlt)
          have hc' : w2.cell? ⟨b, off + i, none⟩ = some (.int .i64 (endF (xs.take (i + 1)) : Int)) := by
            rw [hc]
            have := endsL_get xs i (by rw [HT.out.2]; exact hlt)
            rw [List.getElem?_eq_getElem (by rw [endsL_length, HT.out.2]; exact hlt)] at this
            injection this with this
            rw [this]
          have hcr := (hbr.cell (World.block_lt_of_cell? w2 _ hc')).trans hc'
          have hcrd : wr.drew.cell? ⟨b, off + i, none⟩ = some (.int .i64 (endF (xs.take (i + 1)) : Int)) := hcr
          clear hc hc'
          obtain ⟨e, he⟩ : ∃ e, endF (xs.take (i + 1)) = e := ⟨_, rfl⟩
          obtain ⟨ek, hek⟩ : ∃ e, endF (xs.take k) = e := ⟨_, rfl⟩
          obtain ⟨es, hes⟩ : ∃ e, endF (xs.take s) = e := ⟨_, rfl⟩
          rw [he] at hcr hcrd
          rw [hek, hes]
          have HE := Lib.hid he
          have HEK := Lib.hid hek
          have HES := Lib.hid hes
          clear he hek hes
          have hltI : (i : Int) < (N : Int) := by omega
          by_cases a1 : e ≤ ct
          · have a1I : (e : Int) ≤ (ct : Int) := by omega
            by_cases a2 : e ≤ at'
            · have a2I : (e : Int) ≤ (at' : Int) := by omega
              go_upto_region 18 with fail
              go_region
              go_upto_region 20 with fail
              go_region
              go_wp2_with fail
              go_roundw
              case rel => exact ⟨i + 1, i + 1, i + 1, by omega, by go_num, Nat.le_refl _, Nat.le_refl _, by go_num, by rw [HE.out], by go_num, by rw [HE.out], UptoF.yes (by rw [HE.out]; exact a1), UptoF.yes (by rw [HE.out]; exact a2), hbr.drew.drew⟩
              case measure => simp [intOf]; omega
            · have a2I : ¬ (e : Int) ≤ (at' : Int) := by omega
              go_upto_region 18 with fail
              go_region
              go_wp2_with fail
              go_roundw
              case rel => exact ⟨i + 1, i + 1, s, by omega, by go_num, Nat.le_refl _, by omega, by go_num, by rw [HE.out], rfl, by rw [HES.out], UptoF.yes (by rw [HE.out]; exact a1), HS.out.no (by rw [HE.out]; omega), hbr.drew⟩
              case measure => simp [intOf]; omega
          · have a1I : ¬ (e : Int) ≤ (ct : Int) := by omega
            by_cases a2 : e ≤ at'
            · have a2I : (e : Int) ≤ (at' : Int) := by omega
              go_upto_region 20 with fail
              go_region
              go_wp2_with fail
              go_roundw
              case rel => exact ⟨i + 1, k, i + 1, by omega, by go_num, by omega, Nat.le_refl _, rfl, by rw [HEK.out], by go_num, by rw [HE.out], HK.out.no (by rw [HE.out]; omega), UptoF.yes (by rw [HE.out]; exact a2), hbr.drew⟩
              case measure => simp [intOf]; omega
            · have a2I : ¬ (e : Int) ≤ (at' : Int) := by omega
              go_wp2_with fail
              go_roundw
              case rel => exact ⟨i + 1, k, s, by omega, by go_num, by omega, by omega, rfl, by rw [HEK.out], rfl, by rw [HES.out], HK.out.no (by rw [HE.out]; omega), HS.out.no (by rw [HE.out]; omega), hbr⟩
              case measure => simp [intOf]; omega
        · obtain rfl : i = N := by omega
          go_wp2_with fail
          go_meet
          exact ⟨k, s, hki, hsi, rfl, rfl, rfl, rfl, HK, HS, hbr⟩
    case rest =>
      obtain ⟨k, s, hkN, hsN, rfl, rfl, rfl, rfl, HK, HS, hb3⟩ := hcut
      have hb30 := hbel2.trans (hb3.mono hbel2.size)
      have hy3 := hy2.below hb3
      clear hb3 hbel2 hi2 hy2
      obtain ⟨w3, rfl⟩ : ∃ w3, w3 = wc := ⟨_, rfl⟩
      have HXT := Lib.hid (show ((X.take ct).drop 0).length = ct by rw [List.drop_zero, List.length_take, HNX.out]; omega)
      have hs3 := Nat.le_refl w3.heap.size
      go_upto_region 22 with (first
        | (refine wpList_wanted (by rfl) fun K hK => wp_slice_byts _ _ _ rfl 0 ct rfl (Or.inl ⟨rfl, rfl⟩) (Or.inr ⟨_, _, rfl, rfl⟩) (Nat.zero_le _) (by omega) ?_; intro A13 e1 e2 e3; have hm3 := e1 _ _ hy3 (by rw [HNX.out]; omega) (by rw [HNX.out]; omega); refine hK _ _ ?_; clear e1 e2 e3 hK K; (try simp only [Nat.sub_zero]))
        | (at_builtin; refine wpList_wanted (by rfl) fun K hK => wp_clone_byts _ rfl rfl hm3 HXT.out.symm (by rw [HXT.out]; omega) hs3 ?_; intro v4 w4 hown4 hb4 hz4; refine hK _ _ ?_; clear hK K))
      rw [List.drop_zero] at hown4
      clear hm3 hz4
      obtain ⟨hB1, hB2⟩ := pmod_is bl0 50 (by omega) (by omega)
      generalize pmod bl0 50 = bl at *
      have HB1 : Hid (wrap64 ((IntKind.u64.wrap bl0).tmod 50) = (bl : Int)) := hB1
      clear hB1
      go_upto_block 4 with fail
      go_cut [19] (fun v19 w' => Own w' w3.heap.size v19 (X.take ct ++ ffs bl) ∧ Below w3.heap.size w3 w')
      case first =>
        go_upto_region 23 with fail
        go_loopw [19, 20] (fun v19 v20 wr => ∃ i : Nat, i ≤ bl ∧ v20 = .int .i64 (i : Int) ∧ Own wr w3.heap.size v19 (X.take ct ++ ffs i) ∧ Below w3.heap.size w3 wr) (fun _ v20 _ => 50 - (intOf v20).toNat)
        case atStart => exact ⟨0, Nat.zero_le _, rfl, by rw [show ffs 0 = [] from rfl, List.append_nil]; exact hown4, hb4⟩
        case round =>
          obtain ⟨i, hib, rfl, hown, hbr⟩ := hrel
          by_cases hlt : i < bl
          · have hltI : (i : Int) < wrap64 ((IntKind.u64.wrap bl0).tmod 50) := by rw [HB1.out]; omega
            have hs4 : w3.heap.size ≤ wr.heap.size := hbr.size
            have o2 := byts_cells' wr [255] (0, 0)
            have hownA := hown.alloc (.cells #[.int .u8 255] 5)
            have hzA : w3.heap.size ≤ (wr.alloc (.cells #[.int .u8 255] 5)).heap.size := by rw [World.size_alloc]; omega
            have hla : (X.take ct ++ ffs i).length + [(255 : UInt8)].length ≤ 140737488355328 := by rw [List.length_append, ffs_length, List.length_take]; simp; omega
            have hbA := hbr.alloc (by omega) (.cells #[.int .u8 255] 5)
            go_wp2_with (at_builtin; refine wpList_wanted (by rfl) fun K hK => wp_append_byts _ _ rfl rfl rfl hownA o2 rfl hla hzA ?_; intro v2 w2' hown2 hg2 hv2; refine hK _ _ ?_; clear hK K)
            have hb2 := hbA.grown hg2 hzA (fun k e => (hownA.lt e).1)
            go_roundw
            case rel => exact ⟨i + 1, by omega, by go_num, by rw [show ffs (i + 1) = ffs i ++ [255] from List.replicate_succ', ← List.append_assoc]; exact hown2, hb2⟩
            case measure => simp [intOf]; omega
          · obtain rfl : i = bl := by omega
            have hltI : ¬ (i : Int) < wrap64 ((IntKind.u64.wrap bl0).tmod 50) := by rw [HB1.out]; omega
            go_wp2_with fail
            go_meet
            exact ⟨hown, hbr⟩
      case rest =>
        obtain ⟨hown5, hb5⟩ := hcut
        obtain ⟨A19, c19, rfl, hc19, hy19, -⟩ := hown5.byts
        have hb50 := hb30.trans (hb5.mono hb30.size)
        have hy5 := hy3.below hb5
        have hlen5 : (X.take ct ++ ffs bl).length = ct + bl := by rw [List.length_append, ffs_length, List.length_take, HNX.out]; omega
        rw [hlen5] at hc19 ⊢
        have HL5 := Lib.hid hlen5
        have hA65 : ∀ y ∈ xs, y.length ≤ 65000 := fun y hy => by have := HA.out y hy; omega
        have HP := Lib.hid (recs_torn xs X HX.out hA65 k ct bl (by rw [HT.out.2]; exact hkN) HK.out.1 (fun h => HK.out.2 (k + 1) (Nat.lt_succ_self _) (by rw [HT.out.2] at h; omega)) (by rw [HNX.out]; omega))
        have HLK := Lib.hid (show (xs.take k).length = k by rw [List.length_take, HT.out.2]; omega)
        have HLS := Lib.hid (show (xs.take s).length = s by rw [List.length_take, HT.out.2]; omega)
        have HQ : Hid (∀ v : UInt8, X[at']? ≠ some v → endF (xs.take s) + 2 ≤ at' → recsF (X.set at' v) = xs.take s ∧ endF (recsF (X.set at' v)) = endF (xs.take s)) := fun v hv h2 => by
          have h3 : endF xs = nx := by rw [← HNX.out, HX.out, endF_flat]
          have h4 : s < xs.length := by
            rw [HT.out.2]
            by_cases e : s = N
            · subst e
              have h5 : xs.take s = xs := by rw [← HT.out.2]; exact List.take_length
              rw [h5] at h2
              omega
            · omega
          exact recs_spoilt xs X HX.out hA65 s at' h4 h2 (HS.out.2 (s + 1) (Nat.lt_succ_self _) (by rw [HT.out.2] at h4; omega)) v hv
        have hek : endF (xs.take k) ≤ ct := HK.out.1
        have hes : endF (xs.take s) ≤ at' := HS.out.1
        clear hown5 hlen5 hA65 HK HS hown4 hb4 hb5 hb30 hy3 hs3
        obtain ⟨ek, HEK⟩ : ∃ e, Hid (endF (xs.take k) = e) := ⟨_, rfl⟩
        obtain ⟨es, HES⟩ : ∃ e, Hid (endF (xs.take s) = e) := ⟨_, rfl⟩
        rw [HEK.out] at hek HP ⊢
        rw [HES.out] at hes HQ ⊢
        go_upto_region 27 with (go_at_call 46; refine (frame_scan A19 (ct + bl) c19 (X.take ct ++ ffs bl) _ hy19 HL5.out hc19.1 hc19.2 (by omega)).mono ?_; rintro e w6 ⟨A21, c21, rfl, hc21, hr21, hA21, hb6⟩; rw [HP.out.2.1])
        rw [HP.out.1] at hr21 hc21 ⊢
        rw [HLK.out] at hc21 ⊢
        have hb60 := hb50.trans (hb6.mono hb50.size)
        have hy6 := hy5.below hb6
        have HC21 : Hid (ek = ct → cleanF (X.take ct ++ ffs bl) = true) := HP.out.2.2
        clear hb6 hb50 hy5 hy19 hA21 HP
        generalize cleanF (X.take ct ++ ffs bl) = cl at *
        have hs6 := Nat.le_refl w6.heap.size
        go_upto_region 28 with (at_builtin; refine wpList_wanted (by rfl) fun K hK => wp_clone_byts _ rfl rfl hy6 HNX.out.symm (by rw [HNX.out]; omega) hs6 ?_; intro v7 w7 hown7 hb7 hz7; refine hK _ _ ?_; clear hK K)
        obtain ⟨g, c24, rfl, hc24, hg1, hg2, hcell, hfrz⟩ := hown7.form (by rw [HNX.out]; omega)
        rw [HNX.out] at hc24 hown7 ⊢
        have hat : at' < X.length := by rw [HNX.out]; exact hT2
        have hci := hcell at' hat
        have hf := hfrz at'
        have hxor := xor_u8 X[at'] bk
        have hset := hown7.set at' (X[at'] ^^^ bk)
        have hbs := hb7.setCell (p := ⟨g, at', none⟩) hg1 (.int .u8 ((X[at'] ^^^ bk).toNat : Int))
        have hxx : X[at']? = some X[at'] := List.getElem?_eq_getElem hat
        have HXX := Lib.hid hxx
        have HSB := Lib.hid (And.intro hset hbs)
        clear hcell hfrz hown7 hset hbs hxx hz7 hy6
        generalize X[at'] = xv at *
        obtain ⟨xn, HXN⟩ : ∃ y, Hid (xv ^^^ bk = y) := ⟨_, rfl⟩
        rw [HXN.out] at hxor HSB
        have hT2I : (at' : Int) < (nx : Int) := by omega
        have hs7 : w6.heap.size ≤ w7.heap.size := hb7.size
        clear hb7 hat
        go_upto_region 29 with fail
        have hset := HSB.out.1
        have hb70 := hb60.trans (HSB.out.2.mono hb60.size)
        have hr218 := hr21.below HSB.out.2
        have hs8 := hb70.size
        clear hb60 hr21 hci hf hxor HSB
        have HYL := Lib.hid (show (X.set at' xn).length = nx by rw [List.length_set]; exact HNX.out)
        have hy24 := hset.read
        have hc24' : c24 ≤ maxLen := hc24.2
        generalize w7.setCell ⟨g, at', none⟩ (.int .u8 (xn.toNat : Int)) = w8 at *
        go_upto_region 30 with (go_at_call 46; refine (frame_scan _ nx c24 (X.set at' xn) _ hy24 HYL.out hc24.1 hc24.2 (by omega)).mono ?_; rintro e w9 ⟨A25, c25, rfl, hc25, hr25, -, hb9⟩)
        have hb90 := hb70.trans (hb9.mono hs8)
        have hr219 := hr218.below hb9
        have hrl := hl.below hb90
        have HF : Hid (bk ≠ 0 → es + 2 ≤ at' → recsF (X.set at' xn) = xs.take s ∧ endF (recsF (X.set at' xn)) = es) := fun hb h2 => HQ.out xn (fun h => hb (by
          rw [HXX.out] at h
          injection h with h
          rw [← HXN.out] at h
          have h9 : xv ^^^ xv = xv ^^^ (xv ^^^ bk) := congrArg (xv ^^^ ·) h
          rw [← UInt8.xor_assoc, UInt8.xor_self, UInt8.zero_xor] at h9
          exact h9.symm)) h2
        have hq1 : recsF (X.set at' xn) = recsF (X.set at' xn) := rfl
        clear hb9 hr218 hb70 hset hy24 HQ HXX HXN
        go_cut [28] (fun v28 w' => v28 = .bool true ∧ ∃ m, w' = w9.drewN m)
        case first =>
          generalize cleanF (X.set at' xn) = cy at *
          generalize recsF (X.set at' xn) = rs at *
          by_cases hb0 : bk = 0
          · subst hb0
            generalize endF rs = ey at *
            go_wp2_with fail
            go_meet
            exact ⟨rfl, 0, rfl⟩
          · have hb0I : (((bk.toNat : Nat) : Int) == 0) = false := by
              have : bk.toNat ≠ 0 := fun h => hb0 (UInt8.toNat_inj.1 h)
              simpa using this
            by_cases h2 : es + 2 ≤ at'
            · have h2I : ¬ ((at' : Int) - (es : Int) < 2) := by omega
              obtain ⟨e1, e2⟩ := HF.out hb0 h2
              have q2 : ((endF rs : Int) == (es : Int)) = true := by rw [e2]; simp
              have E1 := Lib.hid e1
              have hrl9 : rs.length ≤ 1000000000 := by rw [e1, HLS.out]; omega
              clear e1 e2
              have hsl := fun W => run_slice_rows W A l.length c s (by omega)
              have hrs : Rows w9 A (xs.take s) := by rw [← HT.out.1 s hsN]; exact hrl.take s
              go_wp2_with (go_at_call 48; refine (same_rows A25 rs.length c25 rs A s c (xs.take s) _ hr25 rfl hrs HLS.out hrl9 (by omega)).mono ?_; rintro e w10 ⟨rfl, m10, rfl⟩; rw [decide_eq_true E1.out])
              go_meet
              exact ⟨rfl, m10, rfl⟩
            · have h2I : (at' : Int) - (es : Int) < 2 := by omega
              generalize endF rs = ey at *
              go_wp2_with fail
              go_meet
              exact ⟨rfl, 0, rfl⟩
        case rest =>
        obtain ⟨rfl, m, rfl⟩ := hcut
        have hr21m := hr219.drewN m
        have hrlm := hrl.drewN m
        have hb9m := below_drewN hb90 m
        have hrk : Rows (w9.drewN m) A (xs.take k) := by rw [← HT.out.1 k hkN]; exact hrlm.take k
        have hsl := fun W => run_slice_rows W A l.length c k (by omega)
        have q2 : ((ek : Int) == (ek : Int)) = true := by simp
        clear hr219 hrl hb90 hr25 HF hq1
        generalize w9.drewN m = wf at *
        generalize recsF (X.set at' xn) = rs at *
        generalize cleanF (X.set at' xn) = cy at *
        by_cases hlt : ek < ct
        · have hltI : (ek : Int) < (ct : Int) := by omega
          go_wp2_with (go_at_call 48; refine (same_rows A21 k c21 (xs.take k) A k c (xs.take k) _ hr21m HLK.out hrk HLK.out (by omega) (by omega)).mono ?_; rintro e w10 ⟨rfl, m10, rfl⟩; rw [decide_eq_true (rfl : xs.take k = xs.take k)])
          go_ret
          exact ⟨rfl, below_drewN hb9m _⟩
        · have hltI : ¬ (ek : Int) < (ct : Int) := by omega
          obtain rfl : cl = true := HC21.out (by omega)
          go_wp2_with (go_at_call 48; refine (same_rows A21 k c21 (xs.take k) A k c (xs.take k) _ hr21m HLK.out hrk HLK.out (by omega) (by omega)).mono ?_; rintro e w10 ⟨rfl, m10, rfl⟩; rw [decide_eq_true (rfl : xs.take k = xs.take k)])
          go_ret
          exact ⟨rfl, below_drewN hb9m _⟩
end Go.Proofs.Ytcdgpioljilgeaa
