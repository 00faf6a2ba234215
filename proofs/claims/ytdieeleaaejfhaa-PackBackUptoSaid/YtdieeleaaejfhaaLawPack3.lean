/- The walk of PackBack: deeds that have what their kind has alone, packed and parsed; cut; a byte behind. -/
import Derived.Test.YtdieeleaaejfhaaPackC
set_option linter.unusedVariables false
set_option maxRecDepth 100000
set_option linter.unusedSimpArgs false
namespace Go.Proofs.Ytdieeleaaejfhaa
open Go.RowKit

theorem cleanDs_w (l : List Dd) : ddsW (l.map cleanD) ≤ ddsW l := by
  induction l with
  | nil => exact Nat.le_refl _
  | cons d l ih =>
    have := cleanD_w d
    rw [List.map_cons, ddsW_cons, ddsW_cons]
    omega
theorem cleanDs_ok {l : List Dd} (h : ∀ d ∈ l, DdIn d) (hw : ddsW l ≤ 20000000) : ∀ d ∈ l.map cleanD, DdOk d := fun d hd => by
  obtain ⟨x, hx, rfl⟩ := List.mem_map.1 hd
  exact cleanD_ok (h x hx) (Nat.le_trans (inoW_le_ddsW hx) hw)
theorem dds_sizes {l : List Dd} (hw : ddsW l ≤ 20000000) : ∀ d ∈ l, d.ino.ents.length ≤ 1000000000000 ∧ d.ino.runs.length ≤ 1000000000000 := fun d hd => by
  have h1 := inoW_le_ddsW hd
  have h2 := entsW_ge d.ino.ents
  unfold inoW at h1
  omega

theorem byts_lit1 (w : World) (k : UInt8) : Byts (w.alloc (.cells #[.int .u8 (k.toNat : Int)] 5)) (some ⟨w.heap.size, 0, none⟩) [k] := by
  have h := cells_alloc w (cellsB [k]) 5 (0, 0)
  refine Or.inr ⟨w.heap.size, 0, rfl, fun i hi => ?_⟩
  have hi0 : i = 0 := by simpa using hi
  subst hi0
  exact h 0 _ rfl
theorem run_slice_dds (w : World) (A : Option Addr) (n c k : Nat) (h : k ≤ c) :
    (Instr.sliceAt 59 (.slice A n c) none (some (.int .i64 (k : Int))) none).run Try.prog w = .ok (.slice A k c) w := by
  obtain ⟨i0, hi0, hz0, hz1, hz2⟩ := info_parts kDd.hinfo
  have hi1 : Try.prog.info? 71 = some i0 := hi0
  have hz3 : i0.size = 9 := hz1
  have e : (if c = 0 then A else A.map (·.add (0 * 9))) = A := by
    cases A with
    | none => simp
    | some a => rcases a with ⟨b, o, sp⟩; simp [Addr.add]
  simp [Instr.sliceAt, Instr.slice, run_underlying Try.underlying59, Instr.sliceBounds, Instr.sliceBound, sizeOf, typeInfo, hi1, hz3, asIntOf, h]
  simpa using e
set_option maxHeartbeats 4000000 in
theorem packBack_walk {w : World} (A : Option Addr) (c : Nat) (la : List Dd) (hcA : la.length ≤ c ∧ c ≤ maxLen) (hA : DdsAt w A la) (hiA : ∀ d ∈ la, DdIn d) (hwA : ddsW la ≤ 20000000) (hlA : la.length ≤ 20000000) (ct : Int) (wc : (Lit.int .i64 ct).wf = true) (kd : Int) (wk : (Lit.int .u8 kd).wf = true) :
    Calls Try.prog 11 #[.slice A la.length c, .int .i64 ct, .int .u8 kd] w fun e w' => e = .returned (.bool true) ∧ Below w.heap.size w w' := by
  obtain ⟨w0, rfl⟩ : ∃ w0 : World, w0 = w := ⟨_, rfl⟩
  have hs0 := Nat.le_refl w0.heap.size
  obtain ⟨kd, rfl⟩ := byte_of (wf_u8 wk)
  have bc := wf_i64 wc
  clear wk wc
  obtain ⟨n, hn⟩ : ∃ k, la.length = k := ⟨_, rfl⟩
  rw [hn] at hcA hlA ⊢
  have HN := Lib.hid hn
  clear hn
  have hLA := hA.lo
  by_cases fa : ddsW la ≤ 4000
  case neg =>
    have fa' : decide (ddsW la ≤ 4000) = false := by simpa using fa
    have HA := Lib.hid hA
    have HX := Lib.hid fa'
    clear fa fa' hA hLA
    go_enter Try.func11, Try.ntmps11
    go_upto_region 2 with (go_at_call 39; refine (law_few A n c la _ HA.out HN.out hwA hlA).mono ?_; rintro e w1 ⟨rfl, hb1⟩; rw [HX.out])
    go_wp2_with (go_at_call 40; refine (awake13 _).mono ?_; rintro e w' ⟨rfl, hb'⟩)
    go_ret
    exact ⟨rfl, hb1.trans (hb'.mono hb1.size)⟩
  case pos =>
    have fa' : decide (ddsW la ≤ 4000) = true := by simpa using fa
    have HA := Lib.hid hLA
    have HX := Lib.hid fa'
    have HIN := Lib.hid hiA
    have HW := Lib.hid hwA
    have HD : Hid (ddsW (la.map cleanD) ≤ 4000000) := Nat.le_trans (cleanDs_w la) (by omega)
    have HD4 : Hid (ddsW (la.map cleanD) ≤ 4000) := Nat.le_trans (cleanDs_w la) fa
    have HOK := Lib.hid (cleanDs_ok hiA hwA)
    have HSZ := Lib.hid (dds_sizes (l := la.map cleanD) (Nat.le_trans (cleanDs_w la) hwA))
    clear fa fa' hA hLA hiA hwA
    go_enter Try.func11, Try.ntmps11
    go_upto_region 3 with (go_at_call 39; refine (law_few A n c la _ HA.out.dds HN.out HW.out hlA).mono ?_; rintro e w1 ⟨rfl, hb1⟩; rw [HX.out])
    have hs1 := hb1.size
    have HLA1 := Lib.hid (HA.out.below hb1)
    go_upto_region 5 with fail
    go_loopw [7, 8] (fun v7 v8 wr => ∃ j : Nat, j ≤ n ∧ v8 = .int .i64 (j : Int) ∧ OwnDds wr w1.heap.size 0 v7 ((la.take j).map cleanD) ∧ Below w1.heap.size w1 wr) (fun _ v8 _ => n - (intOf v8).toNat)
    case atStart => exact ⟨0, by omega, rfl, by rw [List.take_zero]; exact OwnDds.nil _ _ _, Below.refl _ _⟩
    case round =>
      obtain ⟨j, hj, rfl, hown, hbel⟩ := hrel
      have hsr := hbel.size
      by_cases hlt : j < n
      · obtain ⟨wo, rfl⟩ : ∃ wo, wo = wr := ⟨_, rfl⟩
        obtain ⟨b, off, v, hAe, hb, hc, hiv⟩ := HLA1.out.dds.at (i := j) (by rw [HN.out]; exact hlt)
        subst hAe
        have hltI : (j : Int) < (n : Int) := by omega
        have hmem := List.getElem_mem (by rw [HN.out]; exact hlt : j < la.length)
        have hsn : (la.take (j + 1)).map cleanD = (la.take j).map cleanD ++ [cleanD (la[j]'(by rw [HN.out]; exact hlt))] := by rw [List.take_succ_eq_append_getElem, List.map_append]; rfl
        have hlen : ((la.take j).map cleanD).length + 1 ≤ 100000000000 := by rw [List.length_map, List.length_take, HN.out]; omega
        have hkd2 := (HIN.out _ hmem).kind
        have hfar : ∀ g, w1.heap.size ≤ g → Far ((la[j]'(by rw [HN.out]; exact hlt)), v) g := fun g hg => hiv.far hg
        have hiv2 := hiv.below hbel
        have hc' : ∀ i u, (ddCells (la[j]'(by rw [HN.out]; exact hlt)) v)[i]? = some u → wo.cell? ⟨b, off + j * 9 + i, none⟩ = some u := fun i u hu => (hbel.cell hb).trans (hc i u hu)
        have q0 := hc' 0 _ rfl
        rw [Nat.add_zero] at q0
        have q1 := hc' 1 _ rfl
        have q2 := hc' 2 _ rfl
        have q3 := hc' 3 _ rfl
        have q4 := hc' 4 _ rfl
        have q5 := hc' 5 _ rfl
        have q6 := hc' 6 _ rfl
        have q7 := hc' 7 _ rfl
        have q8 := hc' 8 _ rfl
        have HSN := Lib.hid hsn
        clear hc hc' hiv hmem hsn
        generalize la[j]'_ = d at *
        have hown0 := hown
        generalize (la.take j).map cleanD = L0 at *
        go_upto_region 6 with (first
          | (go_at_call 49; refine (law_clean d v _ hiv2 hkd2).mono ?_; rintro e w3 ⟨C, v', hC, rfl, hiv3, hfar3, hb3⟩; have HCC := Lib.hid hC; clear hC)
          | (at_builtin; refine wpList_wanted (by rfl) fun K hK => wp_append_dd _ _ rfl (d := C) (iv := v') rfl rfl ((hown.below hb3).below (below_alloc w3 _)) (cells_alloc w3 [.int .i64 C.kind, .int .i64 C.no, .int .i64 C.ino.no, .int .i64 C.ino.kind, .int .i64 C.ino.links, .int .i64 C.ino.size, .string C.ino.target, .slice v'.EA C.ino.ents.length v'.Ec, .slice v'.RA C.ino.runs.length v'.Rc] 71 (0, 0)) (hiv3.below (below_alloc w3 _)) (fun g e => hfar3 g (hfar g (hown.lt e).1)) (fun g hg => absurd hg (Nat.not_lt_zero _)) hlen (by rw [World.size_alloc]; exact Nat.le_succ_of_le (Nat.le_trans hsr hb3.size)) ?_; intro v4 w4 hown4 hg4; refine hK _ _ ?_; clear hK K))
        have hb4 : Below w1.heap.size w1 w4 := ((hbel.trans (hb3.mono hsr)).alloc (Nat.le_trans hsr hb3.size) _).grown hg4 (by rw [World.size_alloc]; exact Nat.le_succ_of_le (Nat.le_trans hsr hb3.size)) (fun k e => (hown.lt e).1)
        clear hown hown0 hbel hb3 hg4 hiv2 hiv3 hfar hfar3 hb q0 q1 q2 q3 q4 q5 q6 q7 q8 hlen
        go_wp2_with fail
        go_roundw
        case rel => exact ⟨j + 1, by omega, by go_num, by rw [HSN.out, ← HCC.out]; exact hown4, hb4⟩
        case measure => simp [intOf]; omega
      · obtain rfl : j = n := by omega
        have e0 : (la.take j).map cleanD = la.map cleanD := by rw [show la.take j = la by rw [← HN.out]; exact List.take_length]
        rw [e0] at hown
        have HNM : Hid ((la.map cleanD).length = j) := by show _ = _; rw [List.length_map]; exact HN.out
        clear e0
        generalize la.map cleanD = M at *
        obtain ⟨w3, rfl⟩ : ∃ w3, w3 = wr := ⟨_, rfl⟩
        obtain ⟨A7, c7, rfl, hc7, hat7, -⟩ := hown.form
        rw [HNM.out] at hc7 ⊢
        have hb30 := hb1.trans (hbel.mono hs1)
        have hs30 := hb30.size
        clear hown hbel hb1 hs1 HLA1 HA HIN HW HX hsr hlt
        obtain ⟨m, hm⟩ : ∃ k, (putDds M).length = k := ⟨_, rfl⟩
        have HM := Lib.hid hm
        have hmle := putDds_le M
        rw [hm] at hmle
        have hm1 : m ≤ 100000 := Nat.le_trans hmle (by have := HD4.out; omega)
        have P1 : Hid (rdDds (putDds M) (m + 1) ⟨0, 0⟩ [] = (M, 0)) := by
          show _ = _
          rw [← hm]
          exact rdDds_all M HOK.out
        clear hm hmle
        go_upto_region 9 with (go_at_call 44; refine (pk_deeds A7 j c7 M _ hat7 HNM.out HD.out HM.out).mono ?_; rintro e w4 ⟨A9, c9, rfl, hc9, hown9, hb4⟩)
        have hy9 := hown9.read
        have hat74 := hat7.below hb4
        have hb40 := hb30.trans (hb4.mono hs30)
        have hs40 := hb40.size
        clear hown9 hat7 hb4 hb30 hs30
        go_upto_region 10 with (go_at_call 42; refine (pk_parse A9 m c9 (putDds M) _ hy9 HM.out hc9 (by omega) P1.out HNM.out).mono ?_; rintro e w5 ⟨A10, c10, rfl, hc10, hat10, -, hb5⟩)
        have hy95 := hy9.below hb5
        have hat75 := hat74.below hb5
        have hb50 := hb40.trans (hb5.mono hs40)
        have hs50 := hb50.size
        have hs5 := Nat.le_refl w5.heap.size
        have hnil := Own.nil w5 w5.heap.size
        have hla1 := Lib.hid (show ([] : List UInt8).length + (putDds M).length ≤ 140737488355328 by rw [HM.out]; simp; omega)
        have hla2 := Lib.hid (show (putDds M).length + [kd].length ≤ 140737488355328 by rw [HM.out]; simp; omega)
        have HL2 := Lib.hid (show (putDds M ++ [kd]).length = m + 1 by rw [List.length_append, HM.out]; rfl)
        obtain ⟨wn, hwn⟩ : ∃ x, (if 1 ≤ kd.toNat ∧ kd.toNat ≤ 4 then 3 else 5) = x := ⟨_, rfl⟩
        have P2 : Hid (rdDds (putDds M ++ [kd]) (m + 1 + 1) ⟨0, 0⟩ [] = ([], wn)) := by
          show _ = _
          have := rdDds_odd M HOK.out kd
          rw [HM.out, hwn] at this
          exact this
        have HWN := Lib.hid hwn
        clear hy9 hat74 hb5 hb40 hs40 hwn
        go_upto_region 11 with (first
          | (at_builtin; refine wpList_wanted (by rfl) fun K hK => wp_append_byts _ _ rfl rfl rfl hnil hy95 HM.out.symm hla1.out hs5 ?_; intro v6 w6 hown6 hg6 hz6; refine hK _ _ ?_; clear hK K; rw [List.nil_append] at hown6; have hb65 := (Below.refl w5.heap.size w5).grown hg6 hs5 (fun k e => (hnil.lt e).1))
          | (at_builtin; refine wpList_wanted (by rfl) fun K hK => wp_append_byts _ _ rfl rfl rfl (hown6.below (below_alloc w6 (.cells #[.int .u8 (kd.toNat : Int)] 5))) (byts_lit1 w6 kd) rfl hla2.out (by rw [World.size_alloc]; exact Nat.le_succ_of_le hb65.size) ?_; intro v7 w7 hown7 hg7 hz7; refine hK _ _ ?_; clear hK K; have hb75 := (hb65.alloc hb65.size (.cells #[.int .u8 (kd.toNat : Int)] 5)).grown hg7 (by rw [World.size_alloc]; exact Nat.le_succ_of_le hb65.size) (fun k e => (hown6.lt e).1); obtain ⟨A12, c12, rfl, hc12, hy12, -⟩ := hown7.byts; rw [HL2.out] at hc12 ⊢)
          | (go_at_call 42; go_must (refine (pk_parse A12 (m + 1) c12 (putDds M ++ [kd]) _ hy12 HL2.out hc12 (by omega) P2.out rfl).mono ?_); rintro e w8 ⟨A13, c13, rfl, hc13, -, -, hb8⟩))
        have hb80 := hb50.trans ((hb75.trans (hb8.mono hb75.size)).mono hs50)
        have hat78 := hat75.below (hb75.trans (hb8.mono hb75.size))
        have hat108 := hat10.below (hb75.trans (hb8.mono hb75.size))
        have hy98 := hy95.below (hb75.trans (hb8.mono hb75.size))
        have hs80 := hb80.size
        clear hown6 hown7 hg6 hg7 hz6 hz7 hb65 hb75 hb8 hy12 hat75 hat10 hy95 hb50 hs50 hnil hs5 hla1 hla2 P2 HL2
        go_upto_region 12 with fail
        obtain ⟨kn, hkn⟩ : ∃ k, kd.toNat = k := ⟨_, rfl⟩
        rw [hkn] at HWN ⊢
        clear hkn
        go_cut [56] (fun v56 w' => v56 = .bool (decide (1 ≤ kn ∧ kn ≤ 4)) ∧ w' = w8)
        case first =>
          by_cases g1 : 1 ≤ kn
          · have g1i : (1 : Int) ≤ (kn : Int) := by omega
            by_cases g2 : kn ≤ 4
            · have g2i : (kn : Int) ≤ 4 := by omega
              have E := Lib.hid (show decide (1 ≤ kn ∧ kn ≤ 4) = true from decide_eq_true ⟨g1, g2⟩)
              go_wp2_with fail
              go_meet
              exact ⟨by rw [E.out], rfl⟩
            · have g2i : ¬ (kn : Int) ≤ 4 := by omega
              have E := Lib.hid (show decide (1 ≤ kn ∧ kn ≤ 4) = false from decide_eq_false fun h => g2 h.2)
              go_wp2_with fail
              go_meet
              exact ⟨by rw [E.out], rfl⟩
          · have g1i : ¬ (1 : Int) ≤ (kn : Int) := by omega
            have E := Lib.hid (show decide (1 ≤ kn ∧ kn ≤ 4) = false from decide_eq_false fun h => g1 h.1)
            go_wp2_with fail
            go_meet
            exact ⟨by rw [E.out], rfl⟩
        case rest =>
          obtain ⟨rfl, hw'⟩ := hcut
          subst hw'
          go_upto_if 56 with fail
          go_cut [14] (fun v14 w' => v14 = .int .i64 (wn : Int) ∧ w' = wc)
          case first =>
            by_cases hgo : 1 ≤ kn ∧ kn ≤ 4
            · have E : Hid (wn = 3) := by show _ = _; rw [← HWN.out, if_pos hgo]
              rw [decide_eq_true hgo]
              go_wp2_with fail
              go_meet
              exact ⟨by rw [E.out]; rfl, rfl⟩
            · have E : Hid (wn = 5) := by show _ = _; rw [← HWN.out, if_neg hgo]
              rw [decide_eq_false hgo]
              go_wp2_with fail
              go_meet
              exact ⟨by rw [E.out]; rfl, rfl⟩
          case rest =>
            obtain ⟨wo, rfl⟩ : ∃ wo, wo = wc := ⟨_, rfl⟩
            obtain ⟨rfl, hw'⟩ := hcut
            subst hw'
            have weq : ((wn : Int) != (wn : Int)) = false := by simp
            by_cases hj0 : j = 0
            · have g0 : ¬ (0 : Int) < (j : Int) := by omega
              have hm0 : m = 0 := by
                have h1 : M.length = 0 := by rw [HNM.out]; exact hj0
                have h2 : M = [] := List.eq_nil_of_length_eq_zero h1
                rw [← HM.out, h2]
                rfl
              have m0 : ((m : Int) == 0) = true := by simp; exact hm0
              clear hj0 hm0
              go_wp2_with (first
                | (go_at_call 40; refine (awake13 _).mono ?_; rintro e w9 ⟨rfl, hb9⟩; have hb90 := hb80.trans (hb9.mono hs80); have hat79 := hat78.below hb9; have hat109 := hat108.below hb9)
                | (go_at_call 46; refine (same_dds A10 j c10 A7 c7 M _ hat109 HNM.out hat79 (by omega) HSZ.out).mono ?_; rintro e w10 ⟨rfl, hb10⟩; have hb100 := hb90.trans (hb10.mono hb90.size)))
              go_ret
              exact ⟨rfl, hb100⟩
            · have g0 : (0 : Int) < (j : Int) := by omega
              have hm0 : 0 < m := by
                have h1 : 0 < M.length := by rw [HNM.out]; omega
                rw [← HM.out]
                cases M with
                | nil => simp at h1
                | cons d l =>
                  have := putDd_pos d
                  rw [putDds_cons, List.length_append]
                  omega
              have m0 : ((m : Int) == 0) = false := by simp; omega
              have m0' : (m : Int) ≠ 0 := by omega
              obtain ⟨K, hK, hKl⟩ := mod_len ct m hm0 (by omega)
              have HKT := Lib.hid (show ((putDds M).take K).length = K by rw [List.length_take, HM.out]; omega)
              have hKI : (K : Int) ≤ (m : Int) := by omega
              go_upto_region 18 with (first
                | (go_at_call 40; refine (awake13 _).mono ?_; rintro e w9 ⟨rfl, hb9⟩; have hb90 := hb80.trans (hb9.mono hs80); have hat79 := hat78.below hb9; have hat109 := hat108.below hb9)
                | (go_at_call 46; refine (same_dds A10 j c10 A7 c7 M _ hat109 HNM.out hat79 (by omega) HSZ.out).mono ?_; rintro e w10 ⟨rfl, hb10⟩; have hb100 := hb90.trans (hb10.mono hb90.size); have hat710 := hat79.below hb10; have hy910 := (hy98.below hb9).below hb10))
              clear hb90 hat79 hat109 hb9 hb10 hb80 hs80 hat78 hat108 hy98
              rcases rdDds_cut M (b := putDds M) (p := []) (by simp) HOK.out (K := K) (by simp) (by rw [HM.out]; exact hKl) (o := 0) rfl (K + 1) (by simp) [] with hcut | ⟨j', hj', hcut⟩
              · have P3 := Lib.hid hcut
                clear hcut
                go_wp2_with (first
                  | (refine wpList_wanted (by rfl) fun K' hK' => wp_slice_byts _ _ _ rfl 0 K rfl (Or.inl ⟨rfl, rfl⟩) (Or.inr ⟨_, _, rfl, congrArg (Value.int .i64) hK⟩) (Nat.zero_le _) (by omega) ?_; intro A5 e1 e2 e3; have hm3 := e1 _ _ hy910 (by rw [HM.out]; omega) (by rw [HM.out]; omega); rw [List.drop_zero] at hm3; refine hK' _ _ ?_; clear e1 e2 e3 hK' K'; (try simp only [Nat.sub_zero]))
                  | (go_at_call 42; refine (pk_parse A5 K c9 ((putDds M).take K) _ hm3 HKT.out ⟨by omega, hc9.2⟩ (by omega) P3.out rfl).mono ?_; rintro e w11 ⟨A15, c15, rfl, hc15, -, -, hb11⟩))
                go_ret
                exact ⟨rfl, hb100.trans (hb11.mono hb100.size)⟩
              · rw [HNM.out] at hj'
                rw [List.nil_append] at hcut
                have P3 := Lib.hid hcut
                have HJL := Lib.hid (show (M.take j').length = j' by rw [List.length_take, HNM.out]; omega)
                have HS2 := Lib.hid (show ∀ d ∈ M.take j', d.ino.ents.length ≤ 1000000000000 ∧ d.ino.runs.length ≤ 1000000000000 from fun d hd => HSZ.out d (List.mem_of_mem_take hd))
                have hjI : (j' : Int) < (j : Int) := by omega
                have hsl := fun W => run_slice_dds W A7 j c7 j' (by omega)
                clear hcut
                go_wp2_with (first
                  | (refine wpList_wanted (by rfl) fun K' hK' => wp_slice_byts _ _ _ rfl 0 K rfl (Or.inl ⟨rfl, rfl⟩) (Or.inr ⟨_, _, rfl, congrArg (Value.int .i64) hK⟩) (Nat.zero_le _) (by omega) ?_; intro A5 e1 e2 e3; have hm3 := e1 _ _ hy910 (by rw [HM.out]; omega) (by rw [HM.out]; omega); rw [List.drop_zero] at hm3; refine hK' _ _ ?_; clear e1 e2 e3 hK' K'; (try simp only [Nat.sub_zero]))
                  | (go_at_call 42; refine (pk_parse A5 K c9 ((putDds M).take K) _ hm3 HKT.out ⟨by omega, hc9.2⟩ (by omega) P3.out HJL.out).mono ?_; rintro e w11 ⟨A15, c15, rfl, hc15, hat11, -, hb11⟩)
                  | (go_at_call 46; refine (same_dds A15 j' c15 A7 c7 (M.take j') _ hat11 HJL.out ((hat710.below hb11).take j') (by omega) HS2.out).mono ?_; rintro e w12 ⟨rfl, hb12⟩; have hb120 := (hb100.trans (hb11.mono hb100.size)).trans (hb12.mono (hb100.trans (hb11.mono hb100.size)).size)))
                go_ret
                exact ⟨rfl, hb120⟩
end Go.Proofs.Ytdieeleaaejfhaa
