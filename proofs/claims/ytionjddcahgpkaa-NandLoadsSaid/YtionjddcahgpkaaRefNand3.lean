/- The reference's chip of pages: erasing (printed by gen_refnand3.py). -/
import Derived.Test.YtionjddcahgpkaaRefNand2
set_option linter.unusedVariables false
set_option maxRecDepth 100000
set_option linter.unusedSimpArgs false
namespace Go.Proofs.Ytionjddcahgpkaa
open Go.RowKit

section
variable {w : World} {rb bb nb kb qb : Nat} {sa sz gc gd ge : Nat} {l : List UInt8} {N : Nat} {n : NSt} {GP : List Nat} {s : PS}

theorem RNand.bytes {w1 w2 : World} {rp : Option Addr} (h : RNand w1 rb bb nb kb rp sa sz gc gd ge l N n) {M : Nat} {l' : List UInt8} {pg' : Int → Int → List UInt8 × List UInt8} (ho : Only [bb] w1 w2) (hm : MemC w2 bb l.length l') (hl : l'.length = l.length)
    (hf : Flat gc gd ge l' pg') (hn : NOk ⟨sa, sz, gc, gd, ge⟩ ⟨pg', n.nx, n.er⟩ M) : RNand w2 rb bb nb kb rp sa sz gc gd ge l' M ⟨pg', n.nx, n.er⟩ := by
  obtain ⟨a1, a2, a3, a4, a5, a6, a7, e1, e2, e3, e4, e5, e6⟩ := h
  refine ⟨?_, ?_, a3.only ho (by simp; omega), a4.only ho (by simp; omega), hf, hn, a7, e1, e2, e3, e4, e5, e6⟩
  · rw [hl]
    exact a1.only ho (by simp; omega)
  · rw [hl]
    exact hm
theorem RNand.counts {w1 w2 w3 : World} {rp : Option Addr} (h : RNand w1 rb bb nb kb rp sa sz gc gd ge l N n) {M : Nat} {nx' er' : Int → Int} (h2 : Only [nb] w1 w2) (hk : Blk w2 nb 3 (cntCells gc nx')) (h3 : Only [kb] w2 w3) (hk3 : Blk w3 kb 3 (cntCells gc er'))
    (hn : NOk ⟨sa, sz, gc, gd, ge⟩ ⟨n.pg, nx', er'⟩ M) : RNand w3 rb bb nb kb rp sa sz gc gd ge l M ⟨n.pg, nx', er'⟩ := by
  obtain ⟨a1, a2, a3, a4, a5, a6, a7, e1, e2, e3, e4, e5, e6⟩ := h
  exact ⟨(a1.only h2 (by simp; omega)).only h3 (by simp; omega), (a2.only h2 (by simp; omega)).only h3 (by simp; omega), hk.only h3 (by simp; omega), hk3, a5, hn, a7, e1, e2, e3, e4, e5, e6⟩

set_option maxHeartbeats 8000000 in
theorem rnand_erase (h : RNand w rb bb nb kb (some ⟨qb, 0, none⟩) sa sz gc gd ge l N n) (hN : N ≤ 1000000000) (hp : RPow w qb GP s) (hd : ∀ x ∈ GP, x ∉ [rb, bb, nb, kb]) (b : Int) (hb : -9223372036854775808 ≤ b ∧ b ≤ 9223372036854775807)
    (hdone : s.done ≤ 900000000000) {r : Int} {n' : NSt} {s' : PS} (hE : nErase ⟨sa, sz, gc, gd, ge⟩ s n b = (r, n', s')) :
    Calls Try.prog 27 #[.pointer (some ⟨rb, 0, none⟩), .int .i64 b] w fun e w' => e = .returned (.int .i64 r) ∧ ∃ l', RNand w' rb bb nb kb (some ⟨qb, 0, none⟩) sa sz gc gd ge l' (N + 1) n' ∧ RPow w' qb GP s' ∧ Only [bb, nb, kb, qb] w w' := by
  obtain ⟨w0, rfl⟩ : ∃ w0 : World, w0 = w := ⟨_, rfl⟩
  have hNO := NOk.erase (s := s) h.ok h.n b
  rw [hE] at hNO
  have HNO := Lib.hid hNO
  clear hNO
  unfold nErase at hE
  have hbd := h.bd
  by_cases hok : nOk ⟨sa, sz, gc, gd, ge⟩ b 0
  · rw [if_pos hok] at hE
    have hok' := hok
    unfold nOk at hok'
    simp only at hok'
    obtain ⟨x, rfl⟩ : ∃ x : Nat, b = (x : Int) := ⟨b.toNat, by omega⟩
    have hx : x < gc := by omega
    obtain ⟨o, ho⟩ : ∃ o, (x * gd + 0) * (ge + 16) = o := ⟨_, rfl⟩
    have HP := Lib.hid (rnand_page h x 0 hx (by omega) ho)
    obtain ⟨z, hz⟩ : ∃ z, gd * (ge + 16) = z := ⟨_, rfl⟩
    have hzl : z ≤ 8704 := by rw [← hz]; exact Nat.mul_le_mul hbd.2.1.2 (by omega : ge + 16 ≤ 272)
    rw [Nat.add_zero] at ho
    have hr : o + z ≤ l.length := by
      rw [h.fl.len, ← ho, ← hz, ← Nat.add_mul]
      exact Nat.mul_le_mul_right _ (level_le hx (Nat.le_refl _))
    have hLs := h.size
    have HC := Lib.hid (fun k => And.intro (h.drewN k) (And.intro (hp.below (w' := w0.drewN k) (below_drewN (Below.refl _ _) k)) ((Only.refl [] w0).drewN k)))
    have hqF := hp.mem
    have hqn := hd _ hqF
    simp only [List.mem_cons, List.not_mem_nil, or_false, not_or] at hqn
    have hnf : ∀ y ∈ [rb, bb, nb, kb], y ∉ [qb] := by simp; omega
    have hm1 : IntKind.i64.wrap ((ge : Int) + 16) = ((ge + 16 : Nat) : Int) := by rw [show (ge : Int) + 16 = ((ge + 16 : Nat) : Int) by omega]; exact IntWalk.i64_in _ (by omega)
    have hm2 : IntKind.i64.wrap ((gd : Int) * ((ge + 16 : Nat) : Int)) = (z : Int) := by rw [← Int.natCast_mul, hz]; exact IntWalk.i64_in _ (by omega)
    obtain ⟨gz, hgz⟩ : ∃ gz, ge + 16 = gz := ⟨_, rfl⟩
    rw [hgz] at hm1 hm2
    have HOZ := Lib.hid (And.intro ho hz)
    have HDD := Lib.hid h.d
    have hern := h.n.er (x : Int)
    have c5 : Hid (∀ k, (w0.drewN k).cell? ⟨rb, 5, none⟩ = some (.pointer (some ⟨qb, 0, none⟩))) := fun k => (h.drewN k).blk.cell 5 _ rfl
    have hfl := h.fl
    have HFL := Lib.hid hfl
    have hmono : Hid (∀ W (L : List UInt8) (C : NSt), RNand W rb bb nb kb (some ⟨qb, 0, none⟩) sa sz gc gd ge L N C → RNand W rb bb nb kb (some ⟨qb, 0, none⟩) sa sz gc gd ge L (N + 1) C) := fun W L C h => h.mono (Nat.le_succ N)
    clear hok hok' h hp ho hz hgz hfl
    go_enter Try.func27, Try.ntmps27
    go_upto_region 4 with (go_at_call 52; refine HP.out.mono ?_; rintro e w' ⟨rfl, k, rfl⟩)
    obtain ⟨hC1, hp1, ho1⟩ := HC.out k
    have d5 := c5.out k
    obtain ⟨w1, hw1⟩ : ∃ w1, w0.drewN k = w1 := ⟨_, rfl⟩
    rw [hw1] at hC1 hp1 ho1 d5 ⊢
    clear hw1 HC HP c5
    cases hdid : s.did with
    | true =>
      have htorn := PS.did_torn' hdid
      have HD := Lib.hid (And.intro hdid htorn)
      rw [if_neg (by rw [htorn]; decide), if_neg (by rw [hdid]; decide)] at hE
      clear hdid htorn
      go_upto_region 5 with (go_at_call 53; refine (rpow_step _ _ _ _ hp1 (by omega)).mono ?_; rintro e w2 ⟨rfl, hp2, ho2⟩; rw [HD.out.1, HD.out.2])
      have hC2 := hC1.only ho2 hnf
      have e5 := hC2.blk.cell 5 _ rfl
      clear hC1 hp1 d5
      cases hfb : s.next.failing with
      | true =>
        rw [if_pos hfb] at hE
        obtain ⟨rfl, rfl, rfl⟩ : 7 = r ∧ n = n' ∧ s.next = s' := by simpa using hE
        have HF := Lib.hid hfb
        clear hfb hE
        go_upto_region 7 with (go_at_call 54; refine (rpow_fails _ _ _ _ hp2 (by have := s.next_done_le; omega)).mono ?_; rintro e w6 ⟨rfl, k6, rfl⟩; rw [HF.out])
        go_wp2_with fail
        go_ret
        exact ⟨rfl, l, (hmono.out _ _ _ hC2).drewN k6, hp2.below (below_drewN (Below.refl _ _) k6), ((ho1.mono (S' := [bb, nb, kb, qb]) (by simp)).trans (ho2.mono (by simp))).drewN k6⟩
      | false =>
        rw [if_neg (by rw [hfb]; decide)] at hE
        have HF := Lib.hid hfb
        clear hfb
        go_upto_region 7 with (go_at_call 54; refine (rpow_fails _ _ _ _ hp2 (by have := s.next_done_le; omega)).mono ?_; rintro e w6 ⟨rfl, k6, rfl⟩; rw [HF.out])
        have hC6 := hC2.drewN k6
        have hp6 := hp2.below (w' := w2.drewN k6) (below_drewN (Below.refl _ _) k6)
        have ho6 := ((ho1.mono (S' := [bb, nb, kb, qb]) (by simp)).trans (ho2.mono (by simp))).drewN k6
        obtain ⟨w6, hw6⟩ : ∃ w6, w2.drewN k6 = w6 := ⟨_, rfl⟩
        rw [hw6] at hC6 hp6 ho6 ⊢
        clear hw6 hC2 hp2 ho1 ho2 e5
        obtain ⟨m, hmd⟩ : ∃ m : List UInt8, m = ffs z := ⟨_, rfl⟩
        have hml : m.length = z := by rw [hmd]; exact ffs_length _
        have hmj : ∀ j (h1 : j < m.length) (h2 : o + j < l.length), m[j] = 255 := fun j h1 h2 => by subst hmd; simp [ffs]
        have HM := Lib.hid (And.intro hmd (And.intro hml hmj))
        have hm60 : MemC w6 bb l.length (splice l o (m.take 0)) := by rw [List.take_zero, splice_nil]; exact hC6.mem
        obtain ⟨L, hL⟩ : ∃ L, l.length = L := ⟨_, rfl⟩
        have hb6 := hC6.blk
        rw [hL] at hm60 hr hLs hb6
        have HL := Lib.hid hL
        have HCC := Lib.hid (And.intro hC6 (And.intro hp6 ho6))
        clear hmd hml hmj hL hC6 hp6 ho6
        go_upto_region 8 with fail
        go_loopw [8] (fun v8 wr => ∃ j : Nat, j ≤ z ∧ v8 = .int .i64 (j : Int) ∧ MemC wr bb L (splice l o (m.take j)) ∧ Only [bb] w6 wr) (fun v8 _ => z - (intOf v8).toNat)
        case atStart => exact ⟨0, Nat.zero_le _, rfl, hm60, Only.refl _ _⟩
        case round =>
          clear hm60
          obtain ⟨j, hj, rfl, hmr, hor⟩ := hrel
          obtain ⟨wo, rfl⟩ : ∃ wo, wo = wr := ⟨_, rfl⟩
          have hCr := hb6.only hor (by simp; have := HDD.out; omega)
          have f3 := hCr.cell 3 _ rfl
          have f4 := hCr.cell 4 _ rfl
          go_upto_region 8 with fail
          go_quiet (fail)
          replace hmr := hmr.drewN nq
          replace hor := hor.drewN nq
          replace hCr := hb6.only hor (by simp; have := HDD.out; omega)
          clear f3 f4
          obtain ⟨wq, hwq⟩ : ∃ wq, wo.drewN nq = wq := ⟨_, rfl⟩
          rw [hwq] at hmr hor hCr ⊢
          clear hwq
          by_cases hlt : j < z
          · have hltI : (j : Int) < (z : Int) := by omega
            have hjm : j < m.length := by rw [HM.out.2.1]; exact hlt
            have hoj : o + j < l.length := by rw [HL.out]; omega
            have e6 := hCr.cell 6 _ rfl
            have e5 := hCr.cell 5 _ rfl
            have hst := splice_step l m o j (by rw [HL.out, HM.out.2.1]; exact hr) hjm
            have hspl : (splice l o (m.take j)).length = L := by rw [splice_length _ _ _ (by simp; have := HL.out; omega)]; exact HL.out
            have hol := hmr.get (i := o + j) (by rw [hspl]; omega)
            have hov : (splice l o (m.take j))[o + j]'(by rw [hspl]; omega) = l[o + j] := by
              apply Option.some.inj
              rw [← List.getElem?_eq_getElem, ← List.getElem?_eq_getElem, splice_get _ _ _ (by simp; have := HL.out; omega), if_neg (by omega), if_neg (by simp; omega)]
            rw [hov] at hol
            have hfz := hmr.frz (o + j)
            have hv := HM.out.2.2 j hjm hoj
            have hms := hmr.set (o + j) m[j]
            rw [hst] at hms
            have hos : Only [bb] wq (wq.setCell ⟨bb, o + j, none⟩ (.int .u8 (m[j].toNat : Int))) := (Only.refl _ _).setCell (by simp) _
            have hor' := hor.trans hos
            have hwj : IntKind.i64.wrap ((o : Int) + (j : Int)) = ((o + j : Nat) : Int) := by rw [← Int.natCast_add]; exact IntWalk.i64_in _ (by omega)
            have p0 : (0 : Int) ≤ ((o + j : Nat) : Int) := by omega
            have p1 : ((o + j : Nat) : Int) < (L : Int) := by omega
            rw [hv] at hms hor'
            have h255 : ((255 : UInt8).toNat : Int) = 255 := by rfl
            rw [h255] at hms hor'
            clear h255
            have HX := Lib.hid (And.intro hms hor')
            clear hms hor' hos hst hv hov hspl hmr hor hCr
            go_wp2_with fail
            go_roundw
            case rel => exact ⟨j + 1, by omega, by go_num, HX.out.1, HX.out.2⟩
            case measure => simp [intOf]; omega
          · obtain rfl : j = z := by omega
            have hltI : ¬ (j : Int) < (j : Int) := by omega
            have hfin : MemC wq bb L (splice l o m) := by
              have := HM.out.2.1
              rw [← this, List.take_length] at hmr
              exact hmr
            have hspl : (splice l o m).length = L := by rw [splice_length _ _ _ (by rw [HM.out.2.1, HL.out]; omega)]; exact HL.out
            have hpz := HCC.out.2.1.only hor (fun z' hz => by simp; rintro rfl; exact hd _ hz (by simp))
            obtain ⟨hr1, hn1, hs1⟩ : r = 0 ∧ n' = ⟨fun a c => if a = (x : Int) then blankP ⟨sa, sz, gc, gd, ge⟩ else n.pg a c, up1 n.nx (x : Int) 0, up1 n.er (x : Int) (n.er (x : Int) + 1)⟩ ∧ s' = s.next := by
              simp only [Prod.mk.injEq] at hE
              exact ⟨hE.1.symm, hE.2.1.symm, hE.2.2.symm⟩
            have hfl2 := HFL.out.wipe ⟨sa, sz, gc, gd, ge⟩ rfl hx
            rw [HOZ.out.1, HOZ.out.2, ← HM.out.1] at hfl2
            have hn2 := HNO.out
            subst hn1 hs1
            have hCz : RNand wq rb bb nb kb (some ⟨qb, 0, none⟩) sa sz gc gd ge (splice l o m) (N + 1) ⟨fun a c => if a = (x : Int) then blankP ⟨sa, sz, gc, gd, ge⟩ else n.pg a c, n.nx, n.er⟩ := by
              refine HCC.out.1.bytes hor (by rw [HL.out]; exact hfin) (by rw [hspl]; exact HL.out.symm) hfl2 ⟨hn2.sz, fun y => HCC.out.1.n.nx y, fun y => ?_, HCC.out.1.n.out⟩
              have := HCC.out.1.n.er y
              simp only
              omega
            have g7 := hCz.blk.cell 7 _ rfl
            have g8 := hCz.blk.cell 8 _ rfl
            have gn := hCz.nx.cell x _ (cntCells_get hx)
            have gk := hCz.er.cell x _ (cntCells_get hx)
            have gnf := hCz.nx.frz x
            have gkf := hCz.er.frz x
            have s1 := hCz.nx.set x (.int .i64 0)
            rw [cntCells_up (0 : Int)] at s1
            have os1 : Only [nb] wq (wq.setCell ⟨nb, x, none⟩ (.int .i64 0)) := (Only.refl _ _).setCell (by simp) _
            have hkb : Blk (wq.setCell ⟨nb, x, none⟩ (.int .i64 0)) kb 3 (cntCells gc n.er) := hCz.er.only os1 (by simp; have := HDD.out; omega)
            have s2 := hkb.set x (.int .i64 (n.er (x : Int) + 1))
            rw [cntCells_up (n.er (x : Int) + 1)] at s2
            have os2 : Only [kb] (wq.setCell ⟨nb, x, none⟩ (.int .i64 0)) ((wq.setCell ⟨nb, x, none⟩ (.int .i64 0)).setCell ⟨kb, x, none⟩ (.int .i64 (n.er (x : Int) + 1))) := (Only.refl _ _).setCell (by simp) _
            have hfinal := hCz.counts os1 s1 os2 s2 hn2
            have hpf := (hpz.only os1 (fun z' hz => by simp; rintro rfl; exact hd _ hz (by simp))).only os2 (fun z' hz => by simp; rintro rfl; exact hd _ hz (by simp))
            have hof : Only [bb, nb, kb, qb] w0 ((wq.setCell ⟨nb, x, none⟩ (.int .i64 0)).setCell ⟨kb, x, none⟩ (.int .i64 (n.er (x : Int) + 1))) := HCC.out.2.2.trans ((hor.mono (by simp)).trans ((os1.mono (by simp)).trans (os2.mono (by simp))))
            have HFF := Lib.hid (And.intro hfinal (And.intro hpf hof))
            have HR1 := Lib.hid hr1
            have hwe : IntKind.i64.wrap (n.er (x : Int) + 1) = n.er (x : Int) + 1 := IntWalk.i64_in _ (by omega)
            have gnk : nb ≠ kb := by have := HDD.out; omega
            have grn : rb ≠ nb := by have := HDD.out; omega
            have grk : rb ≠ kb := by have := HDD.out; omega
            have g82 := (hCz.blk.only os1 (by simp; exact grn)).cell 8 _ rfl
            have gk2 := hkb.cell x _ (cntCells_get hx)
            have gkf2 := hkb.frz x
            have hxI : (x : Int) < (gc : Int) := by omega
            clear hr1 hfinal hpf hof os1 os2 s1 s2 hkb hCz hfin hmr hor hpz hfl2 hspl hn2 hE hCr
            go_wp2_with fail
            go_ret
            refine ⟨by rw [HR1.out]; rfl, ?_⟩
            first | exact ⟨_, HFF.out.1, HFF.out.2.1, HFF.out.2.2⟩ | exact ⟨⟨_, HFF.out.1⟩, HFF.out.2.1, HFF.out.2.2⟩
    | false =>
      cases htorn : s.torn with
      | true =>
        rw [if_pos htorn] at hE
        have HD := Lib.hid (And.intro hdid htorn)
        clear hdid htorn
        go_upto_region 5 with (go_at_call 53; refine (rpow_step _ _ _ _ hp1 (by omega)).mono ?_; rintro e w2 ⟨rfl, hp2, ho2⟩; rw [HD.out.1, HD.out.2])
        have hC2 := hC1.only ho2 hnf
        have e5 := hC2.blk.cell 5 _ rfl
        clear hC1 hp1 d5
        have hC6 := hC2
        have hp6 := hp2
        have ho6 := (ho1.mono (S' := [bb, nb, kb, qb]) (by simp)).trans (ho2.mono (by simp))
        obtain ⟨w6, hw6⟩ : ∃ w6, w2 = w6 := ⟨_, rfl⟩
        rw [hw6] at hC6 hp6 ho6 ⊢
        clear hw6 hC2 hp2 ho1 ho2 e5
        obtain ⟨m, hmd⟩ : ∃ m : List UInt8, m = ((l.drop o).take z).map (· ||| s.mask) := ⟨_, rfl⟩
        have hml : m.length = z := by rw [hmd]; simp; omega
        have hmj : ∀ j (h1 : j < m.length) (h2 : o + j < l.length), m[j] = l[o + j] ||| s.mask := fun j h1 h2 => by subst hmd; simp
        have HM := Lib.hid (And.intro hmd (And.intro hml hmj))
        have hm60 : MemC w6 bb l.length (splice l o (m.take 0)) := by rw [List.take_zero, splice_nil]; exact hC6.mem
        obtain ⟨L, hL⟩ : ∃ L, l.length = L := ⟨_, rfl⟩
        have hb6 := hC6.blk
        rw [hL] at hm60 hr hLs hb6
        have HL := Lib.hid hL
        have HCC := Lib.hid (And.intro hC6 (And.intro hp6 ho6))
        clear hmd hml hmj hL hC6 hp6 ho6
        go_upto_region 8 with fail
        go_loopw [8] (fun v8 wr => ∃ j : Nat, j ≤ z ∧ v8 = .int .i64 (j : Int) ∧ MemC wr bb L (splice l o (m.take j)) ∧ Only [bb] w6 wr) (fun v8 _ => z - (intOf v8).toNat)
        case atStart => exact ⟨0, Nat.zero_le _, rfl, hm60, Only.refl _ _⟩
        case round =>
          clear hm60
          obtain ⟨j, hj, rfl, hmr, hor⟩ := hrel
          obtain ⟨wo, rfl⟩ : ∃ wo, wo = wr := ⟨_, rfl⟩
          have hCr := hb6.only hor (by simp; have := HDD.out; omega)
          have f3 := hCr.cell 3 _ rfl
          have f4 := hCr.cell 4 _ rfl
          go_upto_region 8 with fail
          go_quiet (fail)
          replace hmr := hmr.drewN nq
          replace hor := hor.drewN nq
          replace hCr := hb6.only hor (by simp; have := HDD.out; omega)
          clear f3 f4
          obtain ⟨wq, hwq⟩ : ∃ wq, wo.drewN nq = wq := ⟨_, rfl⟩
          rw [hwq] at hmr hor hCr ⊢
          clear hwq
          by_cases hlt : j < z
          · have hltI : (j : Int) < (z : Int) := by omega
            have hjm : j < m.length := by rw [HM.out.2.1]; exact hlt
            have hoj : o + j < l.length := by rw [HL.out]; omega
            have e6 := hCr.cell 6 _ rfl
            have e5 := hCr.cell 5 _ rfl
            have hst := splice_step l m o j (by rw [HL.out, HM.out.2.1]; exact hr) hjm
            have hspl : (splice l o (m.take j)).length = L := by rw [splice_length _ _ _ (by simp; have := HL.out; omega)]; exact HL.out
            have hol := hmr.get (i := o + j) (by rw [hspl]; omega)
            have hov : (splice l o (m.take j))[o + j]'(by rw [hspl]; omega) = l[o + j] := by
              apply Option.some.inj
              rw [← List.getElem?_eq_getElem, ← List.getElem?_eq_getElem, splice_get _ _ _ (by simp; have := HL.out; omega), if_neg (by omega), if_neg (by simp; omega)]
            rw [hov] at hol
            have hfz := hmr.frz (o + j)
            have hv := HM.out.2.2 j hjm hoj
            have hms := hmr.set (o + j) m[j]
            rw [hst] at hms
            have hos : Only [bb] wq (wq.setCell ⟨bb, o + j, none⟩ (.int .u8 (m[j].toNat : Int))) := (Only.refl _ _).setCell (by simp) _
            have hor' := hor.trans hos
            have hwj : IntKind.i64.wrap ((o : Int) + (j : Int)) = ((o + j : Nat) : Int) := by rw [← Int.natCast_add]; exact IntWalk.i64_in _ (by omega)
            have p0 : (0 : Int) ≤ ((o + j : Nat) : Int) := by omega
            have p1 : ((o + j : Nat) : Int) < (L : Int) := by omega
            replace hv : m[j] = l[o + j] ||| s.mask := hv
            have hor8 := or_u8 l[o + j] s.mask
            rw [← hv] at hor8
            obtain ⟨AR, cR, hrb⟩ := (HCC.out.2.1.only hor (fun z' hz => by simp; rintro rfl; exact hd _ hz (by simp))).blk
            have r2 : wq.cell? ⟨qb, 2, none⟩ = some (.int .u8 (s.mask.toNat : Int)) := by rw [← s.next_mask]; exact hrb.cell 2 _ rfl
            clear hrb
            generalize m[j] = yy at *
            generalize l[o + j] = xx at *
            have HX := Lib.hid (And.intro hms hor')
            clear hms hor' hos hst hv hov hspl hmr hor hCr
            go_upto_region 13 with fail
            go_region
            clear hol hfz r2 e5 e6 hor8 hwj p0 p1
            go_wp2_with fail
            go_roundw
            case rel => exact ⟨j + 1, by omega, by go_num, HX.out.1.drewN 1, HX.out.2.drewN 1⟩
            case measure => simp [intOf]; omega
          · obtain rfl : j = z := by omega
            have hltI : ¬ (j : Int) < (j : Int) := by omega
            have hfin : MemC wq bb L (splice l o m) := by
              have := HM.out.2.1
              rw [← this, List.take_length] at hmr
              exact hmr
            have hspl : (splice l o m).length = L := by rw [splice_length _ _ _ (by rw [HM.out.2.1, HL.out]; omega)]; exact HL.out
            have hpz := HCC.out.2.1.only hor (fun z' hz => by simp; rintro rfl; exact hd _ hz (by simp))
            obtain ⟨hr1, hn1, hs1⟩ : r = 6 ∧ n' = ⟨fun a c => if a = (x : Int) then orP s.mask (n.pg a c) else n.pg a c, n.nx, n.er⟩ ∧ s' = s.next := by
              simp only [Prod.mk.injEq] at hE
              exact ⟨hE.1.symm, hE.2.1.symm, hE.2.2.symm⟩
            have hfl2 := HFL.out.ors hx s.mask
            rw [HOZ.out.1, HOZ.out.2, ← HM.out.1] at hfl2
            have hn2 := HNO.out
            subst hn1 hs1
            have hfinal : RNand wq rb bb nb kb (some ⟨qb, 0, none⟩) sa sz gc gd ge (splice l o m) (N + 1) ⟨fun a c => if a = (x : Int) then orP s.mask (n.pg a c) else n.pg a c, n.nx, n.er⟩ := HCC.out.1.bytes hor (by rw [HL.out]; exact hfin) (by rw [hspl]; exact HL.out.symm) hfl2 hn2
            have hof : Only [bb, nb, kb, qb] w0 wq := HCC.out.2.2.trans (hor.mono (by simp))
            have HFF := Lib.hid (And.intro hfinal (And.intro hpz hof))
            have HR1 := Lib.hid hr1
            clear hr1 hfinal hof hfin hmr hor hpz hfl2 hspl hn2 hE hCr
            go_wp2_with fail
            go_ret
            refine ⟨by rw [HR1.out]; rfl, ?_⟩
            first | exact ⟨_, HFF.out.1, HFF.out.2.1, HFF.out.2.2⟩ | exact ⟨⟨_, HFF.out.1⟩, HFF.out.2.1, HFF.out.2.2⟩
      | false =>
        rw [if_neg (by rw [htorn]; decide), if_pos hdid] at hE
        have HD := Lib.hid (And.intro hdid htorn)
        clear hdid htorn
        go_upto_region 5 with (go_at_call 53; refine (rpow_step _ _ _ _ hp1 (by omega)).mono ?_; rintro e w2 ⟨rfl, hp2, ho2⟩; rw [HD.out.1, HD.out.2])
        have hC2 := hC1.only ho2 hnf
        have e5 := hC2.blk.cell 5 _ rfl
        clear hC1 hp1 d5
        have hC6 := hC2
        have hp6 := hp2
        have ho6 := (ho1.mono (S' := [bb, nb, kb, qb]) (by simp)).trans (ho2.mono (by simp))
        obtain ⟨w6, hw6⟩ : ∃ w6, w2 = w6 := ⟨_, rfl⟩
        rw [hw6] at hC6 hp6 ho6 ⊢
        clear hw6 hC2 hp2 ho1 ho2 e5
        obtain ⟨m, hmd⟩ : ∃ m : List UInt8, m = (l.drop o).take z := ⟨_, rfl⟩
        have hml : m.length = z := by rw [hmd]; simp; omega
        have hmj : ∀ j (h1 : j < m.length) (h2 : o + j < l.length), m[j] = l[o + j] := fun j h1 h2 => by subst hmd; simp
        have HM := Lib.hid (And.intro hmd (And.intro hml hmj))
        have hm60 : MemC w6 bb l.length (splice l o (m.take 0)) := by rw [List.take_zero, splice_nil]; exact hC6.mem
        obtain ⟨L, hL⟩ : ∃ L, l.length = L := ⟨_, rfl⟩
        have hb6 := hC6.blk
        rw [hL] at hm60 hr hLs hb6
        have HL := Lib.hid hL
        have HCC := Lib.hid (And.intro hC6 (And.intro hp6 ho6))
        clear hmd hml hmj hL hC6 hp6 ho6
        go_upto_region 8 with fail
        go_loopw [8] (fun v8 wr => ∃ j : Nat, j ≤ z ∧ v8 = .int .i64 (j : Int) ∧ MemC wr bb L (splice l o (m.take j)) ∧ Only [bb] w6 wr) (fun v8 _ => z - (intOf v8).toNat)
        case atStart => exact ⟨0, Nat.zero_le _, rfl, hm60, Only.refl _ _⟩
        case round =>
          clear hm60
          obtain ⟨j, hj, rfl, hmr, hor⟩ := hrel
          obtain ⟨wo, rfl⟩ : ∃ wo, wo = wr := ⟨_, rfl⟩
          have hCr := hb6.only hor (by simp; have := HDD.out; omega)
          have f3 := hCr.cell 3 _ rfl
          have f4 := hCr.cell 4 _ rfl
          go_upto_region 8 with fail
          go_quiet (fail)
          replace hmr := hmr.drewN nq
          replace hor := hor.drewN nq
          replace hCr := hb6.only hor (by simp; have := HDD.out; omega)
          clear f3 f4
          obtain ⟨wq, hwq⟩ : ∃ wq, wo.drewN nq = wq := ⟨_, rfl⟩
          rw [hwq] at hmr hor hCr ⊢
          clear hwq
          by_cases hlt : j < z
          · have hltI : (j : Int) < (z : Int) := by omega
            have hjm : j < m.length := by rw [HM.out.2.1]; exact hlt
            have hoj : o + j < l.length := by rw [HL.out]; omega
            have e6 := hCr.cell 6 _ rfl
            have e5 := hCr.cell 5 _ rfl
            have hst := splice_step l m o j (by rw [HL.out, HM.out.2.1]; exact hr) hjm
            have hspl : (splice l o (m.take j)).length = L := by rw [splice_length _ _ _ (by simp; have := HL.out; omega)]; exact HL.out
            have hol := hmr.get (i := o + j) (by rw [hspl]; omega)
            have hov : (splice l o (m.take j))[o + j]'(by rw [hspl]; omega) = l[o + j] := by
              apply Option.some.inj
              rw [← List.getElem?_eq_getElem, ← List.getElem?_eq_getElem, splice_get _ _ _ (by simp; have := HL.out; omega), if_neg (by omega), if_neg (by simp; omega)]
            rw [hov] at hol
            have hfz := hmr.frz (o + j)
            have hv := HM.out.2.2 j hjm hoj
            have hms := hmr.set (o + j) m[j]
            rw [hst] at hms
            have hos : Only [bb] wq (wq.setCell ⟨bb, o + j, none⟩ (.int .u8 (m[j].toNat : Int))) := (Only.refl _ _).setCell (by simp) _
            have hor' := hor.trans hos
            have hwj : IntKind.i64.wrap ((o : Int) + (j : Int)) = ((o + j : Nat) : Int) := by rw [← Int.natCast_add]; exact IntWalk.i64_in _ (by omega)
            have p0 : (0 : Int) ≤ ((o + j : Nat) : Int) := by omega
            have p1 : ((o + j : Nat) : Int) < (L : Int) := by omega
            have hstay : splice l o (m.take (j + 1)) = splice l o (m.take j) := by
              rw [← hst]
              apply List.ext_getElem?
              intro i
              rw [List.getElem?_set]
              by_cases e : o + j = i
              · subst e
                rw [if_pos rfl, if_pos (by rw [hspl]; omega), hv, ← hov, List.getElem?_eq_getElem]
              · rw [if_neg e]
            have hmr' : MemC wq bb L (splice l o (m.take (j + 1))) := by rw [hstay]; exact hmr
            have HX := Lib.hid (And.intro hmr' hor)
            clear hms hor' hos hst hv hov hspl hmr hor hCr hstay hmr'
            go_wp2_with fail
            go_roundw
            case rel => exact ⟨j + 1, by omega, by go_num, HX.out.1, HX.out.2⟩
            case measure => simp [intOf]; omega
          · obtain rfl : j = z := by omega
            have hltI : ¬ (j : Int) < (j : Int) := by omega
            have hfin : MemC wq bb L (splice l o m) := by
              have := HM.out.2.1
              rw [← this, List.take_length] at hmr
              exact hmr
            have hspl : (splice l o m).length = L := by rw [splice_length _ _ _ (by rw [HM.out.2.1, HL.out]; omega)]; exact HL.out
            have hpz := HCC.out.2.1.only hor (fun z' hz => by simp; rintro rfl; exact hd _ hz (by simp))
            obtain ⟨hr1, hn1, hs1⟩ : r = 6 ∧ n' = n ∧ s' = s.next := by
              simp only [Prod.mk.injEq] at hE
              exact ⟨hE.1.symm, hE.2.1.symm, hE.2.2.symm⟩
            have hsame : splice l o m = l := by
              rw [HM.out.1]
              apply List.ext_getElem?
              intro i
              have hlz : ((l.drop o).take j).length = j := by simp; have := HL.out; omega
              rw [splice_get _ _ _ (by rw [hlz, HL.out]; omega), hlz]
              split
              · rfl
              · split
                · rw [List.getElem?_take_of_lt (by omega), List.getElem?_drop]
                  congr 1; omega
                · rfl
            rw [hsame] at hfin
            subst hn1 hs1
            have hfinal : RNand wq rb bb nb kb (some ⟨qb, 0, none⟩) sa sz gc gd ge l (N + 1) n' := HCC.out.1.bytes hor (by rw [HL.out]; exact hfin) rfl HFL.out HNO.out
            have hof : Only [bb, nb, kb, qb] w0 wq := HCC.out.2.2.trans (hor.mono (by simp))
            have HFF := Lib.hid (And.intro hfinal (And.intro hpz hof))
            have HR1 := Lib.hid hr1
            clear hr1 hfinal hof hfin hmr hor hpz hspl hE hCr hsame
            go_wp2_with fail
            go_ret
            refine ⟨by rw [HR1.out]; rfl, ?_⟩
            first | exact ⟨_, HFF.out.1, HFF.out.2.1, HFF.out.2.2⟩ | exact ⟨⟨_, HFF.out.1⟩, HFF.out.2.1, HFF.out.2.2⟩
  · rw [if_neg hok] at hE
    obtain ⟨rfl, rfl, rfl⟩ : 1 = r ∧ n = n' ∧ s = s' := by simpa using hE
    have HP := Lib.hid (rnand_page_no h b 0 hok)
    clear hok hE
    go_enter Try.func27, Try.ntmps27
    go_wp2_with (go_at_call 52; refine HP.out.mono ?_; rintro e w' ⟨rfl, rfl⟩)
    go_ret
    exact ⟨rfl, l, h.mono (Nat.le_succ N), hp, Only.refl _ _⟩
end
end Go.Proofs.Ytionjddcahgpkaa
