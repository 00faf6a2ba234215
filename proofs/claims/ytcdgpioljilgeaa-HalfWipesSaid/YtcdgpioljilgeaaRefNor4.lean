/- The reference's chip: programming. -/
import Derived.Test.YtcdgpioljilgeaaRefNor3
set_option linter.unusedVariables false
set_option maxRecDepth 100000
set_option linter.unusedSimpArgs false
namespace Go.Proofs.Ytcdgpioljilgeaa
open Go.RowKit

section
variable {w : World} {rb bb kb qb : Nat} {g : Geo} {l : List UInt8} {N : Nat} {cnt : Int → Int} {GP : List Nat} {s : PS}

set_option maxHeartbeats 4000000 in
theorem rnor_program (h : RNor w rb bb kb (some ⟨qb, 0, none⟩) g l N cnt) (hp : RPow w qb GP s) (hd : ∀ x ∈ GP, x ∉ [rb, bb, kb]) (x : Int) (hx : -9223372036854775808 ≤ x ∧ x ≤ 9223372036854775807)
    (A : Option Addr) (n c : Nat) (bs : List UInt8) (hb : Byts w A bs) (hn : n = bs.length) (hn2 : bs.length ≤ 9223372036854775807) (hA : 0 < bs.length → ∀ y, A = some y → y.block ≠ bb ∧ y.block ≠ qb) (hdone : s.done + bs.length ≤ 1000000000000) :
    Calls Try.prog 38 #[.pointer (some ⟨rb, 0, none⟩), .int .i64 x, .slice A n c] w fun e w' => e = .returned (.int .i64 (progE s l x bs).1) ∧ RNor w' rb bb kb (some ⟨qb, 0, none⟩) g (progE s l x bs).2.1 N cnt ∧ RPow w' qb GP (progE s l x bs).2.2 ∧ Only [bb, qb] w w' := by
  subst hn
  obtain ⟨w0, rfl⟩ : ∃ w0 : World, w0 = w := ⟨_, rfl⟩
  have H1 := rnor_within h x bs.length hx (by omega)
  by_cases ha : askE l.length x bs.length = 0
  · obtain ⟨a1, a2, a3⟩ := askE_ok ha
    obtain ⟨o, rfl⟩ : ∃ o : Nat, x = (o : Int) := ⟨x.toNat, by omega⟩
    rw [decide_eq_true ha] at H1
    have H1 := Lib.hid H1
    have hz := h.size
    have hol : o + bs.length ≤ l.length := by omega
    have HE := Lib.hid (show progE s l (o : Int) bs = (if bitsBad l o bs = true then (9, l, s) else (if (progL s l o bs).2.2 = true then 0 else 6, (progL s l o bs).1, (progL s l o bs).2.1)) by unfold progE; rw [if_pos ha, Int.toNat_natCast])
    clear ha
    obtain ⟨L, hL⟩ : ∃ L, l.length = L := ⟨_, rfl⟩
    rw [hL] at hz hol
    have HL := Lib.hid hL
    clear hL a1 a2 a3
    have h0 := h
    have hp0 := hp
    go_enter Try.func38, Try.ntmps38
    go_upto_region 3 with (go_at_call 71; refine H1.out.mono ?_; rintro e w' ⟨rfl, rfl⟩)
    go_upto_region 4 with fail
    go_loopw [7] (fun v7 wr => ∃ j : Nat, j ≤ bs.length ∧ v7 = .int .i64 (j : Int) ∧ (∃ m, wr = w0.drewN m) ∧ Hid (bitsBad l (o + j) (bs.drop j) = bitsBad l o bs)) (fun v7 _ => bs.length - (intOf v7).toNat)
    case atStart => exact ⟨0, Nat.zero_le _, rfl, ⟨0, rfl⟩, rfl⟩
    case round =>
      obtain ⟨j, hj, rfl, ⟨m, rfl⟩, HB⟩ := hrel
      have hC := h0.drewN m
      have hpw := hp0.below (w' := w0.drewN m) (below_drewN (Below.refl _ _) m)
      have hbm := hb.below (w' := w0.drewN m) (below_drewN (Below.refl _ _) m)
      have ho : Only [bb, qb] w0 (w0.drewN m) := (Only.refl _ _).drewN m
      obtain ⟨wr, hwr⟩ : ∃ wr, w0.drewN m = wr := ⟨_, rfl⟩
      rw [hwr] at hC hpw hbm ho ⊢
      have HWR := Lib.hid hwr
      clear hwr
      by_cases hlt : j < bs.length
      · have hoj : o + j < l.length := by have := HL.out; omega
        have hojL : o + j < L := by have := HL.out; omega
        obtain ⟨b, off, rfl, -⟩ := hb.at hlt
        have c6 : wr.cell? ⟨rb, 6, none⟩ = some (.slice (some ⟨bb, 0, none⟩) L L) := by rw [← HL.out]; exact hC.blk.cell 6 _ rfl
        have hcb := hbm.cell hlt
        have hcl := hC.mem.get hoj
        have hst := bitsBad_step l o bs j hlt hoj
        have han := andNot_u8 bs[j] l[o + j]
        have HST := Lib.hid hst
        have hwj : IntKind.i64.wrap ((o : Int) + (j : Int)) = ((o + j : Nat) : Int) := by rw [← Int.natCast_add]; exact IntWalk.i64_in _ (by omega)
        have q0 : (0 : Int) ≤ ((o + j : Nat) : Int) := by omega
        have q1 : ((o + j : Nat) : Int) < (L : Int) := by omega
        have q2 : (j : Int) < (bs.length : Int) := by omega
        clear hst hb hp h h0 hp0
        by_cases hbit : (bs[j] &&& ~~~ l[o + j]) = 0
        · have hn0 : bits .andNot .u8 (bs[j].toNat : Int) (l[o + j].toNat : Int) = 0 := by rw [han, hbit]; rfl
          have hnx : bitsBad l (o + (j + 1)) (bs.drop (j + 1)) = bitsBad l o bs := by
            rw [← HB.out, HST.out, hbit]; rfl
          have HNX := Lib.hid hnx
          clear han hbit hnx HST HB hC hpw hbm ho
          generalize bs[j] = xx at *
          generalize l[o + j] = yy at *
          go_upto_region 6 with fail
          go_quiet (fail)
          clear c6 hcb hcl hwj q0 q1 q2
          go_wp2_with fail
          go_roundw
          case rel => exact ⟨j + 1, by omega, by go_num, ⟨m + nq, by rw [← HWR.out, World.drewN_drewN]⟩, HNX⟩
          case measure => simp [intOf]; omega
        · have hbd : bitsBad l o bs = true := by
            rw [← HB.out, HST.out]
            simp [hbit]
          have hv : ¬ ((bs[j] &&& ~~~ l[o + j]).toNat : Int) = 0 := by
            intro e
            apply hbit
            apply UInt8.toNat_inj.1
            simpa using e
          have HBD := Lib.hid hbd
          clear hbit hbd HST HB hbm
          generalize bs[j] = xx at *
          generalize l[o + j] = yy at *
          generalize (xx &&& ~~~ yy).toNat = v at *
          have hv2 : ((v : Int) == 0) = false := by simpa using hv
          have HCC := Lib.hid (And.intro hC (And.intro hpw ho))
          clear hC hpw ho
          go_upto_region 6 with fail
          go_quiet (fail)
          clear c6 hcb hcl hwj q0 q1 q2
          go_wp2_with fail
          go_ret
          rw [HE.out, if_pos HBD.out]
          exact ⟨rfl, HCC.out.1.drewN nq, HCC.out.2.1.below (below_drewN (Below.refl _ _) nq), HCC.out.2.2.drewN nq⟩
      · obtain rfl : j = bs.length := by omega
        have hgood : bitsBad l o bs = false := by rw [← HB.out]; exact bitsBad_end _ _ _
        have HG := Lib.hid hgood
        clear hgood HB
        clear h0 hp0 h hp
        go_upto_region 9 with fail
        go_loopw [8] (fun v8 wr => ∃ (j : Nat) (si : PS) (li : List UInt8), j ≤ bs.length ∧ v8 = .int .i64 (j : Int) ∧ Hid (progL si li (o + j) (bs.drop j) = progL s l o bs) ∧ Hid (li.length = L) ∧ RNor wr rb bb kb (some ⟨qb, 0, none⟩) g li N cnt ∧ RPow wr qb GP si ∧ si.done ≤ s.done + j ∧ Only [bb, qb] w0 wr) (fun v8 _ => bs.length - (intOf v8).toNat)
        case atStart => exact ⟨0, s, l, Nat.zero_le _, rfl, rfl, HL, hC, hpw, Nat.le_refl _, ho⟩
        case round =>
          clear hC hpw ho hbm
          obtain ⟨j, si, li, hj, rfl, HP, HLi, hC, hp, hdn, ho⟩ := hrel
          have c5 := hC.blk.cell 5 _ rfl
          have c6 : wr.cell? ⟨rb, 6, none⟩ = some (.slice (some ⟨bb, 0, none⟩) L L) := by rw [← HLi.out]; exact hC.blk.cell 6 _ rfl
          by_cases hlt : j < bs.length
          · have hojL : o + j < L := by omega
            have hoj : o + j < li.length := by rw [HLi.out]; exact hojL
            obtain ⟨b, off, rfl, -⟩ := hb.at hlt
            have hAb := hA (by omega) _ rfl
            have hqF := hp.mem
            have hqn := hd _ hqF
            simp only [List.mem_cons, List.not_mem_nil, or_false, not_or] at hqn
            have hnf : ∀ y ∈ [rb, bb, kb], y ∉ [qb] := by simp; omega
            obtain ⟨xx, hxx⟩ : ∃ xx, bs[j] = xx := ⟨_, rfl⟩
            have hbr : Byts wr (some ⟨b, off, none⟩) bs := hb.only ho (fun y e _ => by cases e; simp; exact hAb)
            cases hdid : si.did with
            | true =>
              have htorn := PS.did_torn hdid
              have hPn := progL_did si li o bs j hlt hdid
              rw [hxx] at hPn
              have HPn := Lib.hid (hPn.symm.trans HP.out)
              have HD := Lib.hid (And.intro hdid htorn)
              clear hdid htorn hPn HP
              go_upto_region 12 with (go_at_call 70; refine (rpow_step _ _ _ _ hp (by omega)).mono ?_; rintro e w2 ⟨rfl, hp2, ho2⟩; rw [HD.out.1, HD.out.2])
              have hC2 := hC.only ho2 hnf
              have d6 : w2.cell? ⟨rb, 6, none⟩ = some (.slice (some ⟨bb, 0, none⟩) L L) := by rw [← HLi.out]; exact hC2.blk.cell 6 _ rfl
              have hb2 : Byts w2 (some ⟨b, off, none⟩) bs := hbr.only ho2 (fun y e _ => by cases e; simp; exact hAb.2)
              have hcb := hb2.cell hlt
              rw [hxx] at hcb
              have hf := hC2.mem.frz (o + j)
              have hold := hC2.mem.get hoj
              have hms := hC2.mem.set (o + j) xx
              have hos : Only [bb] w2 (w2.setCell ⟨bb, o + j, none⟩ (.int .u8 (xx.toNat : Int))) := (Only.refl _ _).setCell (by simp) _
              have hC3 := hC2.turn hos (by simpa using hC2.d1) (by simpa using (Ne.symm hC2.d3)) hms (by simp)
              have hp3 := hp2.only hos (fun y hy => by simp; rintro rfl; exact hd _ hy (by simp))
              have ho3 := ho.trans' ((ho2.mono (S' := [bb, qb]) (by simp)).trans (hos.mono (by simp))) (by simp)
              have hnx := si.next_done_le
              have HX := Lib.hid (And.intro hC3 (And.intro hp3 ho3))
              have HLn := Lib.hid (show (li.set (o + j) xx).length = L by rw [List.length_set]; exact HLi.out)
              have hwj : IntKind.i64.wrap ((o : Int) + (j : Int)) = ((o + j : Nat) : Int) := by rw [← Int.natCast_add]; exact IntWalk.i64_in _ (by omega)
              have q0 : (0 : Int) ≤ ((o + j : Nat) : Int) := by omega
              have q1 : ((o + j : Nat) : Int) < (L : Int) := by omega
              have q2 : (j : Int) < (bs.length : Int) := by omega
              clear hC3 hp3 ho3 hos hms hC2 hp2 ho2 hC hp ho c5 c6 hxx hbr hb2 hb
              go_upto_region 16 with fail
              go_region
              clear hcb hold hf d6 hwj q0 q1 q2
              go_wp2_with fail
              go_roundw
              case rel => exact ⟨j + 1, si.next, li.set (o + j) xx, by omega, by go_num, HPn, HLn, HX.out.1.drewN 1, HX.out.2.1.below (below_drewN (Below.refl _ _) 1), by omega, HX.out.2.2.drewN 1⟩
              case measure => simp [intOf]; omega
            | false =>
              cases htorn : si.torn with
              | true =>
                have hPn := progL_torn si li o bs j hlt hoj hdid htorn
                rw [hxx] at hPn
                have HPn := Lib.hid (hPn.symm.trans HP.out)
                have HD := Lib.hid (And.intro hdid htorn)
                clear hdid htorn hPn HP
                go_upto_region 12 with (go_at_call 70; refine (rpow_step _ _ _ _ hp (by omega)).mono ?_; rintro e w2 ⟨rfl, hp2, ho2⟩; rw [HD.out.1, HD.out.2])
                have hC2 := hC.only ho2 hnf
                have d5 := hC2.blk.cell 5 _ rfl
                have d6 : w2.cell? ⟨rb, 6, none⟩ = some (.slice (some ⟨bb, 0, none⟩) L L) := by rw [← HLi.out]; exact hC2.blk.cell 6 _ rfl
                obtain ⟨AR, cR, hrb⟩ := hp2.blk
                have r2 : w2.cell? ⟨qb, 2, none⟩ = some (.int .u8 (si.mask.toNat : Int)) := by rw [← si.next_mask]; exact hrb.cell 2 _ rfl
                have hb2 : Byts w2 (some ⟨b, off, none⟩) bs := hbr.only ho2 (fun y e _ => by cases e; simp; exact hAb.2)
                have hcb := hb2.cell hlt
                rw [hxx] at hcb
                have hf := hC2.mem.frz (o + j)
                have hold := hC2.mem.get hoj
                obtain ⟨yy, hyy⟩ : ∃ yy, li[o + j] = yy := ⟨_, rfl⟩
                rw [hyy] at hold HPn
                have hand := and_u8 yy si.mask
                have hor := or_u8 xx (yy &&& si.mask)
                generalize (yy &&& si.mask) = za at *
                generalize (xx ||| za) = zz at *
                have hms := hC2.mem.set (o + j) zz
                have hos : Only [bb] w2 (w2.setCell ⟨bb, o + j, none⟩ (.int .u8 (zz.toNat : Int))) := (Only.refl _ _).setCell (by simp) _
                have hC3 := hC2.turn hos (by simpa using hC2.d1) (by simpa using (Ne.symm hC2.d3)) hms (by simp)
                have hp3 := hp2.only hos (fun y hy => by simp; rintro rfl; exact hd _ hy (by simp))
                have ho3 := ho.trans' ((ho2.mono (S' := [bb, qb]) (by simp)).trans (hos.mono (by simp))) (by simp)
                have HX := Lib.hid (And.intro hC3 (And.intro hp3 ho3))
                have hwj : IntKind.i64.wrap ((o : Int) + (j : Int)) = ((o + j : Nat) : Int) := by rw [← Int.natCast_add]; exact IntWalk.i64_in _ (by omega)
                have q0 : (0 : Int) ≤ ((o + j : Nat) : Int) := by omega
                have q1 : ((o + j : Nat) : Int) < (L : Int) := by omega
                have q2 : (j : Int) < (bs.length : Int) := by omega
                clear hC3 hp3 ho3 hos hms hC2 hp2 ho2 hC hp ho c5 c6 hxx hbr hb2 hb hyy hrb
                go_upto_region 13 with fail
                go_region
                clear hcb hold hf d6 d5 r2 hwj q0 q1 q2 hand hor
                go_wp2_with fail
                go_ret
                rw [HE.out, if_neg (by rw [HG.out]; decide), ← HPn.out]
                exact ⟨rfl, HX.out.1.drewN 1, HX.out.2.1.below (below_drewN (Below.refl _ _) 1), HX.out.2.2.drewN 1⟩
              | false =>
                have HPn := Lib.hid ((progL_off si li o bs j hlt hdid htorn).symm.trans HP.out)
                have HD := Lib.hid (And.intro hdid htorn)
                clear hdid htorn HP hxx
                go_upto_region 12 with (go_at_call 70; refine (rpow_step _ _ _ _ hp (by omega)).mono ?_; rintro e w2 ⟨rfl, hp2, ho2⟩; rw [HD.out.1, HD.out.2])
                go_wp2_with fail
                go_ret
                rw [HE.out, if_neg (by rw [HG.out]; decide), ← HPn.out]
                exact ⟨rfl, hC.only ho2 hnf, hp2, ho.trans' (ho2.mono (S' := [bb, qb]) (by simp)) (by simp)⟩
          · obtain rfl : j = bs.length := by omega
            have HPe := Lib.hid ((progL_end si li (o + bs.length) bs).symm.trans HP.out)
            clear HP
            go_wp2_with fail
            go_ret
            rw [HE.out, if_neg (by rw [HG.out]; decide), ← HPe.out]
            exact ⟨rfl, hC, hp, ho⟩
  · have ha1 := askE_bad ha
    rw [decide_eq_false ha] at H1
    have H1 := Lib.hid H1
    have HE := Lib.hid (show progE s l x bs = (1, l, s) by unfold progE; rw [if_neg ha])
    clear ha ha1
    go_enter Try.func38, Try.ntmps38
    go_wp2_with (go_at_call 71; refine H1.out.mono ?_; rintro e w' ⟨rfl, rfl⟩)
    go_ret
    rw [HE.out]
    exact ⟨rfl, h, hp, Only.refl _ _⟩
end
end Go.Proofs.Ytcdgpioljilgeaa
