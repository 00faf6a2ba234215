/- Programming a chip. -/
import Derived.Test.YtcdgpioljilgeaaNor2
set_option linter.unusedVariables false
set_option maxRecDepth 100000
set_option linter.unusedSimpArgs false
namespace Go.Proofs.Ytcdgpioljilgeaa
open Go.RowKit

theorem andNot_u8 (a b : UInt8) : bits .andNot .u8 (a.toNat : Int) (b.toNat : Int) = ((a &&& ~~~b).toNat : Int) := by
  have e1 : ∀ x : UInt8, BitVec.ofInt 8 (x.toNat : Int) = x.toBitVec := fun x => by
    apply BitVec.eq_of_toNat_eq
    rw [ofInt_u8 _ x.toNat_lt]
    rfl
  show IntKind.u8.wrap ((BitVec.ofInt 8 (a.toNat : Int) &&& ~~~BitVec.ofInt 8 (b.toNat : Int)).toNat : Int) = _
  rw [e1, e1, IntKind.wrap_u8']
  have h1 : (a &&& ~~~b).toNat = (a.toBitVec &&& ~~~b.toBitVec).toNat := rfl
  have h2 := (a &&& ~~~b).toNat_lt
  rw [h1] at h2 ⊢
  omega

theorem Chip.turn {w w' : World} {cb bb mb : Nat} {pp : Option Addr} {g : Geo} {l l' : List UInt8} {N : Nat} {cnt : Int → Int} {S : List Nat} (h : Chip w cb bb mb pp g l N cnt) (ho : Only S w w') (h1 : cb ∉ S) (h2 : mb ∉ S)
    (hm : MemC w' bb l.length l') (hl : l'.length = l.length) : Chip w' cb bb mb pp g l' N cnt := by
  obtain ⟨b1, b2, ⟨f, b3, b4⟩, b5, b6, b7, b8, b9, b10⟩ := h
  exact ⟨by rw [hl]; exact b1.only ho h1, by rw [hl]; exact hm, ⟨f, b3.only ho h2, b4⟩, b5, b6, by rw [hl]; exact b7, b8, b9, b10⟩

/-- What a call to program answers, and what it makes of bytes and power. -/
def progE (s : PS) (l : List UInt8) (x : Int) (bs : List UInt8) : Int × List UInt8 × PS :=
  if askE l.length x bs.length = 0 then
    (if bitsBad l x.toNat bs = true then (9, l, s) else (if (progL s l x.toNat bs).2.2 = true then 0 else 6, (progL s l x.toNat bs).1, (progL s l x.toNat bs).2.1))
  else (1, l, s)

theorem progE_length (s : PS) (l : List UInt8) (x : Int) (bs : List UInt8) : (progE s l x bs).2.1.length = l.length := by
  unfold progE
  split
  · split
    · rfl
    · exact progL_length _ _ _ _
  · rfl

theorem bitsBad_step (l : List UInt8) (o : Nat) (bs : List UInt8) (j : Nat) (hj : j < bs.length) (ho : o + j < l.length) : bitsBad l (o + j) (bs.drop j) = ((bs[j] &&& ~~~ l[o + j]) != 0 || bitsBad l (o + (j + 1)) (bs.drop (j + 1))) := by
  rw [List.drop_eq_getElem_cons hj]
  conv => lhs; unfold bitsBad
  rw [List.getD_eq_getElem?_getD, List.getElem?_eq_getElem ho]
  rfl
theorem bitsBad_end (l : List UInt8) (o : Nat) (bs : List UInt8) : bitsBad l o (bs.drop bs.length) = false := by rw [List.drop_length]; rfl
theorem progL_did (s : PS) (l : List UInt8) (o : Nat) (bs : List UInt8) (j : Nat) (hj : j < bs.length) (hd : s.did = true) : progL s l (o + j) (bs.drop j) = progL s.next (l.set (o + j) bs[j]) (o + (j + 1)) (bs.drop (j + 1)) := by
  rw [List.drop_eq_getElem_cons hj]
  conv => lhs; unfold progL
  rw [if_pos hd]
  rfl
theorem progL_torn (s : PS) (l : List UInt8) (o : Nat) (bs : List UInt8) (j : Nat) (hj : j < bs.length) (ho : o + j < l.length) (hd : s.did = false) (ht : s.torn = true) : progL s l (o + j) (bs.drop j) = (l.set (o + j) (bs[j] ||| (l[o + j] &&& s.mask)), s.next, false) := by
  rw [List.drop_eq_getElem_cons hj]
  conv => lhs; unfold progL
  rw [if_neg (by rw [hd]; decide), if_pos ht, List.getD_eq_getElem?_getD, List.getElem?_eq_getElem ho]
  rfl
theorem progL_off (s : PS) (l : List UInt8) (o : Nat) (bs : List UInt8) (j : Nat) (hj : j < bs.length) (hd : s.did = false) (ht : s.torn = false) : progL s l (o + j) (bs.drop j) = (l, s.next, false) := by
  rw [List.drop_eq_getElem_cons hj]
  conv => lhs; unfold progL
  rw [if_neg (by rw [hd]; decide), if_neg (by rw [ht]; decide)]
theorem progL_end (s : PS) (l : List UInt8) (o : Nat) (bs : List UInt8) : progL s l o (bs.drop bs.length) = (l, s, true) := by rw [List.drop_length]; rfl

theorem Pow.head {w : World} {b : Nat} {F : List Nat} {s : PS} (h : Pow w b F s) : b ∈ F := by
  obtain ⟨m, G, h1, h2, rfl, h3⟩ := h
  simp
theorem PS.did_torn {s : PS} (h : s.did = true) : s.torn = false := by
  unfold PS.did PS.torn at *
  cases s.off <;> simp_all
theorem PS.next_mask' (s : PS) : s.next.mask = s.mask := s.next_mask

section
variable {w : World} {cb bb mb pb : Nat} {g : Geo} {l : List UInt8} {N : Nat} {cnt : Int → Int} {FP : List Nat} {s : PS}

set_option maxHeartbeats 4000000 in
theorem nor_program (h : Chip w cb bb mb (some ⟨pb, 0, none⟩) g l N cnt) (hp : Pow w pb FP s) (hd : ∀ x ∈ FP, x ∉ [cb, bb, mb]) (x : Int) (hx : -9223372036854775808 ≤ x ∧ x ≤ 9223372036854775807)
    (A : Option Addr) (n c : Nat) (bs : List UInt8) (hb : Byts w A bs) (hn : n = bs.length) (hn2 : bs.length ≤ 9223372036854775807) (hA : 0 < bs.length → ∀ y, A = some y → y.block ≠ bb ∧ y.block ≠ pb) (hdone : s.done + bs.length ≤ 1000000000000) :
    Calls Try.prog 19 #[.pointer (some ⟨cb, 0, none⟩), .int .i64 x, .slice A n c] w fun e w' => e = .returned (.int .i64 (progE s l x bs).1) ∧ Chip w' cb bb mb (some ⟨pb, 0, none⟩) g (progE s l x bs).2.1 N cnt ∧ Pow w' pb FP (progE s l x bs).2.2 ∧ Only [bb, pb] w w' := by
  subst hn
  obtain ⟨w0, rfl⟩ : ∃ w0 : World, w0 = w := ⟨_, rfl⟩
  have H1 := Lib.hid (nor_ask h x bs.length hx (by omega))
  by_cases ha : askE l.length x bs.length = 0
  · obtain ⟨a1, a2, a3⟩ := askE_ok ha
    obtain ⟨o, rfl⟩ : ∃ o : Nat, x = (o : Int) := ⟨x.toNat, by omega⟩
    have HA := Lib.hid ha
    have hz := h.size
    have hol : o + bs.length ≤ l.length := by omega
    have c5 := h.blk.cell 5 _ rfl
    have c6 := h.blk.cell 6 _ rfl
    have hm := h.mem
    have HE := Lib.hid (show progE s l (o : Int) bs = (if bitsBad l o bs = true then (9, l, s) else (if (progL s l o bs).2.2 = true then 0 else 6, (progL s l o bs).1, (progL s l o bs).2.1)) by unfold progE; rw [if_pos ha, Int.toNat_natCast])
    clear ha
    have HC := Lib.hid h
    clear h
    obtain ⟨L, hL⟩ : ∃ L, l.length = L := ⟨_, rfl⟩
    rw [hL] at c6 hz hol H1 HA
    have HL := Lib.hid hL
    clear hL a1 a2 a3
    go_enter Try.func19, Try.ntmps19
    go_upto_region 2 with (go_at_call 62; refine H1.out.mono ?_; rintro e w' ⟨rfl, rfl⟩; rw [HA.out])
    go_upto_region 5 with fail
    go_loopw [24] (fun v24 wr => ∃ j : Nat, j ≤ bs.length ∧ v24 = .int .i64 (j : Int) ∧ w0 = wr ∧ Hid (bitsBad l (o + j) (bs.drop j) = bitsBad l o bs)) (fun v24 _ => bs.length - (intOf v24).toNat)
    case atStart => exact ⟨0, Nat.zero_le _, rfl, rfl, rfl⟩
    case round =>
      obtain ⟨j, hj, rfl, rfl, HB⟩ := hrel
      by_cases hlt : j < bs.length
      · have hoj : o + j < l.length := by have := HL.out; omega
        obtain ⟨b, off, rfl, hcb⟩ := hb.at hlt
        have hcl := hm.get hoj
        have hst := bitsBad_step l o bs j hlt hoj
        have han := andNot_u8 bs[j] l[o + j]
        have HST := Lib.hid hst
        clear hst
        have hojL : o + j < L := by have := HL.out; omega
        by_cases hbit : (bs[j] &&& ~~~ l[o + j]) = 0
        · have hn0 : bits .andNot .u8 (bs[j].toNat : Int) (l[o + j].toNat : Int) = 0 := by rw [han, hbit]; rfl
          have hnx : bitsBad l (o + (j + 1)) (bs.drop (j + 1)) = bitsBad l o bs := by
            rw [← HB.out, HST.out, hbit]; rfl
          have HNX := Lib.hid hnx
          clear han hbit hnx HST HB
          generalize bs[j] = xx at *
          generalize l[o + j] = yy at *
          go_wp2_with fail
          go_roundw
          case rel => exact ⟨j + 1, by omega, by go_num, trivial, HNX⟩
          case measure => simp [intOf]; omega
        · have hbd : bitsBad l o bs = true := by
            rw [← HB.out, HST.out]
            simp [hbit]
          have hv : ¬ ((bs[j] &&& ~~~ l[o + j]).toNat : Int) = 0 := by
            intro e
            apply hbit
            apply UInt8.toNat_inj.1
            simpa using e
          have HBD := Lib.hid hbd
          clear hbit hbd HST HB
          generalize bs[j] = xx at *
          generalize l[o + j] = yy at *
          generalize (xx &&& ~~~ yy).toNat = v at *
          have hv2 : ((v : Int) == 0) = false := by simpa using hv
          go_wp2_with fail
          go_ret
          rw [HE.out, if_pos HBD.out]
          exact ⟨rfl, HC.out, hp, Only.refl _ _⟩
      · obtain rfl : j = bs.length := by omega
        have hgood : bitsBad l o bs = false := by rw [← HB.out]; exact bitsBad_end _ _ _
        have HG := Lib.hid hgood
        clear hgood HB
        go_upto_region 11 with fail
        go_loopw [44] (fun v44 wr => ∃ (j : Nat) (si : PS) (li : List UInt8), j ≤ bs.length ∧ v44 = .int .i64 (j : Int) ∧ Hid (progL si li (o + j) (bs.drop j) = progL s l o bs) ∧ Hid (li.length = L) ∧ Chip wr cb bb mb (some ⟨pb, 0, none⟩) g li N cnt ∧ Pow wr pb FP si ∧ si.done ≤ s.done + j ∧ Only [bb, pb] w0 wr) (fun v44 _ => bs.length - (intOf v44).toNat)
        case atStart => exact ⟨0, s, l, Nat.zero_le _, rfl, rfl, HL, HC.out, hp, Nat.le_refl _, Only.refl _ _⟩
        case round =>
          clear hp hm c5 c6 HC
          obtain ⟨j, si, li, hj, rfl, HP, HLi, hC, hp, hdn, ho⟩ := hrel
          have c5 := hC.blk.cell 5 _ rfl
          have c6 : wr.cell? ⟨cb, 6, none⟩ = some (.slice (some ⟨bb, 0, none⟩) L L) := by rw [← HLi.out]; exact hC.blk.cell 6 _ rfl
          by_cases hlt : j < bs.length
          · have hojL : o + j < L := by omega
            have hoj : o + j < li.length := by rw [HLi.out]; exact hojL
            obtain ⟨b, off, rfl, -⟩ := hb.at hlt
            have hAb := hA (by omega) _ rfl
            have hbr : Byts wr (some ⟨b, off, none⟩) bs := hb.only ho (fun y e _ => by cases e; simp; exact hAb)
            have hcb := hbr.cell hlt
            have hpF := hp.head
            have hpn := hd _ hpF
            simp only [List.mem_cons, List.not_mem_nil, or_false, not_or] at hpn
            have hnf : ∀ y ∈ [cb, bb, mb], y ∉ [pb] := by simp; omega
            have hbsj : bs[j] = bs[j] := rfl
            obtain ⟨xx, hxx⟩ : ∃ xx, bs[j] = xx := ⟨_, rfl⟩
            cases hdid : si.did with
            | true =>
              have htorn := PS.did_torn hdid
              have hPn := progL_did si li o bs j hlt hdid
              rw [hxx] at hPn hcb
              have HPn := Lib.hid (hPn.symm.trans HP.out)
              have HD := Lib.hid (And.intro hdid htorn)
              clear hdid htorn hPn HP hxx hbsj
              go_upto_region 14 with (go_at_call 63; refine (pow_step _ _ _ _ hp (by omega)).mono ?_; rintro e w2 ⟨rfl, hp2, ho2⟩; rw [HD.out.1, HD.out.2])
              have hC2 := hC.only ho2 hnf
              have d6 : w2.cell? ⟨cb, 6, none⟩ = some (.slice (some ⟨bb, 0, none⟩) L L) := by rw [← HLi.out]; exact hC2.blk.cell 6 _ rfl
              have hf := hC2.mem.frz (o + j)
              have hold := hC2.mem.get hoj
              have hms := hC2.mem.set (o + j) xx
              have hos : Only [bb] w2 (w2.setCell ⟨bb, o + j, none⟩ (.int .u8 (xx.toNat : Int))) := (Only.refl _ _).setCell (by simp) _
              have hC3 := hC2.turn hos (by simpa using hC2.d1) (by simpa using (Ne.symm hC2.d3)) hms (by simp)
              have hp3 := hp2.only hos (fun y hy => by simp; rintro rfl; exact hd _ hy (by simp))
              have ho3 := ho.trans' ((ho2.mono (S' := [bb, pb]) (by simp)).trans (hos.mono (by simp))) (by simp)
              have hnx := si.next_done_le
              have HX := Lib.hid (And.intro hC3 (And.intro hp3 ho3))
              have HLn := Lib.hid (show (li.set (o + j) xx).length = L by rw [List.length_set]; exact HLi.out)
              clear hC3 hp3 ho3 hos hms hC2 hp2 ho2 hC hp ho c5 c6
              go_wp2_with fail
              go_roundw
              case rel => exact ⟨j + 1, si.next, li.set (o + j) xx, by omega, by go_num, HPn, HLn, HX.out.1, HX.out.2.1, by omega, HX.out.2.2⟩
              case measure => simp [intOf]; omega
            | false =>
              cases htorn : si.torn with
              | true =>
                have hPn := progL_torn si li o bs j hlt hoj hdid htorn
                rw [hxx] at hPn hcb
                have HPn := Lib.hid (hPn.symm.trans HP.out)
                have HD := Lib.hid (And.intro hdid htorn)
                clear hdid htorn hPn HP hxx hbsj
                go_upto_region 14 with (go_at_call 63; refine (pow_step _ _ _ _ hp (by omega)).mono ?_; rintro e w2 ⟨rfl, hp2, ho2⟩; rw [HD.out.1, HD.out.2])
                have hC2 := hC.only ho2 hnf
                have d5 := hC2.blk.cell 5 _ rfl
                have d6 : w2.cell? ⟨cb, 6, none⟩ = some (.slice (some ⟨bb, 0, none⟩) L L) := by rw [← HLi.out]; exact hC2.blk.cell 6 _ rfl
                have hf := hC2.mem.frz (o + j)
                have hold := hC2.mem.get hoj
                have hmk : si.next.mask = si.mask := si.next_mask
                have HM := Lib.hid (fun m => (hmk ▸ pow_mask pb FP si.next (w2.drewN m) (hp2.below (below_drewN (Below.refl _ _) m)) : Calls Try.prog 64 #[.pointer (some ⟨pb, 0, none⟩)] (w2.drewN m) fun e w' => e = .returned (.int .u8 (si.mask.toNat : Int)) ∧ w2.drewN m = w'))
                clear hmk
                obtain ⟨yy, hyy⟩ : ∃ yy, li[o + j] = yy := ⟨_, rfl⟩
                rw [hyy] at hold HPn
                have hand := and_u8 yy si.mask
                have hor := or_u8 xx (yy &&& si.mask)
                generalize (yy &&& si.mask) = za at *
                generalize (xx ||| za) = zz at *
                have hwj : IntKind.i64.wrap ((o : Int) + (j : Int)) = ((o + j : Nat) : Int) := by rw [← Int.natCast_add]; exact IntWalk.i64_in _ (by omega)
                have q0 : (0 : Int) ≤ ((o + j : Nat) : Int) := by omega
                have q1 : ((o + j : Nat) : Int) < (L : Int) := by omega
                clear hyy
                go_upto_region 15 with fail
                go_quiet ((go_at_call 64; exact quiet_left (HM.out _)))
                have hC3 := hC2.drewN nq
                have hp3 := hp2.below (w' := w2.drewN nq) (below_drewN (Below.refl _ _) nq)
                have ho3 : Only [bb, pb] w0 (w2.drewN nq) := (ho.trans' (ho2.mono (S' := [bb, pb]) (by simp)) (by simp)).drewN nq
                clear hC2 hp2 ho2 ho hC hp d5 d6 hf hold c5 c6 HM
                generalize w2.drewN nq = w3 at *
                have d6 : w3.cell? ⟨cb, 6, none⟩ = some (.slice (some ⟨bb, 0, none⟩) L L) := by rw [← HLi.out]; exact hC3.blk.cell 6 _ rfl
                have hf := hC3.mem.frz (o + j)
                have hold := hC3.mem.get hoj
                have hms := hC3.mem.set (o + j) zz
                have hos : Only [bb] w3 (w3.setCell ⟨bb, o + j, none⟩ (.int .u8 (zz.toNat : Int))) := (Only.refl _ _).setCell (by simp) _
                have hC4 := hC3.turn hos (by simpa using hC3.d1) (by simpa using (Ne.symm hC3.d3)) hms (by simp)
                have hp4 := hp3.only hos (fun y hy => by simp; rintro rfl; exact hd _ hy (by simp))
                have ho4 := ho3.trans (hos.mono (by simp))
                have HX := Lib.hid (And.intro hC4 (And.intro hp4 ho4))
                clear hC4 hp4 ho4 hos hms hC3 hp3 ho3 hand hor hwj q0 q1
                go_wp2_with fail
                go_ret
                rw [HE.out, if_neg (by rw [HG.out]; decide), ← HPn.out]
                exact ⟨rfl, HX.out.1, HX.out.2.1, HX.out.2.2⟩
              | false =>
                have hPn := (progL_off si li o bs j hlt hdid htorn).symm.trans HP.out
                have HPn := Lib.hid hPn
                rw [hxx] at hcb
                have HD := Lib.hid (And.intro hdid htorn)
                clear hdid htorn hPn HP hxx hbsj
                go_upto_region 14 with (go_at_call 63; refine (pow_step _ _ _ _ hp (by omega)).mono ?_; rintro e w2 ⟨rfl, hp2, ho2⟩; rw [HD.out.1, HD.out.2])
                go_wp2_with fail
                go_ret
                rw [HE.out, if_neg (by rw [HG.out]; decide), ← HPn.out]
                exact ⟨rfl, hC.only ho2 hnf, hp2, ho.trans' (ho2.mono (S' := [bb, pb]) (by simp)) (by simp)⟩
          · obtain rfl : j = bs.length := by omega
            have HPe := Lib.hid ((progL_end si li (o + bs.length) bs).symm.trans HP.out)
            clear HP
            go_wp2_with fail
            go_ret
            rw [HE.out, if_neg (by rw [HG.out]; decide), ← HPe.out]
            exact ⟨rfl, hC, hp, ho⟩
  · have ha1 := askE_bad ha
    have HA := Lib.hid ha1
    have HE := Lib.hid (show progE s l x bs = (1, l, s) by unfold progE; rw [if_neg ha])
    rw [HE.out]
    clear ha ha1
    go_enter Try.func19, Try.ntmps19
    go_wp2_with (go_at_call 62; refine H1.out.mono ?_; rintro e w' ⟨rfl, rfl⟩; rw [HA.out])
    go_ret
    exact ⟨rfl, h, hp, Only.refl _ _⟩
end
end Go.Proofs.Ytcdgpioljilgeaa
