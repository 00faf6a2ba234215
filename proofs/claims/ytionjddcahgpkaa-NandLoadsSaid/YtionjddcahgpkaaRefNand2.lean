/- The reference's chip of pages: programming (printed by gen_refnand2.py). -/
import Derived.Test.YtionjddcahgpkaaRefNand
set_option linter.unusedVariables false
set_option maxRecDepth 100000
set_option linter.unusedSimpArgs false
namespace Go.Proofs.Ytionjddcahgpkaa
open Go.RowKit

theorem PS.did_torn' {s : PS} (h : s.did = true) : s.torn = false := by
  cases ht : s.torn with
  | false => rfl
  | true =>
    unfold PS.did at h
    unfold PS.torn at ht
    simp at h ht
    omega

section
variable {w : World} {rb bb nb kb qb : Nat} {sa sz gc gd ge : Nat} {l : List UInt8} {N : Nat} {n : NSt} {GP : List Nat} {s : PS}

/-- A page is laid into the reference's bytes, its block's count put up. -/
theorem RNand.put {w1 w2 w3 : World} {rp : Option Addr} (h : RNand w1 rb bb nb kb rp sa sz gc gd ge l N n) (b p : Nat) (hb : b < gc) (hp : p < gd) {d sp : List UInt8} (hd : d.length = ge) (hs : sp.length = 16) {o : Nat} (ho : (b * gd + p) * (ge + 16) = o)
    (h2 : Only [nb] w1 w2) (hk : Blk w2 nb 3 (cntCells gc (up1 n.nx (b : Int) ((p : Int) + 1)))) (h3 : Only [bb] w2 w3) (hm : MemC w3 bb l.length (splice l o (d ++ sp)))
    (hn : NOk ⟨sa, sz, gc, gd, ge⟩ ⟨upP n.pg b p (d, sp), up1 n.nx b ((p : Int) + 1), n.er⟩ N) :
    RNand w3 rb bb nb kb rp sa sz gc gd ge (splice l o (d ++ sp)) N ⟨upP n.pg b p (d, sp), up1 n.nx b ((p : Int) + 1), n.er⟩ := by
  subst ho
  obtain ⟨a1, a2, a3, a4, a5, a6, a7, e1, e2, e3, e4, e5, e6⟩ := h
  have hr := a5.room hb hp
  have hll : (splice l ((b * gd + p) * (ge + 16)) (d ++ sp)).length = l.length := splice_length _ _ _ (by simp; omega)
  refine ⟨?_, ?_, ?_, ?_, a5.put hb hp hd hs, hn, a7, e1, e2, e3, e4, e5, e6⟩
  · rw [hll]
    exact (a1.only h2 (by simp; omega)).only h3 (by simp; omega)
  · rw [hll]
    exact hm
  · exact hk.only h3 (by simp; omega)
  · exact (a4.only h2 (by simp; omega)).only h3 (by simp; omega)

set_option maxHeartbeats 8000000 in
theorem rnand_program (h : RNand w rb bb nb kb (some ⟨qb, 0, none⟩) sa sz gc gd ge l N n) (hp : RPow w qb GP s) (hd : ∀ x ∈ GP, x ∉ [rb, bb, nb, kb]) (b p : Int) (hb : -9223372036854775808 ≤ b ∧ b ≤ 9223372036854775807) (hpp : -9223372036854775808 ≤ p ∧ p ≤ 9223372036854775807)
    (A : Option Addr) (dn c : Nat) (d : List UInt8) (hy : Byts w A d) (hdn : d.length = dn) (A' : Option Addr) (sn c' : Nat) (sp : List UInt8) (hy' : Byts w A' sp) (hsn : sp.length = sn) (hdn2 : dn ≤ 9223372036854775807) (hsn2 : sn ≤ 9223372036854775807)
    (hA : 0 < d.length → ∀ y, A = some y → y.block ∉ [bb, nb, qb]) (hA' : 0 < sp.length → ∀ y, A' = some y → y.block ∉ [bb, nb, qb]) (hdone : s.done ≤ 900000000000) {r : Int} {n' : NSt} {s' : PS} (hE : nProg ⟨sa, sz, gc, gd, ge⟩ s n b p d sp = (r, n', s')) :
    Calls Try.prog 31 #[.pointer (some ⟨rb, 0, none⟩), .int .i64 b, .int .i64 p, .slice A dn c, .slice A' sn c'] w fun e w' => e = .returned (.int .i64 r) ∧ ∃ l', RNand w' rb bb nb kb (some ⟨qb, 0, none⟩) sa sz gc gd ge l' N n' ∧ RPow w' qb GP s' ∧ Only [bb, nb, qb] w w' := by
  obtain ⟨w0, rfl⟩ : ∃ w0 : World, w0 = w := ⟨_, rfl⟩
  unfold nProg at hE
  have hbd := h.bd
  by_cases hok : nOk ⟨sa, sz, gc, gd, ge⟩ b p
  · rw [if_pos hok] at hE
    have hok' := hok
    unfold nOk at hok'
    simp only at hok' hE
    obtain ⟨x, rfl⟩ : ∃ x : Nat, b = (x : Int) := ⟨b.toNat, by omega⟩
    obtain ⟨y, rfl⟩ : ∃ y : Nat, p = (y : Int) := ⟨p.toNat, by omega⟩
    have hx : x < gc := by omega
    have hyd : y < gd := by omega
    obtain ⟨o, ho⟩ : ∃ o, (x * gd + y) * (ge + 16) = o := ⟨_, rfl⟩
    have HP := Lib.hid (rnand_page h x y hx hyd ho)
    by_cases hl : (d.length : Int) ≠ (ge : Int) ∨ sp.length ≠ 16
    · rw [if_pos hl] at hE
      obtain ⟨rfl, rfl, rfl⟩ : 1 = r ∧ n = n' ∧ s = s' := by simpa using hE
      have HC := Lib.hid (fun k => And.intro (h.drewN k) (And.intro (hp.below (w' := w0.drewN k) (below_drewN (Below.refl _ _) k)) ((Only.refl [bb, nb, qb] w0).drewN k)))
      have HCC : Hid (∀ k, (w0.drewN k).cell? ⟨rb, 4, none⟩ = some (.int .i64 (ge : Int))) := fun k => (h.drewN k).blk.cell 4 _ rfl
      rw [hdn, hsn] at hl
      clear hE h hp hok hok'
      by_cases hl1 : dn = ge
      · subst hl1
        have hl2 : ((sn : Int) != 16) = true := by rw [bne_iff_ne]; omega
        have hl1' : ((dn : Int) != (dn : Int)) = false := by simp
        clear hl
        go_enter Try.func31, Try.ntmps31
        go_upto_region 2 with (go_at_call 52; refine HP.out.mono ?_; rintro e w' ⟨rfl, k, rfl⟩; have c4 := HCC.out k)
        go_wp2_with fail
        go_ret
        exact ⟨rfl, l, (HC.out k).1, (HC.out k).2.1, (HC.out k).2.2⟩
      · have hl1' : ((dn : Int) != (ge : Int)) = true := by rw [bne_iff_ne]; omega
        clear hl
        go_enter Try.func31, Try.ntmps31
        go_upto_region 2 with (go_at_call 52; refine HP.out.mono ?_; rintro e w' ⟨rfl, k, rfl⟩; have c4 := HCC.out k)
        go_wp2_with fail
        go_ret
        exact ⟨rfl, l, (HC.out k).1, (HC.out k).2.1, (HC.out k).2.2⟩
    · rw [if_neg hl] at hE
      have hdl : dn = ge := by omega
      have hsl : sn = 16 := by omega
      subst hdl
      subst hsl
      clear hl
      have hnx := h.n.nx (x : Int)
      simp only at hnx
      have hne0 : ((dn : Int) != (dn : Int)) = false := by simp
      have HCC : Hid (∀ k, (w0.drewN k).cell? ⟨rb, 4, none⟩ = some (.int .i64 (dn : Int)) ∧ (w0.drewN k).cell? ⟨rb, 5, none⟩ = some (.pointer (some ⟨qb, 0, none⟩)) ∧ (w0.drewN k).cell? ⟨rb, 7, none⟩ = some (.slice (some ⟨nb, 0, none⟩) gc gc) ∧ (w0.drewN k).cell? ⟨nb, x, none⟩ = some (.int .i64 (n.nx (x : Int)))) := fun k => ⟨(h.drewN k).blk.cell 4 _ rfl, (h.drewN k).blk.cell 5 _ rfl, (h.drewN k).blk.cell 7 _ rfl, (h.drewN k).nx.cell x _ (cntCells_get hx)⟩
      by_cases hpn : (y : Int) ≠ n.nx (x : Int)
      · rw [if_pos hpn] at hE
        obtain ⟨rfl, rfl, rfl⟩ : 8 = r ∧ n = n' ∧ s = s' := by simpa using hE
        have HC := Lib.hid (fun k => And.intro (h.drewN k) (And.intro (hp.below (w' := w0.drewN k) (below_drewN (Below.refl _ _) k)) ((Only.refl [bb, nb, qb] w0).drewN k)))
        have hne : ((y : Int) != n.nx (x : Int)) = true := by rw [bne_iff_ne]; exact hpn
        have q0 : (0 : Int) ≤ (x : Int) := by omega
        have q1 : (x : Int) < (gc : Int) := by omega
        clear hE h hp hok hok' hpn hnx
        go_enter Try.func31, Try.ntmps31
        go_upto_region 2 with (go_at_call 52; refine HP.out.mono ?_; rintro e w' ⟨rfl, k, rfl⟩; obtain ⟨c4, c5, c7, cn⟩ := HCC.out k)
        go_wp2_with fail
        go_ret
        exact ⟨rfl, l, (HC.out k).1, (HC.out k).2.1, (HC.out k).2.2⟩
      · rw [if_neg hpn] at hE
        have hyn : n.nx (x : Int) = (y : Int) := by omega
        have hne : ((y : Int) != (y : Int)) = false := by simp
        have q0 : (0 : Int) ≤ (x : Int) := by omega
        have q1 : (x : Int) < (gc : Int) := by omega
        rw [hyn] at HCC
        have HC := Lib.hid (fun k => And.intro (h.drewN k) (And.intro (hp.below (w' := w0.drewN k) (below_drewN (Below.refl _ _) k)) (And.intro ((Only.refl [] w0).drewN k) (And.intro (hy.drewN k) (hy'.drewN k)))))
        have hqF := hp.mem
        have hqn := hd _ hqF
        simp only [List.mem_cons, List.not_mem_nil, or_false, not_or] at hqn
        have hnf : ∀ z ∈ [rb, bb, nb, kb], z ∉ [qb] := by simp; omega
        have hdd := h.d
        have hr := h.fl.room hx hyd
        rw [ho] at hr
        have hLs := h.size
        have hNO := NOk.prog (s := s) h.n (x : Int) (y : Int) d sp
        unfold nProg at hNO
        rw [if_pos hok, if_neg (by simp only; omega), if_neg (by omega)] at hNO
        have HNO := Lib.hid hNO
        have HPO := Lib.hid (And.intro ho (And.intro hyn hdd))
        clear hpn hok hok' h hp hy hy' hnx hNO ho hyn
        by_cases hoff : s.did = false ∧ s.torn = false
        · rw [if_pos hoff] at hE
          obtain ⟨rfl, rfl, rfl⟩ : 6 = r ∧ n = n' ∧ s.next = s' := by simpa using hE
          have HD := Lib.hid hoff
          clear hoff hE
          go_enter Try.func31, Try.ntmps31
          go_upto_region 2 with (go_at_call 52; refine HP.out.mono ?_; rintro e w' ⟨rfl, k, rfl⟩; obtain ⟨c4, c5, c7, cn⟩ := HCC.out k)
          go_upto_region 7 with (go_at_call 53; refine (rpow_step _ _ _ _ (HC.out k).2.1 (by omega)).mono ?_; rintro e w2 ⟨rfl, hp2, ho2⟩; rw [HD.out.1, HD.out.2])
          go_wp2_with fail
          go_ret
          exact ⟨rfl, l, (HC.out k).1.only ho2 hnf, hp2, ((HC.out k).2.2.1.mono (S' := [bb, nb, qb]) (by simp)).trans (ho2.mono (by simp))⟩
        · rw [if_neg hoff] at hE
          rw [if_neg hoff] at HNO
          have hY1 : y + 1 ≤ 33 := by omega
          have hwy : IntKind.i64.wrap ((y : Int) + 1) = (y : Int) + 1 := IntWalk.i64_in _ (by omega)
          go_enter Try.func31, Try.ntmps31
          go_upto_region 2 with (go_at_call 52; refine HP.out.mono ?_; rintro e w' ⟨rfl, k, rfl⟩; obtain ⟨c4, c5, c7, cn⟩ := HCC.out k)
          go_upto_region 6 with fail
          obtain ⟨hC1, hp1, ho1, hy1, hy1'⟩ := HC.out k
          obtain ⟨w1, hw1⟩ : ∃ w1, w0.drewN k = w1 := ⟨_, rfl⟩
          rw [hw1] at hC1 hp1 ho1 hy1 hy1' c4 c5 c7 cn ⊢
          clear hw1 HC HCC HP
          cases hdid : s.did with
          | true =>
            have htorn := PS.did_torn' hdid
            have HD := Lib.hid (And.intro hdid htorn)
            have hprR : progR s = if s.next.failing = true then 7 else 0 := by unfold progR; rw [if_neg (by rw [htorn]; decide)]
            have hturn : turnB s = if s.next.failing = true then (fun v => v &&& 170) else (fun v => v) := by funext v; unfold turnB; rw [if_neg (by rw [htorn]; decide)]; split <;> rfl
            clear hdid htorn hoff
            go_upto_region 7 with (go_at_call 53; refine (rpow_step _ _ _ _ hp1 (by omega)).mono ?_; rintro e w2 ⟨rfl, hp2, ho2⟩; rw [HD.out.1, HD.out.2])
            have hC2 := hC1.only ho2 hnf
            have hy2 : Byts w2 A d := hy1.only ho2 (fun z e h0 => by have := hA h0 z e; simp at this ⊢; omega)
            have hy2' : Byts w2 A' sp := hy1'.only ho2 (fun z e h0 => by have := hA' h0 z e; simp at this ⊢; omega)
            have d7 := hC2.blk.cell 7 _ rfl
            have dn7 := hC2.nx.cell x _ (cntCells_get hx)
            rw [HPO.out.2.1] at dn7
            have dfz := hC2.nx.frz x
            have dset := hC2.nx.set x (.int .i64 ((y : Int) + 1))
            rw [cntCells_up ((y : Int) + 1)] at dset
            have hos : Only [nb] w2 (w2.setCell ⟨nb, x, none⟩ (.int .i64 ((y : Int) + 1))) := (Only.refl _ _).setCell (by simp) _
            have hp3 := hp2.only hos (fun z hz => by simp; rintro rfl; exact hd _ hz (by simp))
            have hy3 := hy2.only hos (fun z e h0 => by have := hA h0 z e; simp at this ⊢; omega)
            have hy3' := hy2'.only hos (fun z e h0 => by have := hA' h0 z e; simp at this ⊢; omega)
            have ho02 : Only [bb, nb, qb] w0 w2 := (ho1.mono (S' := [bb, nb, qb]) (by simp)).trans (ho2.mono (by simp))
            have HZ := Lib.hid (And.intro hC2 (And.intro hos (And.intro dset (And.intro hp3 ho02))))
            clear hC1 hp1 ho1 hy1 hy1' c4 c5 c7 cn hC2 hp2 ho2 hy2 hy2' dset hos hp3 ho02
            go_upto_region 10 with fail
            obtain ⟨w3, hw3⟩ : ∃ w3, w2.setCell ⟨nb, x, none⟩ (.int .i64 ((y : Int) + 1)) = w3 := ⟨_, rfl⟩
            rw [hw3] at HZ hy3 hy3' ⊢
            have hs3 := Nat.le_refl w3.heap.size
            have HDS := Lib.hid (And.intro hdn hsn)
            clear hw3 d7 dn7 dfz
            go_upto_region 11 with (first
              | (at_builtin; refine wpList_wanted (by rfl) fun K hK => wp_clone_byts _ rfl rfl hy3 HDS.out.1.symm (by rw [HDS.out.1]; omega) hs3 ?_; intro v4 w4 hown4 hb4 _; have hy4 := hy3'.below hb4; have hs4 := hb4.size; refine hK _ _ ?_; clear hK K)
              | (at_builtin; refine wpList_wanted (by rfl) fun K hK => wp_append_byts _ _ rfl rfl rfl hown4 hy4 HDS.out.2.symm (by rw [HDS.out.1, HDS.out.2]; omega) hs4 ?_; intro v5 w5 hown5 hg5 _; have hb5 := hb4.grown hg5 hs4 (fun g e => (hown4.lt e).1); refine hK _ _ ?_; clear hK K))
            have hlen5 : (d ++ sp).length = dn + 16 := by rw [List.length_append, HDS.out.1, HDS.out.2]
            obtain ⟨all, hall⟩ : ∃ all, d ++ sp = all := ⟨_, rfl⟩
            rw [hall] at hown5 hlen5
            have HALL := Lib.hid (And.intro hall hlen5)
            obtain ⟨g5, c5, rfl, hc5, hg5a, hg5b, hcell5, -⟩ := hown5.form (by rw [HALL.out.2]; omega)
            have hp5 := HZ.out.2.2.2.1.below hb5
            have hC5a := Blk.belowR (HZ.out.1.blk.only HZ.out.2.1 (by simp; have := HPO.out.2.2; omega)) hb5
            have hm5 := (HZ.out.1.mem.only HZ.out.2.1 (by simp; have := HPO.out.2.2; omega)).below hb5
            have e5 := hC5a.cell 5 _ rfl
            obtain ⟨z, hz⟩ : ∃ z, dn + 16 = z := ⟨_, rfl⟩
            have hL5 : all.length = z := by rw [HALL.out.2, hz]
            rw [hL5] at hown5 hc5 ⊢
            go_upto_region 12 with (go_at_call 54; refine (rpow_fails _ _ _ _ hp5 (by have := s.next_done_le; omega)).mono ?_; rintro e w6 ⟨rfl, k6, rfl⟩)
            have hb6 : Below w3.heap.size w3 (w5.drewN k6) := below_drewN hb5 k6
            have hp6 := hp5.below (w' := w5.drewN k6) (below_drewN (Below.refl _ _) k6)
            have hC6 := Blk.belowR hC5a (w' := w5.drewN k6) (below_drewN (Below.refl _ _) k6)
            have hm6 := hm5.drewN k6
            have hown6 := hown5.below (w' := w5.drewN k6) (below_drewN (Below.refl _ _) k6)
            obtain ⟨w6, hw6⟩ : ∃ w6, w5.drewN k6 = w6 := ⟨_, rfl⟩
            rw [hw6] at hb6 hp6 hC6 hm6 hown6 ⊢
            clear hw6
            clear hy3 hy3' hcell5 hown5 hp5 hC5a hm5 e5 hb4 hb5 hg5 hown4 hy4
            cases hfb : s.next.failing with
            | true =>
              rw [hfb, if_pos rfl] at hprR hturn
              have HPR := Lib.hid hprR
              have HTU := Lib.hid hturn
              have HEE := Lib.hid hE
              have HMM : Hid (all.map (turnB s) = d.map (turnB s) ++ sp.map (turnB s)) := by show _ = _; rw [← HALL.out.1, List.map_append]
              obtain ⟨m, hm⟩ : ∃ m, all.map (turnB s) = m := ⟨_, rfl⟩
              have hml : m.length = z := by rw [← hm, List.length_map, hL5]
              have hmj : ∀ j (h1 : j < m.length) (h2 : j < all.length), m[j] = turnB s all[j] := fun j h1 h2 => by subst hm; exact List.getElem_map ..
              have HM := Lib.hid (And.intro hm (And.intro hml (And.intro hL5 hmj)))
              have hom : o + z ≤ l.length := by omega
              obtain ⟨L, hL⟩ : ∃ L, l.length = L := ⟨_, rfl⟩
              rw [hL] at hC6 hm6 hom hLs
              have HL := Lib.hid hL
              have hm60 : MemC w6 bb L (splice l o (m.take 0)) := by rw [List.take_zero, splice_nil]; exact hm6
              have hz17 : z ≤ 272 := by omega
              clear hprR hturn hE hm hml hmj hL hm6 hr hL5 hall hlen5
              go_upto_region 13 with fail
              go_loopw [16, 17] (fun v16 v17 wr => ∃ j : Nat, j ≤ z ∧ v16 = .int .i64 (j : Int) ∧ MemC wr bb L (splice l o (m.take j)) ∧ Only [bb] w6 wr) (fun v16 _ _ => z - (intOf v16).toNat)
              case atStart => exact ⟨0, Nat.zero_le _, rfl, hm60, Only.refl _ _⟩
              case round =>
                clear hm60
                obtain ⟨j, hj, rfl, hmr, hor⟩ := hrel
                obtain ⟨wo, rfl⟩ : ∃ wo, wo = wr := ⟨_, rfl⟩
                have hgb : g5 ≠ bb := by have := HZ.out.1.lt bb (by simp); have := HZ.out.2.1.size; omega
                by_cases hlt : j < z
                · have hltI : (j : Int) < (z : Int) := by omega
                  have hja : j < all.length := by rw [HM.out.2.2.1]; exact hlt
                  have hjm : j < m.length := by rw [HM.out.2.1]; exact hlt
                  have hCr := hC6.only hor (by simp; have := HPO.out.2.2; omega)
                  have e6 := hCr.cell 6 _ rfl
                  have e5 := hCr.cell 5 _ rfl
                  have hownr := hown6.only hor (fun z' hz' => by cases hz'; simp; exact hgb)
                  obtain ⟨g6, c6, eq5, -, -, -, hcell, -⟩ := hownr.form (by rw [HM.out.2.2.1]; omega)
                  cases eq5
                  have hca := hcell j hja
                  have hst := splice_step l m o j (by rw [HL.out, HM.out.2.1]; exact hom) hjm
                  have hol := hmr.get (i := o + j) (by rw [splice_length _ _ _ (by simp; have := HL.out; omega)]; have := HL.out; omega)
                  have hfz := hmr.frz (o + j)
                  have hv := HM.out.2.2.2 j hjm hja
                  rw [HTU.out] at hv
                  have hms := hmr.set (o + j) m[j]
                  rw [hst] at hms
                  have hos : Only [bb] wo (wo.setCell ⟨bb, o + j, none⟩ (.int .u8 (m[j].toNat : Int))) := (Only.refl _ _).setCell (by simp) _
                  have hor' := hor.trans hos
                  replace hv : m[j] = all[j] &&& 170 := hv
                  have hand := and_u8 all[j] 170
                  rw [← hv] at hand
                  have h170 : ((170 : UInt8).toNat : Int) = 170 := by rfl
                  rw [h170] at hand
                  clear h170
                  generalize m[j] = yy at *
                  have HX := Lib.hid (And.intro hms hor')
                  have hwj : IntKind.i64.wrap ((o : Int) + (j : Int)) = ((o + j : Nat) : Int) := by rw [← Int.natCast_add]; exact IntWalk.i64_in _ (by omega)
                  have p0 : (0 : Int) ≤ ((o + j : Nat) : Int) := by omega
                  have p1 : ((o + j : Nat) : Int) < (L : Int) := by omega
                  clear hms hor' hos hst hv hcell hownr hmr hor hCr
                  generalize all[j] = xx at *
                  go_wp2_with fail
                  go_roundw
                  case rel => exact ⟨j + 1, by omega, by go_num, HX.out.1, HX.out.2⟩
                  case measure => simp [intOf]; omega
                · obtain rfl : j = z := by omega
                  have hltI : ¬ (j : Int) < (j : Int) := by omega
                  have hfin : MemC wo bb L (splice l o (d.map (turnB s) ++ sp.map (turnB s))) := by
                    rw [← HMM.out, HM.out.1]
                    have := HM.out.2.1
                    rw [← this, List.take_length] at hmr
                    exact hmr
                  have hpz := hp6.only hor (fun z' hz => by simp; rintro rfl; exact hd _ hz (by simp))
                  have hb3 : Only [bb] w3 wo := (Only.of_below hb6 [bb]).trans hor
                  have hfinal := HZ.out.1.put x y hx hyd (by rw [List.length_map, HDS.out.1]) (by rw [List.length_map, HDS.out.2]) HPO.out.1 HZ.out.2.1 HZ.out.2.2.1 hb3 (by rw [HL.out]; exact hfin) HNO.out
                  have hoall : Only [bb, nb, qb] w0 wo := HZ.out.2.2.2.2.trans ((HZ.out.2.1.mono (by simp)).trans (hb3.mono (by simp)))
                  have hEE : r = progR s ∧ n' = ⟨upP n.pg (x : Int) (y : Int) (d.map (turnB s), sp.map (turnB s)), up1 n.nx (x : Int) ((y : Int) + 1), n.er⟩ ∧ s' = s.next := by
                    have := HEE.out
                    simp only [Prod.mk.injEq] at this
                    exact ⟨this.1.symm, this.2.1.symm, this.2.2.symm⟩
                  obtain ⟨hr1, rfl, rfl⟩ := hEE
                  have HR1 := Lib.hid (hr1.trans HPR.out)
                  have HFF := Lib.hid (And.intro hfinal (And.intro hpz hoall))
                  clear hr1 hfinal hpz hoall hfin hmr hor
                  go_wp2_with fail
                  go_ret
                  refine ⟨by rw [HR1.out]; rfl, ?_⟩
                  first | exact ⟨_, HFF.out.1, HFF.out.2.1, HFF.out.2.2⟩ | exact ⟨⟨_, HFF.out.1⟩, HFF.out.2.1, HFF.out.2.2⟩
            | false =>
              rw [hfb, if_neg (by decide)] at hprR hturn
              have HPR := Lib.hid hprR
              have HTU := Lib.hid hturn
              have HEE := Lib.hid hE
              have HMM : Hid (all.map (turnB s) = d.map (turnB s) ++ sp.map (turnB s)) := by show _ = _; rw [← HALL.out.1, List.map_append]
              obtain ⟨m, hm⟩ : ∃ m, all.map (turnB s) = m := ⟨_, rfl⟩
              have hml : m.length = z := by rw [← hm, List.length_map, hL5]
              have hmj : ∀ j (h1 : j < m.length) (h2 : j < all.length), m[j] = turnB s all[j] := fun j h1 h2 => by subst hm; exact List.getElem_map ..
              have HM := Lib.hid (And.intro hm (And.intro hml (And.intro hL5 hmj)))
              have hom : o + z ≤ l.length := by omega
              obtain ⟨L, hL⟩ : ∃ L, l.length = L := ⟨_, rfl⟩
              rw [hL] at hC6 hm6 hom hLs
              have HL := Lib.hid hL
              have hm60 : MemC w6 bb L (splice l o (m.take 0)) := by rw [List.take_zero, splice_nil]; exact hm6
              have hz17 : z ≤ 272 := by omega
              clear hprR hturn hE hm hml hmj hL hm6 hr hL5 hall hlen5
              go_upto_region 13 with fail
              go_loopw [16, 17] (fun v16 v17 wr => ∃ j : Nat, j ≤ z ∧ v16 = .int .i64 (j : Int) ∧ MemC wr bb L (splice l o (m.take j)) ∧ Only [bb] w6 wr) (fun v16 _ _ => z - (intOf v16).toNat)
              case atStart => exact ⟨0, Nat.zero_le _, rfl, hm60, Only.refl _ _⟩
              case round =>
                clear hm60
                obtain ⟨j, hj, rfl, hmr, hor⟩ := hrel
                obtain ⟨wo, rfl⟩ : ∃ wo, wo = wr := ⟨_, rfl⟩
                have hgb : g5 ≠ bb := by have := HZ.out.1.lt bb (by simp); have := HZ.out.2.1.size; omega
                by_cases hlt : j < z
                · have hltI : (j : Int) < (z : Int) := by omega
                  have hja : j < all.length := by rw [HM.out.2.2.1]; exact hlt
                  have hjm : j < m.length := by rw [HM.out.2.1]; exact hlt
                  have hCr := hC6.only hor (by simp; have := HPO.out.2.2; omega)
                  have e6 := hCr.cell 6 _ rfl
                  have e5 := hCr.cell 5 _ rfl
                  have hownr := hown6.only hor (fun z' hz' => by cases hz'; simp; exact hgb)
                  obtain ⟨g6, c6, eq5, -, -, -, hcell, -⟩ := hownr.form (by rw [HM.out.2.2.1]; omega)
                  cases eq5
                  have hca := hcell j hja
                  have hst := splice_step l m o j (by rw [HL.out, HM.out.2.1]; exact hom) hjm
                  have hol := hmr.get (i := o + j) (by rw [splice_length _ _ _ (by simp; have := HL.out; omega)]; have := HL.out; omega)
                  have hfz := hmr.frz (o + j)
                  have hv := HM.out.2.2.2 j hjm hja
                  rw [HTU.out] at hv
                  have hms := hmr.set (o + j) m[j]
                  rw [hst] at hms
                  have hos : Only [bb] wo (wo.setCell ⟨bb, o + j, none⟩ (.int .u8 (m[j].toNat : Int))) := (Only.refl _ _).setCell (by simp) _
                  have hor' := hor.trans hos
                  have hvn : (m[j].toNat : Int) = (all[j].toNat : Int) := by rw [hv]
                  rw [hvn] at hms hor'
                  clear hvn
                  have HX := Lib.hid (And.intro hms hor')
                  have hwj : IntKind.i64.wrap ((o : Int) + (j : Int)) = ((o + j : Nat) : Int) := by rw [← Int.natCast_add]; exact IntWalk.i64_in _ (by omega)
                  have p0 : (0 : Int) ≤ ((o + j : Nat) : Int) := by omega
                  have p1 : ((o + j : Nat) : Int) < (L : Int) := by omega
                  clear hms hor' hos hst hv hcell hownr hmr hor hCr
                  generalize all[j] = xx at *
                  go_wp2_with fail
                  go_roundw
                  case rel => exact ⟨j + 1, by omega, by go_num, HX.out.1, HX.out.2⟩
                  case measure => simp [intOf]; omega
                · obtain rfl : j = z := by omega
                  have hltI : ¬ (j : Int) < (j : Int) := by omega
                  have hfin : MemC wo bb L (splice l o (d.map (turnB s) ++ sp.map (turnB s))) := by
                    rw [← HMM.out, HM.out.1]
                    have := HM.out.2.1
                    rw [← this, List.take_length] at hmr
                    exact hmr
                  have hpz := hp6.only hor (fun z' hz => by simp; rintro rfl; exact hd _ hz (by simp))
                  have hb3 : Only [bb] w3 wo := (Only.of_below hb6 [bb]).trans hor
                  have hfinal := HZ.out.1.put x y hx hyd (by rw [List.length_map, HDS.out.1]) (by rw [List.length_map, HDS.out.2]) HPO.out.1 HZ.out.2.1 HZ.out.2.2.1 hb3 (by rw [HL.out]; exact hfin) HNO.out
                  have hoall : Only [bb, nb, qb] w0 wo := HZ.out.2.2.2.2.trans ((HZ.out.2.1.mono (by simp)).trans (hb3.mono (by simp)))
                  have hEE : r = progR s ∧ n' = ⟨upP n.pg (x : Int) (y : Int) (d.map (turnB s), sp.map (turnB s)), up1 n.nx (x : Int) ((y : Int) + 1), n.er⟩ ∧ s' = s.next := by
                    have := HEE.out
                    simp only [Prod.mk.injEq] at this
                    exact ⟨this.1.symm, this.2.1.symm, this.2.2.symm⟩
                  obtain ⟨hr1, rfl, rfl⟩ := hEE
                  have HR1 := Lib.hid (hr1.trans HPR.out)
                  have HFF := Lib.hid (And.intro hfinal (And.intro hpz hoall))
                  clear hr1 hfinal hpz hoall hfin hmr hor
                  go_wp2_with fail
                  go_ret
                  refine ⟨by rw [HR1.out]; rfl, ?_⟩
                  first | exact ⟨_, HFF.out.1, HFF.out.2.1, HFF.out.2.2⟩ | exact ⟨⟨_, HFF.out.1⟩, HFF.out.2.1, HFF.out.2.2⟩
          | false =>
            have htorn : s.torn = true := by cases ht : s.torn with
              | true => rfl
              | false => exact (hoff ⟨hdid, ht⟩).elim
            have HD := Lib.hid (And.intro hdid htorn)
            have hprR : progR s = 6 := by unfold progR; rw [if_pos htorn]
            have hturn : turnB s = fun v => v ||| s.mask := by funext v; unfold turnB; rw [if_pos htorn]
            clear hdid htorn hoff
            go_upto_region 7 with (go_at_call 53; refine (rpow_step _ _ _ _ hp1 (by omega)).mono ?_; rintro e w2 ⟨rfl, hp2, ho2⟩; rw [HD.out.1, HD.out.2])
            have hC2 := hC1.only ho2 hnf
            have hy2 : Byts w2 A d := hy1.only ho2 (fun z e h0 => by have := hA h0 z e; simp at this ⊢; omega)
            have hy2' : Byts w2 A' sp := hy1'.only ho2 (fun z e h0 => by have := hA' h0 z e; simp at this ⊢; omega)
            have d7 := hC2.blk.cell 7 _ rfl
            have dn7 := hC2.nx.cell x _ (cntCells_get hx)
            rw [HPO.out.2.1] at dn7
            have dfz := hC2.nx.frz x
            have dset := hC2.nx.set x (.int .i64 ((y : Int) + 1))
            rw [cntCells_up ((y : Int) + 1)] at dset
            have hos : Only [nb] w2 (w2.setCell ⟨nb, x, none⟩ (.int .i64 ((y : Int) + 1))) := (Only.refl _ _).setCell (by simp) _
            have hp3 := hp2.only hos (fun z hz => by simp; rintro rfl; exact hd _ hz (by simp))
            have hy3 := hy2.only hos (fun z e h0 => by have := hA h0 z e; simp at this ⊢; omega)
            have hy3' := hy2'.only hos (fun z e h0 => by have := hA' h0 z e; simp at this ⊢; omega)
            have ho02 : Only [bb, nb, qb] w0 w2 := (ho1.mono (S' := [bb, nb, qb]) (by simp)).trans (ho2.mono (by simp))
            have HZ := Lib.hid (And.intro hC2 (And.intro hos (And.intro dset (And.intro hp3 ho02))))
            clear hC1 hp1 ho1 hy1 hy1' c4 c5 c7 cn hC2 hp2 ho2 hy2 hy2' dset hos hp3 ho02
            go_upto_region 10 with fail
            obtain ⟨w3, hw3⟩ : ∃ w3, w2.setCell ⟨nb, x, none⟩ (.int .i64 ((y : Int) + 1)) = w3 := ⟨_, rfl⟩
            rw [hw3] at HZ hy3 hy3' ⊢
            have hs3 := Nat.le_refl w3.heap.size
            have HDS := Lib.hid (And.intro hdn hsn)
            clear hw3 d7 dn7 dfz
            go_upto_region 11 with (first
              | (at_builtin; refine wpList_wanted (by rfl) fun K hK => wp_clone_byts _ rfl rfl hy3 HDS.out.1.symm (by rw [HDS.out.1]; omega) hs3 ?_; intro v4 w4 hown4 hb4 _; have hy4 := hy3'.below hb4; have hs4 := hb4.size; refine hK _ _ ?_; clear hK K)
              | (at_builtin; refine wpList_wanted (by rfl) fun K hK => wp_append_byts _ _ rfl rfl rfl hown4 hy4 HDS.out.2.symm (by rw [HDS.out.1, HDS.out.2]; omega) hs4 ?_; intro v5 w5 hown5 hg5 _; have hb5 := hb4.grown hg5 hs4 (fun g e => (hown4.lt e).1); refine hK _ _ ?_; clear hK K))
            have hlen5 : (d ++ sp).length = dn + 16 := by rw [List.length_append, HDS.out.1, HDS.out.2]
            obtain ⟨all, hall⟩ : ∃ all, d ++ sp = all := ⟨_, rfl⟩
            rw [hall] at hown5 hlen5
            have HALL := Lib.hid (And.intro hall hlen5)
            obtain ⟨g5, c5, rfl, hc5, hg5a, hg5b, hcell5, -⟩ := hown5.form (by rw [HALL.out.2]; omega)
            have hp5 := HZ.out.2.2.2.1.below hb5
            have hC5a := Blk.belowR (HZ.out.1.blk.only HZ.out.2.1 (by simp; have := HPO.out.2.2; omega)) hb5
            have hm5 := (HZ.out.1.mem.only HZ.out.2.1 (by simp; have := HPO.out.2.2; omega)).below hb5
            have e5 := hC5a.cell 5 _ rfl
            obtain ⟨z, hz⟩ : ∃ z, dn + 16 = z := ⟨_, rfl⟩
            have hL5 : all.length = z := by rw [HALL.out.2, hz]
            rw [hL5] at hown5 hc5 ⊢
            go_upto_region 12 with fail
            have hb6 := hb5
            have hp6 := hp5
            have hC6 := hC5a
            have hm6 := hm5
            have hown6 := hown5
            obtain ⟨w6, hw6⟩ : ∃ w6, w5 = w6 := ⟨_, rfl⟩
            rw [hw6] at hb6 hp6 hC6 hm6 hown6 ⊢
            clear hw6
            clear hy3 hy3' hcell5 hown5 hp5 hC5a hm5 e5 hb4 hb5 hg5 hown4 hy4
            have HPR := Lib.hid hprR
            have HTU := Lib.hid hturn
            have HEE := Lib.hid hE
            have HMM : Hid (all.map (turnB s) = d.map (turnB s) ++ sp.map (turnB s)) := by show _ = _; rw [← HALL.out.1, List.map_append]
            obtain ⟨m, hm⟩ : ∃ m, all.map (turnB s) = m := ⟨_, rfl⟩
            have hml : m.length = z := by rw [← hm, List.length_map, hL5]
            have hmj : ∀ j (h1 : j < m.length) (h2 : j < all.length), m[j] = turnB s all[j] := fun j h1 h2 => by subst hm; exact List.getElem_map ..
            have HM := Lib.hid (And.intro hm (And.intro hml (And.intro hL5 hmj)))
            have hom : o + z ≤ l.length := by omega
            obtain ⟨L, hL⟩ : ∃ L, l.length = L := ⟨_, rfl⟩
            rw [hL] at hC6 hm6 hom hLs
            have HL := Lib.hid hL
            have hm60 : MemC w6 bb L (splice l o (m.take 0)) := by rw [List.take_zero, splice_nil]; exact hm6
            have hz17 : z ≤ 272 := by omega
            clear hprR hturn hE hm hml hmj hL hm6 hr hL5 hall hlen5
            go_upto_region 13 with fail
            go_loopw [16, 17] (fun v16 v17 wr => ∃ j : Nat, j ≤ z ∧ v16 = .int .i64 (j : Int) ∧ MemC wr bb L (splice l o (m.take j)) ∧ Only [bb] w6 wr) (fun v16 _ _ => z - (intOf v16).toNat)
            case atStart => exact ⟨0, Nat.zero_le _, rfl, hm60, Only.refl _ _⟩
            case round =>
              clear hm60
              obtain ⟨j, hj, rfl, hmr, hor⟩ := hrel
              obtain ⟨wo, rfl⟩ : ∃ wo, wo = wr := ⟨_, rfl⟩
              have hgb : g5 ≠ bb := by have := HZ.out.1.lt bb (by simp); have := HZ.out.2.1.size; omega
              by_cases hlt : j < z
              · have hltI : (j : Int) < (z : Int) := by omega
                have hja : j < all.length := by rw [HM.out.2.2.1]; exact hlt
                have hjm : j < m.length := by rw [HM.out.2.1]; exact hlt
                have hCr := hC6.only hor (by simp; have := HPO.out.2.2; omega)
                have e6 := hCr.cell 6 _ rfl
                have e5 := hCr.cell 5 _ rfl
                have hownr := hown6.only hor (fun z' hz' => by cases hz'; simp; exact hgb)
                obtain ⟨g6, c6, eq5, -, -, -, hcell, -⟩ := hownr.form (by rw [HM.out.2.2.1]; omega)
                cases eq5
                have hca := hcell j hja
                have hst := splice_step l m o j (by rw [HL.out, HM.out.2.1]; exact hom) hjm
                have hol := hmr.get (i := o + j) (by rw [splice_length _ _ _ (by simp; have := HL.out; omega)]; have := HL.out; omega)
                have hfz := hmr.frz (o + j)
                have hv := HM.out.2.2.2 j hjm hja
                rw [HTU.out] at hv
                have hms := hmr.set (o + j) m[j]
                rw [hst] at hms
                have hos : Only [bb] wo (wo.setCell ⟨bb, o + j, none⟩ (.int .u8 (m[j].toNat : Int))) := (Only.refl _ _).setCell (by simp) _
                have hor' := hor.trans hos
                replace hv : m[j] = all[j] ||| s.mask := hv
                have hor8 := or_u8 all[j] s.mask
                rw [← hv] at hor8
                obtain ⟨AR, cR, hrb⟩ := (hp6.only hor (fun z' hz => by simp; rintro rfl; exact hd _ hz (by simp))).blk
                have r2 : wo.cell? ⟨qb, 2, none⟩ = some (.int .u8 (s.mask.toNat : Int)) := by rw [← s.next_mask]; exact hrb.cell 2 _ rfl
                clear hrb
                generalize m[j] = yy at *
                have HX := Lib.hid (And.intro hms hor')
                have hwj : IntKind.i64.wrap ((o : Int) + (j : Int)) = ((o + j : Nat) : Int) := by rw [← Int.natCast_add]; exact IntWalk.i64_in _ (by omega)
                have p0 : (0 : Int) ≤ ((o + j : Nat) : Int) := by omega
                have p1 : ((o + j : Nat) : Int) < (L : Int) := by omega
                clear hms hor' hos hst hv hcell hownr hmr hor hCr
                generalize all[j] = xx at *
                go_wp2_with fail
                go_roundw
                case rel => exact ⟨j + 1, by omega, by go_num, HX.out.1, HX.out.2⟩
                case measure => simp [intOf]; omega
              · obtain rfl : j = z := by omega
                have hltI : ¬ (j : Int) < (j : Int) := by omega
                have hfin : MemC wo bb L (splice l o (d.map (turnB s) ++ sp.map (turnB s))) := by
                  rw [← HMM.out, HM.out.1]
                  have := HM.out.2.1
                  rw [← this, List.take_length] at hmr
                  exact hmr
                have hpz := hp6.only hor (fun z' hz => by simp; rintro rfl; exact hd _ hz (by simp))
                have hb3 : Only [bb] w3 wo := (Only.of_below hb6 [bb]).trans hor
                have hfinal := HZ.out.1.put x y hx hyd (by rw [List.length_map, HDS.out.1]) (by rw [List.length_map, HDS.out.2]) HPO.out.1 HZ.out.2.1 HZ.out.2.2.1 hb3 (by rw [HL.out]; exact hfin) HNO.out
                have hoall : Only [bb, nb, qb] w0 wo := HZ.out.2.2.2.2.trans ((HZ.out.2.1.mono (by simp)).trans (hb3.mono (by simp)))
                have hEE : r = progR s ∧ n' = ⟨upP n.pg (x : Int) (y : Int) (d.map (turnB s), sp.map (turnB s)), up1 n.nx (x : Int) ((y : Int) + 1), n.er⟩ ∧ s' = s.next := by
                  have := HEE.out
                  simp only [Prod.mk.injEq] at this
                  exact ⟨this.1.symm, this.2.1.symm, this.2.2.symm⟩
                obtain ⟨hr1, rfl, rfl⟩ := hEE
                have HR1 := Lib.hid (hr1.trans HPR.out)
                have HFF := Lib.hid (And.intro hfinal (And.intro hpz hoall))
                clear hr1 hfinal hpz hoall hfin hmr hor
                go_wp2_with fail
                go_ret
                refine ⟨by rw [HR1.out]; rfl, ?_⟩
                first | exact ⟨_, HFF.out.1, HFF.out.2.1, HFF.out.2.2⟩ | exact ⟨⟨_, HFF.out.1⟩, HFF.out.2.1, HFF.out.2.2⟩
  · rw [if_neg hok] at hE
    obtain ⟨rfl, rfl, rfl⟩ : 1 = r ∧ n = n' ∧ s = s' := by simpa using hE
    have HP := Lib.hid (rnand_page_no h b p hok)
    clear hok hE
    go_enter Try.func31, Try.ntmps31
    go_wp2_with (go_at_call 52; refine HP.out.mono ?_; rintro e w' ⟨rfl, rfl⟩)
    go_ret
    exact ⟨rfl, l, h, hp, Only.refl _ _⟩
end
end Go.Proofs.Ytionjddcahgpkaa
