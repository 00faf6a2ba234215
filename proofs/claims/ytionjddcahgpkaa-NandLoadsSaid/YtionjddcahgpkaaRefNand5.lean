/- The reference's chip of pages is given other bytes. -/
import Derived.Test.YtionjddcahgpkaaRefNand4
import Derived.Test.YtionjddcahgpkaaLoadP
set_option linter.unusedVariables false
set_option maxRecDepth 100000
set_option linter.unusedSimpArgs false
namespace Go.Proofs.Ytionjddcahgpkaa
open Go.RowKit

set_option maxHeartbeats 1000000 in
theorem page_cells {w : World} {rb gc gd ge : Nat} (c2 : w.cell? ⟨rb, 2, none⟩ = some (.int .i64 (gc : Int))) (c3 : w.cell? ⟨rb, 3, none⟩ = some (.int .i64 (gd : Int))) (c4 : w.cell? ⟨rb, 4, none⟩ = some (.int .i64 (ge : Int))) (hbd : gc ≤ 64 ∧ gd ≤ 32 ∧ ge ≤ 256) (b p : Nat) (hb : b < gc) (hp : p < gd) {o : Nat} (ho : (b * gd + p) * (ge + 16) = o) :
    Calls Try.prog 52 #[.pointer (some ⟨rb, 0, none⟩), .int .i64 (b : Int), .int .i64 (p : Int)] w fun e w' => e = .returned (.int .i64 (o : Int)) ∧ ∃ k, w' = w.drewN k := by
  obtain ⟨q, hq⟩ : ∃ q, b * gd = q := ⟨_, rfl⟩
  have hq2 : q ≤ 64 * 32 := by rw [← hq]; exact Nat.mul_le_mul (by omega) (by omega)
  rw [hq] at ho
  have ho2 : o ≤ 2080 * 272 := by rw [← ho]; exact Nat.mul_le_mul (by omega) (by omega)
  have m1 : IntKind.i64.wrap ((b : Int) * (gd : Int)) = (q : Int) := by rw [← Int.natCast_mul, hq]; exact IntWalk.i64_in _ (by omega)
  have m2 : IntKind.i64.wrap ((q : Int) + (p : Int)) = ((q + p : Nat) : Int) := by rw [← Int.natCast_add]; exact IntWalk.i64_in _ (by omega)
  have m3 : IntKind.i64.wrap ((ge : Int) + 16) = ((ge + 16 : Nat) : Int) := by rw [show (ge : Int) + 16 = ((ge + 16 : Nat) : Int) by omega]; exact IntWalk.i64_in _ (by omega)
  have m4 : IntKind.i64.wrap (((q + p : Nat) : Int) * ((ge + 16 : Nat) : Int)) = (o : Int) := by rw [← Int.natCast_mul, ho]; exact IntWalk.i64_in _ (by omega)
  obtain ⟨z, hz⟩ : ∃ z, ge + 16 = z := ⟨_, rfl⟩
  obtain ⟨y, hy⟩ : ∃ y, q + p = y := ⟨_, rfl⟩
  rw [hz] at m3 m4
  rw [hy] at m2 m4
  have h1 : ¬ (b : Int) < 0 := by omega
  have h2 : ¬ (gc : Int) ≤ (b : Int) := by omega
  have h3 : ¬ (p : Int) < 0 := by omega
  have h4 : ¬ (gd : Int) ≤ (p : Int) := by omega
  clear hbd hq hq2 ho ho2 hz hy hb hp
  go_enter Try.func52, Try.ntmps52
  go_upto_region 3 with fail
  go_quiet (fail)
  go_wp2_with fail
  go_ret
  exact ⟨rfl, _, rfl⟩

set_option maxHeartbeats 1000000 in
theorem ref_erased (A : Option Addr) (c : Nat) (l : List UInt8) (w : World) (hb : Byts w A l) (hl : l.length ≤ 1000000) :
    Calls Try.prog 59 #[.slice A l.length c] w fun e w' => e = .returned (.bool (l == ffs l.length)) ∧ w' = w := by
  obtain ⟨q, hq⟩ : ∃ q, (l == ffs l.length) = q := ⟨_, rfl⟩
  rw [hq]
  have HQ := Lib.hid hq
  clear hq
  go_enter Try.func59, Try.ntmps59
  go_wp2_with fail
  go_loop [3] (fun v3 => ∃ k : Nat, k ≤ l.length ∧ v3 = .int .i64 (k : Int) ∧ Hid (l.take k = ffs k)) (fun v3 => l.length - (intOf v3).toNat)
  case atStart => exact ⟨0, Nat.zero_le _, rfl, (by show _ = _; rfl)⟩
  case round =>
    obtain ⟨k, hk, rfl, hno⟩ := hrel
    by_cases hlt : k < l.length
    · obtain ⟨b, off, rfl, hcell⟩ := hb.at hlt
      have hlt' : (k : Int) < (l.length : Int) := by omega
      by_cases hx : l[k] = 255
      · have HN : Hid (l.take (k + 1) = ffs (k + 1)) := by
          show _ = _
          rw [List.take_succ_eq_append_getElem hlt, hno.out, hx]
          exact List.replicate_succ'.symm
        rw [hx] at hcell
        have h255 : ((255 : UInt8).toNat : Int) = 255 := by rfl
        rw [h255] at hcell
        clear hx hb hno h255
        go_wp2_with fail
        go_round
        case rel => exact ⟨k + 1, by omega, by go_num, HN⟩
        case measure => simp [intOf]; omega
      · have HF : Hid (q = false) := by
          show _ = _
          rw [← HQ.out, beq_eq_false_iff_ne]
          intro e
          apply hx
          have : l[k]? = (ffs l.length)[k]? := congrArg (fun m => m[k]?) e
          rw [List.getElem?_eq_getElem hlt] at this
          simp only [ffs, List.getElem?_replicate, if_pos hlt] at this
          exact Option.some.inj this
        have hv : ¬ (l[k].toNat : Int) = 255 := fun e => hx (by
          apply UInt8.toNat_inj.1
          have : l[k].toNat = 255 := by omega
          rw [this]; rfl)
        have hv2 : ((l[k].toNat : Int) != 255) = true := by rw [bne_iff_ne]; exact hv
        clear hx hb hno
        generalize l[k].toNat = y at *
        go_wp2_with fail
        go_ret
        exact ⟨by rw [HF.out]; rfl, rfl⟩
    · obtain rfl : k = l.length := by omega
      have HT : Hid (q = true) := by
        show _ = _
        rw [← HQ.out, beq_iff_eq]
        have := hno.out
        rw [List.take_length] at this
        exact this
      clear hno
      go_wp2_with fail
      go_ret
      exact ⟨by rw [HT.out]; rfl, rfl⟩

section
variable {w : World} {rb bb nb kb sa sz gc gd ge : Nat} {rp : Option Addr} {l : List UInt8} {N : Nat} {n n0 : NSt}

set_option maxHeartbeats 8000000 in
theorem rnand_load (h : RNand w rb bb nb kb rp sa sz gc gd ge l N n) (hz : ∀ b, n.nx b = 0) (hz0 : ∀ b, n0.nx b = 0) (A : Option Addr) (T c : Nat) (x : List UInt8) (hy : Byts w A x) (hT : gc * gd * (ge + 16) = T) (hx : x.length = T) (hc : T ≤ c ∧ c ≤ maxLen) (hA : ∀ a, A = some a → 0 < x.length → a.block ∉ [rb, nb]) :
    Calls Try.prog 37 #[.pointer (some ⟨rb, 0, none⟩), .slice A T c] w fun e w' => e = .returned (.int .i64 0) ∧ (Blk w' nb 3 (cntCells gc (ldTo gd ge x n0 (gc * gd)).nx) ∧ w'.cell? ⟨rb, 7, none⟩ = some (.slice (some ⟨nb, 0, none⟩) gc gc)) ∧ Only [rb, nb] w w' := by
  obtain ⟨w0, rfl⟩ : ∃ w0 : World, w0 = w := ⟨_, rfl⟩
  have hbd := h.bd
  have hll : l.length = T := by rw [h.fl.len]; exact hT
  have hTs : T ≤ 557056 := by rw [← hll]; exact h.size
  have c6 : w0.cell? ⟨rb, 6, none⟩ = some (.slice (some ⟨bb, 0, none⟩) T T) := by rw [← hll]; exact h.blk.cell 6 _ rfl
  have c6f := h.blk.frz 6
  have hrl := h.lt rb (by simp)
  have hnl := h.lt nb (by simp)
  have hdd := h.d
  have hkb := h.blk
  rw [hll] at hkb
  have hnx := h.nx
  have hnx0 : cntCells gc n.nx = cntCells gc (ldTo gd ge x n0 0).nx := by
    have : n.nx = (ldTo gd ge x n0 0).nx := by funext b; rw [hz b]; exact (hz0 b).symm
    rw [this]
  rw [hnx0] at hnx
  have hsz0 := Nat.le_refl w0.heap.size
  have HX := Lib.hid (And.intro hx (And.intro hT (And.intro hz0 hA)))
  have HY := Lib.hid hy
  have HK := Lib.hid (And.intro hkb hnx)
  have hxl : x.length ≤ 140737488355328 := by omega
  have hgd0 : 0 < gd := by omega
  obtain ⟨M, hM⟩ : ∃ M, gc * gd = M := ⟨_, rfl⟩
  obtain ⟨Z, hZ⟩ : ∃ Z, ge + 16 = Z := ⟨_, rfl⟩
  have HMZ := Lib.hid (And.intro hM hZ)
  have hm1 : IntKind.i64.wrap ((ge : Int) + 16) = (Z : Int) := by rw [show (ge : Int) + 16 = ((ge + 16 : Nat) : Int) by omega, hZ]; exact IntWalk.i64_in _ (by omega)
  rw [hM]
  have hTT : ((T : Int) != (T : Int)) = false := by simp
  have hZb : 32 ≤ Z ∧ Z ≤ 272 := by omega
  clear h hll hkb hnx hnx0 hz0 hz hM hZ hT hA hx
  go_enter Try.func37, Try.ntmps37
  go_upto_region 4 with (at_builtin; refine wpList_wanted (by rfl) fun K hK => wp_clone_byts _ rfl rfl hy HX.out.1.symm hxl hsz0 ?_; intro v1 w1 hown hb1 _; have c6b := (hb1.cell (p := ⟨rb, 6, none⟩) hrl).trans c6; have c6bf := (World.frozen?_of_block (w := w0) (hb1.block rb hrl)).trans c6f; obtain ⟨Av, cv, rfl, -, -, -⟩ := hown.byts; rw [HX.out.1]; refine hK _ _ ?_; clear hK K)
  have hk1 := (HK.out.1.belowR hb1).set 6 (.slice Av T cv)
  have hn1 := (HK.out.2.belowR hb1).set_other (p := ⟨rb, 6, none⟩) (by show nb ≠ rb; omega) (.slice Av T cv)
  have ho1 : Only [rb, nb] w0 (w1.setCell ⟨rb, 6, none⟩ (.slice Av T cv)) := (Only.of_below hb1 [rb, nb]).setCell (Or.inl (by simp)) (.slice Av T cv)
  clear hown hb1 c6b c6bf c6 c6f hy
  generalize w1.setCell ⟨rb, 6, none⟩ (.slice Av T cv) = w2 at *
  have c4 : w2.cell? ⟨rb, 4, none⟩ = some (.int .i64 (ge : Int)) := hk1.cell 4 _ rfl
  go_upto_region 6 with fail
  go_loopw [6, 7, 8] (fun v6 v7 v8 wr => ∃ i : Nat, i ≤ gc ∧ v6 = .int .i64 (i : Int) ∧ Blk wr rb 60 [.int .i64 (sa : Int), .int .i64 (sz : Int), .int .i64 (gc : Int), .int .i64 (gd : Int), .int .i64 (ge : Int), .pointer rp, .slice Av T cv, .slice (some ⟨nb, 0, none⟩) gc gc, .slice (some ⟨kb, 0, none⟩) gc gc] ∧ Blk wr nb 3 (cntCells gc (ldTo gd ge x n0 (i * gd)).nx) ∧ Only [rb, nb] w0 wr) (fun v6 _ _ _ => gc - (intOf v6).toNat)
  case atStart => exact ⟨0, Nat.zero_le _, rfl, hk1, by rw [Nat.zero_mul]; exact hn1, ho1⟩
  case round =>
    clear hk1 hn1 ho1 c4
    obtain ⟨i, hi, rfl, hk, hn, ho⟩ := hrel
    obtain ⟨wo, rfl⟩ : ∃ wo, wo = wr := ⟨_, rfl⟩
    have c2 : wo.cell? ⟨rb, 2, none⟩ = some (.int .i64 (gc : Int)) := hk.cell 2 _ rfl
    by_cases hlt : i < gc
    · have hltI : (i : Int) < (gc : Int) := by omega
      have c7 := hk.cell 7 _ rfl
      have cn := hn.cell i _ (cntCells_get hlt)
      have cnf := hn.frz i
      have hset := hn.set i (.int .i64 0)
      have hz1 : up1 (ldTo gd ge x n0 (i * gd)).nx (i : Int) 0 = (ldTo gd ge x n0 (i * gd)).nx := by
        funext b
        by_cases e : b = (i : Int)
        · rw [e, up1_same]
          exact (ldTo_later HX.out.2.2.1 hgd0 i (i * gd) (Nat.le_refl _)).symm
        · rw [up1_other _ _ e]
      rw [cntCells_up (0 : Int), hz1] at hset
      have hos : Only [nb] wo (wo.setCell ⟨nb, i, none⟩ (.int .i64 0)) := (Only.refl _ _).setCell (Or.inl (by simp)) _
      have hks := hk.only hos (by simp; omega)
      have ho' := ho.trans (hos.mono (by simp))
      clear hz1 hn ho hos
      go_upto_region 9 with fail
      clear hk c2 c7 cn cnf
      generalize wo.setCell ⟨nb, i, none⟩ (.int .i64 0) = w3 at *
      go_upto_region 10 with fail
      go_loopw [7, 8] (fun v7 v8 wr => ∃ k : Nat, k ≤ gd ∧ v7 = .int .i64 (k : Int) ∧ Blk wr rb 60 [.int .i64 (sa : Int), .int .i64 (sz : Int), .int .i64 (gc : Int), .int .i64 (gd : Int), .int .i64 (ge : Int), .pointer rp, .slice Av T cv, .slice (some ⟨nb, 0, none⟩) gc gc, .slice (some ⟨kb, 0, none⟩) gc gc] ∧ Blk wr nb 3 (cntCells gc (ldTo gd ge x n0 (i * gd + k)).nx) ∧ Only [rb, nb] w0 wr) (fun v7 _ _ => gd - (intOf v7).toNat)
      case atStart => exact ⟨0, Nat.zero_le _, rfl, hks, hset, ho'⟩
      case round =>
        clear hks hset ho'
        obtain ⟨k, hk', rfl, hk, hn, ho⟩ := hrel
        obtain ⟨wi, rfl⟩ : ∃ wi, wi = wr := ⟨_, rfl⟩
        have c3 : wi.cell? ⟨rb, 3, none⟩ = some (.int .i64 (gd : Int)) := hk.cell 3 _ rfl
        by_cases hltk : k < gd
        · have hltI2 : (k : Int) < (gd : Int) := by omega
          obtain ⟨q, hq⟩ : ∃ q, i * gd + k = q := ⟨_, rfl⟩
          have hqM : q < M := by
            have := level_lt hlt hltk
            rw [hq, HMZ.out.1] at this
            exact this
          have hstep := ldTo_at (D := gd) (E := ge) (x := x) (n0 := n0) i k hltk
          rw [hq] at hstep hn
          obtain ⟨o, hoq⟩ : ∃ o, q * Z = o := ⟨_, rfl⟩
          have hroom : o + Z ≤ T := by
            rw [← hoq, ← HX.out.2.1, HMZ.out.1, HMZ.out.2, ← Nat.succ_mul]
            exact Nat.mul_le_mul_right _ hqM
          have HPG := Lib.hid (page_cells (w := wi) (rb := rb) (hk.cell 2 _ rfl) (hk.cell 3 _ rfl) (hk.cell 4 _ rfl) (by omega) i k hlt hltk (o := o) (by rw [hq, HMZ.out.2]; exact hoq))
          obtain ⟨ch, hch⟩ : ∃ ch, chunk x (ge + 16) q = ch := ⟨_, rfl⟩
          have hchl : ch.length = Z := by rw [← hch, ← HMZ.out.2]; exact chunk_len (M := M) (by rw [HX.out.1, ← HX.out.2.1, HMZ.out.1]) hqM
          rw [hch] at hstep
          obtain ⟨bq, oq, hAq, -⟩ := HY.out.at (k := 0) (by have := HX.out.1; omega)
          subst hAq
          have hbne : bq ∉ [rb, nb] := HX.out.2.2.2 _ rfl (by have := HX.out.1; omega)
          have hy8 : Byts w0 (some ⟨bq, oq + o, none⟩) ch := by
            have := (HY.out.drop o).take Z
            rw [← hch, HMZ.out.2]
            unfold chunk
            rw [hoq]
            exact this
          obtain ⟨eq, heq⟩ : ∃ eq, (ch == ffs Z) = eq := ⟨_, rfl⟩
          have HE : Hid (∀ W, Only [rb, nb] w0 W → Calls Try.prog 59 #[.slice (some ⟨bq, oq + o, none⟩) Z (c - o)] W fun e w' => e = .returned (.bool eq) ∧ w' = W) := fun W hW => by
            have := ref_erased (some ⟨bq, oq + o, none⟩) (c - o) ch W (hy8.only hW (fun a e _ => by cases e; exact hbne)) (by omega)
            rw [hchl, heq] at this
            exact this
          have hwo : IntKind.i64.wrap ((o : Int) + (Z : Int)) = ((o + Z : Nat) : Int) := by rw [← Int.natCast_add]; exact IntWalk.i64_in _ (by omega)
          have HS := Lib.hid (And.intro hstep hq)
          have i0 : (0 : Int) ≤ (o : Int) := by omega
          have i1 : (o : Int) ≤ ((o + Z : Nat) : Int) := by omega
          have i2 : ((o + Z : Nat) : Int) ≤ (c : Int) := by omega
          have i3 : ¬ c = o := by omega
          have HW2 := Lib.hid (fun kk => And.intro (hk.belowR (w' := wi.drewN kk) (below_drewN (Below.refl _ _) kk)) (And.intro (hn.belowR (w' := wi.drewN kk) (below_drewN (Below.refl _ _) kk)) (ho.drewN kk)))
          clear hk hn ho hstep hq hoq hch hy8 hchl hxl
          go_upto_region 13 with (go_at_call 52; (with_reducible refine HPG.out.mono ?_); rintro e w' ⟨rfl, kk, rfl⟩)
          obtain ⟨hk, hn, ho⟩ := HW2.out kk
          generalize wi.drewN kk = w4 at *
          clear HW2 c3 HPG
          have h3k : Hid (i * gd + (k + 1) = q + 1) := by show _ = _; have := HS.out.2; omega
          cases eq with
          | true =>
            have hne : ch = ffs Z := by simpa using heq
            have HND := Lib.hid (show ldTo gd ge x n0 (i * gd + (k + 1)) = ldTo gd ge x n0 q by
              rw [h3k.out, HS.out.1]
              unfold ldStep
              rw [if_pos (by rw [HMZ.out.2]; exact hne)])
            clear hne heq
            go_wp2_with (go_at_call 59; (with_reducible refine (HE.out _ ho).mono ?_); rintro e w' ⟨rfl, rfl⟩)
            go_roundw
            case rel => exact ⟨k + 1, by omega, by go_num, hk, by rw [HND.out]; exact hn, ho⟩
            case measure => (simp [intOf] <;> omega)
          | false =>
            have hne : ¬ ch = ffs Z := by simpa using heq
            have HND := Lib.hid (show (ldTo gd ge x n0 (i * gd + (k + 1))).nx = up1 (ldTo gd ge x n0 q).nx (i : Int) ((k : Int) + 1) by
              rw [h3k.out, HS.out.1]
              unfold ldStep
              rw [if_neg (by rw [HMZ.out.2]; exact hne)])
            clear hne heq
            have d7 := hk.cell 7 _ rfl
            have dn := hn.cell i _ (cntCells_get hlt)
            have dnf := hn.frz i
            have hset := hn.set i (.int .i64 ((k : Int) + 1))
            rw [cntCells_up ((k : Int) + 1), ← HND.out] at hset
            have hos : Only [nb] w4 (w4.setCell ⟨nb, i, none⟩ (.int .i64 ((k : Int) + 1))) := (Only.refl _ _).setCell (Or.inl (by simp)) _
            have HF := Lib.hid (And.intro (hk.only hos (by simp; omega)) (And.intro hset (ho.trans (hos.mono (by simp)))))
            have hwk : IntKind.i64.wrap ((k : Int) + 1) = (k : Int) + 1 := IntWalk.i64_in _ (by omega)
            clear hset hos hk hn
            go_upto_region 14 with (go_at_call 59; (with_reducible refine (HE.out _ ho).mono ?_); rintro e w' ⟨rfl, rfl⟩)
            clear ho
            go_wp2_with fail
            go_roundw
            case rel => exact ⟨k + 1, by omega, by go_num, HF.out.1, HF.out.2.1, HF.out.2.2⟩
            case measure => (simp [intOf] <;> omega)
        · obtain rfl : k = gd := by omega
          have hltI2 : ¬ (k : Int) < (k : Int) := by omega
          have e1 : i * k + k = (i + 1) * k := by rw [Nat.add_mul, Nat.one_mul]
          rw [e1] at hn
          go_wp2_with fail
          go_roundw
          case rel => exact ⟨i + 1, by omega, by go_num, hk, hn, ho⟩
          case measure => (simp [intOf] <;> omega)
    · obtain rfl : i = gc := by omega
      have hltI : ¬ (i : Int) < (i : Int) := by omega
      have hfin : ldTo gd ge x n0 (i * gd) = ldTo gd ge x n0 M := by rw [HMZ.out.1]
      rw [hfin] at hn
      have c7 := hk.cell 7 _ rfl
      have HF := Lib.hid (And.intro hn (And.intro c7 ho))
      clear hk hn ho c7
      go_wp2_with fail
      go_ret
      exact ⟨rfl, ⟨HF.out.1, HF.out.2.1⟩, HF.out.2.2⟩
end
end Go.Proofs.Ytionjddcahgpkaa
