/- The reference's chip: erasing. -/
import Derived.Test.YtcdgpioljilgeaaRefNor4
set_option linter.unusedVariables false
set_option maxRecDepth 100000
set_option linter.unusedSimpArgs false
namespace Go.Proofs.Ytcdgpioljilgeaa
open Go.RowKit

section
variable {w : World} {rb bb kb qb : Nat} {g : Geo} {l : List UInt8} {N : Nat} {cnt : Int → Int} {GP : List Nat} {s : PS}

theorem rsecLe (h : RNor w rb bb kb (some ⟨qb, 0, none⟩) g l N cnt) {i : Nat} (hi : secOk g (i : Int)) : i * g.b.toNat + g.b.toNat ≤ l.length := by
  have hok := h.ok
  have hl := h.len
  unfold secOk at hi
  unfold Geo.ok at hok
  rcases g with ⟨a, b, c, d, e⟩
  simp only at *
  obtain ⟨sz, rfl⟩ : ∃ sz : Nat, b = (sz : Int) := ⟨b.toNat, by omega⟩
  obtain ⟨sa, rfl⟩ : ∃ sa : Nat, a = (sa : Int) := ⟨a.toNat, by omega⟩
  have hLs : l.length = sa * sz := by
    have : ((sa * sz : Nat) : Int) = (sa : Int) * (sz : Int) := by push_cast; rfl
    omega
  simp only [Int.toNat_natCast]
  rw [hLs, ← Nat.succ_mul]
  exact Nat.mul_le_mul_right _ (by omega)

theorem orL_ff (l : List UInt8) (o n : Nat) (h : o + (n + 1) ≤ l.length) : (orL l o n 255).set (o + n) 255 = orL l o (n + 1) 255 := by
  rw [← orL_succ l o n 255 h, or_ff]

set_option maxHeartbeats 4000000 in
theorem rnor_erase (h : RNor w rb bb kb (some ⟨qb, 0, none⟩) g l N cnt) (hN : N ≤ 1000000000) (hp : RPow w qb GP s) (hd : ∀ x ∈ GP, x ∉ [rb, bb, kb]) (x : Int) (hx : -9223372036854775808 ≤ x ∧ x ≤ 9223372036854775807) (hdone : s.done ≤ 1000000000000) :
    Calls Try.prog 34 #[.pointer (some ⟨rb, 0, none⟩), .int .i64 x] w fun e w' => e = .returned (.int .i64 (eraseE g s l cnt x).1) ∧ RNor w' rb bb kb (some ⟨qb, 0, none⟩) g (eraseE g s l cnt x).2.1 (N + 1) (eraseE g s l cnt x).2.2.2 ∧ RPow w' qb GP (eraseE g s l cnt x).2.2.1 ∧ Only [bb, kb, qb] w w' := by
  obtain ⟨w0, rfl⟩ : ∃ w0 : World, w0 = w := ⟨_, rfl⟩
  have hmore : ∀ (W : World) (L : List UInt8) (C : Int → Int), RNor W rb bb kb (some ⟨qb, 0, none⟩) g L N C → RNor W rb bb kb (some ⟨qb, 0, none⟩) g L (N + 1) C := by
    rintro W L C ⟨h1, h2, h3, h5, h6, h7, h8, h9, h10⟩
    exact ⟨h1, h2, h3, fun y => ⟨(h5 y).1, by have := (h5 y).2; omega⟩, h6, h7, h8, h9, h10⟩
  have c0 := h.blk.cell 0 _ rfl
  by_cases hs : secOk g x
  · obtain ⟨i, rfl⟩ : ∃ i : Nat, x = (i : Int) := ⟨x.toNat, by unfold secOk at hs; omega⟩
    have hle := rsecLe h hs
    have hz := h.size
    have HE := Lib.hid (show eraseE g s l cnt (i : Int) = (if s.did = true then (0, orL l (i * g.b.toNat) g.b.toNat 255, s.next, upC cnt (i : Int)) else if s.torn = true then (6, orL l (i * g.b.toNat) g.b.toNat s.mask, s.next, cnt) else (6, l, s.next, cnt)) by unfold eraseE; rw [if_pos hs, Int.toNat_natCast])
    have hok := h.ok
    unfold Geo.ok at hok
    have hsec := hs
    unfold secOk at hsec
    obtain ⟨sz, hsz⟩ : ∃ sz : Nat, g.b = (sz : Int) := ⟨g.b.toNat, by omega⟩
    obtain ⟨sa, hsa⟩ : ∃ sa : Nat, g.a = (sa : Int) := ⟨g.a.toNat, by omega⟩
    have hbn : g.b.toNat = sz := by omega
    rw [hbn] at HE hle
    obtain ⟨lo, hlo⟩ : ∃ lo, i * sz = lo := ⟨_, rfl⟩
    rw [hlo] at HE hle
    have hsz2 : sz ≤ 4096 := by omega
    have hi : i < sa := by omega
    have hsa2 : sa ≤ 16 := by omega
    have hm1 : IntKind.i64.wrap ((i : Int) * (sz : Int)) = (lo : Int) := by rw [← Int.natCast_mul, hlo]; exact IntWalk.i64_in _ (by omega)
    have hm0 : IntKind.i64.wrap ((i : Int) + 1) = (i : Int) + 1 := IntWalk.i64_in _ (by omega)
    have hm2 : IntKind.i64.wrap (((i : Int) + 1) * (sz : Int)) = ((lo + sz : Nat) : Int) := by
      have : ((i : Int) + 1) * (sz : Int) = ((lo + sz : Nat) : Int) := by rw [Int.add_mul, Int.one_mul, ← Int.natCast_mul, hlo]; push_cast; rfl
      rw [this]; exact IntWalk.i64_in _ (by omega)
    have HS := Lib.hid (And.intro hsz hsa)
    rw [hsa] at c0
    have c1 : w0.cell? ⟨rb, 1, none⟩ = some (.int .i64 (sz : Int)) := by rw [← hsz]; exact h.blk.cell 1 _ rfl
    have c5 := h.blk.cell 5 _ rfl
    have hqF := hp.mem
    have hqn := hd _ hqF
    simp only [List.mem_cons, List.not_mem_nil, or_false, not_or] at hqn
    have hnf : ∀ y ∈ [rb, bb, kb], y ∉ [qb] := by simp; omega
    clear hok hsec hsz hsa hbn hlo hs
    go_enter Try.func34, Try.ntmps34
    go_upto_region 4 with (go_at_call 70; refine (rpow_step _ _ _ _ hp (by omega)).mono ?_; rintro e w2 ⟨rfl, hp2, ho2⟩)
    have hC := h.only ho2 hnf
    have d0 : w2.cell? ⟨rb, 0, none⟩ = some (.int .i64 (sa : Int)) := by rw [← HS.out.2]; exact hC.blk.cell 0 _ rfl
    have d1 : w2.cell? ⟨rb, 1, none⟩ = some (.int .i64 (sz : Int)) := by rw [← HS.out.1]; exact hC.blk.cell 1 _ rfl
    clear c0 c1 c5 h hp
    go_upto_region 5 with fail
    cases hdid : s.did with
    | true =>
      have HE2 := Lib.hid (HE.out.trans (if_pos hdid))
      go_loopw [7] (fun v7 wr => ∃ j : Nat, j ≤ sz ∧ v7 = .int .i64 ((lo + j : Nat) : Int) ∧ RNor wr rb bb kb (some ⟨qb, 0, none⟩) g (orL l lo j 255) N cnt ∧ RPow wr qb GP s.next ∧ Only [bb, kb, qb] w0 wr) (fun v7 _ => (lo + sz) - (intOf v7).toNat)
      case atStart => exact ⟨0, Nat.zero_le _, rfl, by rw [orL_zero]; exact hC, hp2, ho2.mono (by simp)⟩
      case round =>
        clear hC hp2 ho2 d0 d1
        obtain ⟨j, hj, rfl, hC, hp2, ho⟩ := hrel
        have d0 : wr.cell? ⟨rb, 0, none⟩ = some (.int .i64 (sa : Int)) := by rw [← HS.out.2]; exact hC.blk.cell 0 _ rfl
        have d1 : wr.cell? ⟨rb, 1, none⟩ = some (.int .i64 (sz : Int)) := by rw [← HS.out.1]; exact hC.blk.cell 1 _ rfl
        have hlen : (orL l lo j 255).length = l.length := orL_length _ _ _ _ (by omega)
        have d6 : wr.cell? ⟨rb, 6, none⟩ = some (.slice (some ⟨bb, 0, none⟩) l.length l.length) := by rw [← hlen]; exact hC.blk.cell 6 _ rfl
        by_cases hlt : j < sz
        · have hl1 : lo + j < l.length := by omega
          obtain ⟨old, hold⟩ : ∃ u, wr.cell? ⟨bb, lo + j, none⟩ = some u := ⟨_, hC.mem.get (i := lo + j) (by rw [hlen]; exact hl1)⟩
          have hf := hC.mem.frz (lo + j)
          have hms := hC.mem.set (lo + j) 255
          rw [orL_ff l lo j (by omega)] at hms
          have hos : Only [bb] wr (wr.setCell ⟨bb, lo + j, none⟩ (.int .u8 255)) := (Only.refl _ _).setCell (by simp) _
          have hC3 := hC.turn hos (by simpa using hC.d1) (by simpa using (Ne.symm hC.d3)) hms (by rw [hlen]; exact orL_length _ _ _ _ (by omega))
          have hp3 := hp2.only hos (fun y hy => by simp; rintro rfl; exact hd _ hy (by simp))
          have ho3 := ho.trans (hos.mono (by simp))
          have HX := Lib.hid (And.intro hC3 (And.intro hp3 ho3))
          have hlj : ((lo + j : Nat) : Int) < ((lo + sz : Nat) : Int) := by omega
          clear hC3 hp3 ho3 hos hms hC hp2 ho hlen
          go_wp2_with fail
          go_roundw
          case rel => exact ⟨j + 1, by omega, by go_num, HX.out.1, HX.out.2.1, HX.out.2.2⟩
          case measure => simp [intOf]; omega
        · obtain rfl : j = sz := by omega
          have hcb := hC.cntb (i : Int)
          have hga : g.a.toNat = sa := by have := HS.out.2; omega
          have hcn : Blk wr kb 3 (cntCells sa cnt) := by rw [← hga]; exact hC.cn
          have d7 : wr.cell? ⟨rb, 7, none⟩ = some (.slice (some ⟨kb, 0, none⟩) sa sa) := by rw [← hga]; exact hC.blk.cell 7 _ rfl
          have hkc := hcn.cell i _ (cntCells_get hi)
          have hkf := hcn.frz i
          have hos : Only [kb] wr (wr.setCell ⟨kb, i, none⟩ (.int .i64 (cnt (i : Int) + 1))) := (Only.refl _ _).setCell (by simp) _
          have hC3 : RNor (wr.setCell ⟨kb, i, none⟩ (.int .i64 (cnt (i : Int) + 1))) rb bb kb (some ⟨qb, 0, none⟩) g (orL l lo j 255) (N + 1) (upC cnt (i : Int)) := by
            obtain ⟨h1, h2, h3, h5, h6, h7, h8, h9, h10⟩ := hC
            refine ⟨h1.only hos (by simpa using h9), h2.only hos (by simpa using h10), ?_, fun y => ?_, h6, h7, h8, h9, h10⟩
            · have hz := hcn.set i (.int .i64 (cnt (i : Int) + 1))
              rw [cntCells_up] at hz
              rw [hga]
              exact hz
            · have := h5 y
              unfold upC
              split <;> omega
          have hp3 := hp2.only hos (fun y hy => by simp; rintro rfl; exact hd _ hy (by simp))
          have ho3 := ho.trans (hos.mono (by simp))
          have HX := Lib.hid (And.intro hC3 (And.intro hp3 ho3))
          clear hC3 hp3 ho3 hos hC hp2 ho hlen hcn hga hmore
          go_wp2_with fail
          go_ret
          rw [HE2.out]
          exact ⟨rfl, HX.out.1, HX.out.2.1, HX.out.2.2⟩
    | false =>
      have HE1 := Lib.hid (HE.out.trans (if_neg (by rw [hdid]; decide)))
      cases htorn : s.torn with
      | true =>
        have HE2 := Lib.hid (HE1.out.trans (if_pos htorn))
        have HM := Lib.hid hmore
        clear hmore
        go_loopw [7] (fun v7 wr => ∃ j : Nat, j ≤ sz ∧ v7 = .int .i64 ((lo + j : Nat) : Int) ∧ RNor wr rb bb kb (some ⟨qb, 0, none⟩) g (orL l lo j s.mask) N cnt ∧ RPow wr qb GP s.next ∧ Only [bb, kb, qb] w0 wr) (fun v7 _ => (lo + sz) - (intOf v7).toNat)
        case atStart => exact ⟨0, Nat.zero_le _, rfl, by rw [orL_zero]; exact hC, hp2, ho2.mono (by simp)⟩
        case round =>
          clear hC hp2 ho2 d0 d1
          obtain ⟨j, hj, rfl, hC, hp2, ho⟩ := hrel
          have d0 : wr.cell? ⟨rb, 0, none⟩ = some (.int .i64 (sa : Int)) := by rw [← HS.out.2]; exact hC.blk.cell 0 _ rfl
          have d1 : wr.cell? ⟨rb, 1, none⟩ = some (.int .i64 (sz : Int)) := by rw [← HS.out.1]; exact hC.blk.cell 1 _ rfl
          have hlen : (orL l lo j s.mask).length = l.length := orL_length _ _ _ _ (by omega)
          have d5 := hC.blk.cell 5 _ rfl
          have d6 : wr.cell? ⟨rb, 6, none⟩ = some (.slice (some ⟨bb, 0, none⟩) l.length l.length) := by rw [← hlen]; exact hC.blk.cell 6 _ rfl
          by_cases hlt : j < sz
          · have hl1 : lo + j < l.length := by omega
            have hold := hC.mem.get (i := lo + j) (by rw [hlen]; exact hl1)
            rw [orL_at _ _ _ _ hl1] at hold
            obtain ⟨AR, cR, hrb⟩ := hp2.blk
            have r2 : wr.cell? ⟨qb, 2, none⟩ = some (.int .u8 (s.mask.toNat : Int)) := by rw [← s.next_mask]; exact hrb.cell 2 _ rfl
            have hf := hC.mem.frz (lo + j)
            have hor := or_u8 l[lo + j] s.mask
            have hms := hC.mem.set (lo + j) (l[lo + j] ||| s.mask)
            rw [orL_succ l lo j _ (by omega)] at hms
            have hos : Only [bb] wr (wr.setCell ⟨bb, lo + j, none⟩ (.int .u8 ((l[lo + j] ||| s.mask).toNat : Int))) := (Only.refl _ _).setCell (by simp) _
            have hC3 := hC.turn hos (by simpa using hC.d1) (by simpa using (Ne.symm hC.d3)) hms (by rw [hlen]; exact orL_length _ _ _ _ (by omega))
            have hp3 := hp2.only hos (fun y hy => by simp; rintro rfl; exact hd _ hy (by simp))
            have ho3 := ho.trans (hos.mono (by simp))
            have HX := Lib.hid (And.intro hC3 (And.intro hp3 ho3))
            have hlj : ((lo + j : Nat) : Int) < ((lo + sz : Nat) : Int) := by omega
            have q0 : (0 : Int) ≤ ((lo + j : Nat) : Int) := by omega
            have q1 : ((lo + j : Nat) : Int) < (l.length : Int) := by omega
            clear hC3 hp3 ho3 hos hms hC hp2 ho hlen hrb
            generalize (l[lo + j] ||| s.mask) = zz at *
            generalize l[lo + j] = yy at *
            go_upto_region 10 with fail
            go_region
            clear hold hf d6 d5 r2 hor q0 q1
            go_wp2_with fail
            go_roundw
            case rel => exact ⟨j + 1, by omega, by go_num, HX.out.1.drewN 1, HX.out.2.1.below (below_drewN (Below.refl _ _) 1), HX.out.2.2.drewN 1⟩
            case measure => simp [intOf]; omega
          · obtain rfl : j = sz := by omega
            go_wp2_with fail
            go_ret
            rw [HE2.out]
            exact ⟨rfl, HM.out _ _ _ hC, hp2, ho⟩
      | false =>
        have HE2 := Lib.hid (HE1.out.trans (if_neg (by rw [htorn]; decide)))
        have HM := Lib.hid hmore
        clear hmore
        go_loopw [7] (fun v7 wr => ∃ j : Nat, j ≤ sz ∧ v7 = .int .i64 ((lo + j : Nat) : Int) ∧ RNor wr rb bb kb (some ⟨qb, 0, none⟩) g l N cnt ∧ RPow wr qb GP s.next ∧ Only [bb, kb, qb] w0 wr) (fun v7 _ => (lo + sz) - (intOf v7).toNat)
        case atStart => exact ⟨0, Nat.zero_le _, rfl, hC, hp2, ho2.mono (by simp)⟩
        case round =>
          clear hC hp2 ho2 d0 d1
          obtain ⟨j, hj, rfl, hC, hp2, ho⟩ := hrel
          have d0 : wr.cell? ⟨rb, 0, none⟩ = some (.int .i64 (sa : Int)) := by rw [← HS.out.2]; exact hC.blk.cell 0 _ rfl
          have d1 : wr.cell? ⟨rb, 1, none⟩ = some (.int .i64 (sz : Int)) := by rw [← HS.out.1]; exact hC.blk.cell 1 _ rfl
          by_cases hlt : j < sz
          · have hlj : ((lo + j : Nat) : Int) < ((lo + sz : Nat) : Int) := by omega
            go_wp2_with fail
            go_roundw
            case rel => exact ⟨j + 1, by omega, by go_num, hC, hp2, ho⟩
            case measure => simp [intOf]; omega
          · obtain rfl : j = sz := by omega
            go_wp2_with fail
            go_ret
            rw [HE2.out]
            exact ⟨rfl, HM.out _ _ _ hC, hp2, ho⟩
  · have HE := Lib.hid (show eraseE g s l cnt x = (1, l, s, cnt) by unfold eraseE; rw [if_neg hs])
    unfold secOk at hs
    by_cases h1 : x < 0
    · go_enter Try.func34, Try.ntmps34
      go_wp2_with fail
      go_ret
      rw [HE.out]
      exact ⟨rfl, hmore _ _ _ h, hp, Only.refl _ _⟩
    · have h2 : g.a ≤ x := by omega
      clear hs
      go_enter Try.func34, Try.ntmps34
      go_wp2_with fail
      go_ret
      rw [HE.out]
      exact ⟨rfl, hmore _ _ _ h, hp, Only.refl _ _⟩
end
end Go.Proofs.Ytcdgpioljilgeaa
