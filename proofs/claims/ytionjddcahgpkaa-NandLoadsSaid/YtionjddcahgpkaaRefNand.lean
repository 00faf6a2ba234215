/- The reference's chip of pages: as it lies in memory; where a page begins, what is read, counted. -/
import Derived.Test.YtionjddcahgpkaaRefN1
import Derived.Test.YtionjddcahgpkaaFlat
import Derived.Test.YtionjddcahgpkaaRefPowerF
import Derived.Test.YtionjddcahgpkaaHelp
import Derived.Deep.RegionHeld3
set_option linter.unusedVariables false
set_option maxRecDepth 100000
set_option linter.unusedSimpArgs false
namespace Go.Proofs.Ytionjddcahgpkaa
open Go.RowKit

/-- The reference's chip of pages at block rb: bytes at bb, how many count at nb, how often erased at kb. -/
structure RNand (w : World) (rb bb nb kb : Nat) (rp : Option Addr) (sa sz gc gd ge : Nat) (l : List UInt8) (N : Nat) (n : NSt) : Prop where
  blk : Blk w rb 60 [.int .i64 (sa : Int), .int .i64 (sz : Int), .int .i64 (gc : Int), .int .i64 (gd : Int), .int .i64 (ge : Int), .pointer rp, .slice (some ⟨bb, 0, none⟩) l.length l.length, .slice (some ⟨nb, 0, none⟩) gc gc, .slice (some ⟨kb, 0, none⟩) gc gc]
  mem : MemC w bb l.length l
  nx : Blk w nb 3 (cntCells gc n.nx)
  er : Blk w kb 3 (cntCells gc n.er)
  fl : Flat gc gd ge l n.pg
  n : NOk ⟨sa, sz, gc, gd, ge⟩ n N
  ok : Geo.ok ⟨sa, sz, gc, gd, ge⟩
  d : rb ≠ bb ∧ rb ≠ nb ∧ rb ≠ kb ∧ bb ≠ nb ∧ bb ≠ kb ∧ nb ≠ kb

section
variable {w : World} {rb bb nb kb : Nat} {rp : Option Addr} {sa sz gc gd ge : Nat} {l : List UInt8} {N : Nat} {n : NSt}
theorem RNand.only {w' : World} {S : List Nat} (h : RNand w rb bb nb kb rp sa sz gc gd ge l N n) (ho : Only S w w') (hn : ∀ x ∈ [rb, bb, nb, kb], x ∉ S) : RNand w' rb bb nb kb rp sa sz gc gd ge l N n := by
  obtain ⟨h1, h2, h3, h4, h5, h6, h7, h8⟩ := h
  exact ⟨h1.only ho (hn rb (by simp)), h2.only ho (hn bb (by simp)), h3.only ho (hn nb (by simp)), h4.only ho (hn kb (by simp)), h5, h6, h7, h8⟩
theorem RNand.below {w' : World} (h : RNand w rb bb nb kb rp sa sz gc gd ge l N n) (hb : Below w.heap.size w w') : RNand w' rb bb nb kb rp sa sz gc gd ge l N n :=
  h.only (Only.of_below hb []) (fun x _ => by simp)
theorem RNand.drewN (h : RNand w rb bb nb kb rp sa sz gc gd ge l N n) (k : Nat) : RNand (w.drewN k) rb bb nb kb rp sa sz gc gd ge l N n := h.below (below_drewN (Below.refl _ _) k)
theorem RNand.lt (h : RNand w rb bb nb kb rp sa sz gc gd ge l N n) : ∀ x ∈ [rb, bb, nb, kb], x < w.heap.size := by
  intro x hx
  simp at hx
  rcases hx with rfl | rfl | rfl | rfl
  · exact h.blk.lt
  · exact h.mem.lt
  · exact h.nx.lt
  · exact h.er.lt
theorem RNand.mono (h : RNand w rb bb nb kb rp sa sz gc gd ge l N n) {M : Nat} (hm : N ≤ M) : RNand w rb bb nb kb rp sa sz gc gd ge l M n :=
  ⟨h.blk, h.mem, h.nx, h.er, h.fl, h.n.mono hm, h.ok, h.d⟩
theorem RNand.bd (h : RNand w rb bb nb kb rp sa sz gc gd ge l N n) : (4 ≤ gc ∧ gc ≤ 64) ∧ (2 ≤ gd ∧ gd ≤ 32) ∧ 16 ≤ ge ∧ ge ≤ 256 := by
  have := h.ok
  unfold Geo.ok at this
  simp only at this
  omega
theorem RNand.size (h : RNand w rb bb nb kb rp sa sz gc gd ge l N n) : l.length ≤ 557056 := by
  have hb := h.bd
  rw [h.fl.len]
  exact Nat.mul_le_mul (Nat.mul_le_mul hb.1.2 hb.2.1.2) (by omega : ge + 16 ≤ 272)

set_option maxHeartbeats 1000000 in
theorem rnand_page_no (h : RNand w rb bb nb kb rp sa sz gc gd ge l N n) (b p : Int) (hn : ¬ nOk ⟨sa, sz, gc, gd, ge⟩ b p) :
    Calls Try.prog 52 #[.pointer (some ⟨rb, 0, none⟩), .int .i64 b, .int .i64 p] w fun e w' => e = .returned (.int .i64 (-1)) ∧ w = w' := by
  have c2 := h.blk.cell 2 _ rfl
  have c3 := h.blk.cell 3 _ rfl
  have HN := Lib.hid hn
  clear hn h
  by_cases h1 : b < 0
  · go_enter Try.func52, Try.ntmps52
    go_wp2_with fail
    go_ret
    exact ⟨rfl, rfl⟩
  · by_cases h2 : (gc : Int) ≤ b
    · go_enter Try.func52, Try.ntmps52
      go_wp2_with fail
      go_ret
      exact ⟨rfl, rfl⟩
    · by_cases h3 : p < 0
      · go_enter Try.func52, Try.ntmps52
        go_wp2_with fail
        go_ret
        exact ⟨rfl, rfl⟩
      · by_cases h4 : (gd : Int) ≤ p
        · go_enter Try.func52, Try.ntmps52
          go_wp2_with fail
          go_ret
          exact ⟨rfl, rfl⟩
        · refine (HN.out ?_).elim
          unfold nOk
          show (0 ≤ b ∧ b < (gc : Int)) ∧ 0 ≤ p ∧ p < (gd : Int)
          omega

set_option maxHeartbeats 1000000 in
theorem rnand_page (h : RNand w rb bb nb kb rp sa sz gc gd ge l N n) (b p : Nat) (hb : b < gc) (hp : p < gd) {o : Nat} (ho : (b * gd + p) * (ge + 16) = o) :
    Calls Try.prog 52 #[.pointer (some ⟨rb, 0, none⟩), .int .i64 (b : Int), .int .i64 (p : Int)] w fun e w' => e = .returned (.int .i64 (o : Int)) ∧ ∃ k, w' = w.drewN k := by
  have c2 := h.blk.cell 2 _ rfl
  have c3 := h.blk.cell 3 _ rfl
  have c4 := h.blk.cell 4 _ rfl
  have hbd := h.bd
  obtain ⟨q, hq⟩ : ∃ q, b * gd = q := ⟨_, rfl⟩
  have hq2 : q ≤ 64 * 32 := by rw [← hq]; exact Nat.mul_le_mul (by omega) (by omega)
  rw [hq] at ho
  have ho2 : o ≤ 2080 * 272 := by rw [← ho]; exact Nat.mul_le_mul (by omega) (by omega)
  have m1 : IntKind.i64.wrap ((b : Int) * (gd : Int)) = (q : Int) := by rw [← Int.natCast_mul, hq]; exact IntWalk.i64_in _ (by omega)
  have m2 : IntKind.i64.wrap ((q : Int) + (p : Int)) = ((q + p : Nat) : Int) := by rw [← Int.natCast_add]; exact IntWalk.i64_in _ (by omega)
  have m3 : IntKind.i64.wrap ((ge : Int) + 16) = ((ge + 16 : Nat) : Int) := by rw [show (ge : Int) + 16 = ((ge + 16 : Nat) : Int) by omega]; exact IntWalk.i64_in _ (by omega)
  have m4 : IntKind.i64.wrap (((q + p : Nat) : Int) * ((ge + 16 : Nat) : Int)) = (o : Int) := by rw [← Int.natCast_mul, ho]; exact IntWalk.i64_in _ (by omega)
  obtain ⟨z, hz⟩ : ∃ z, ge + 16 = z := ⟨_, rfl⟩
  obtain ⟨y, hy⟩ : ∃ y, q + p = y := ⟨_, rfl⟩
  rw [hz] at m3 m4
  rw [hy] at m2 m4
  have h1 : ¬ (b : Int) < 0 := by omega
  have h2 : ¬ (gc : Int) ≤ (b : Int) := by omega
  have h3 : ¬ (p : Int) < 0 := by omega
  have h4 : ¬ (gd : Int) ≤ (p : Int) := by omega
  clear h hbd hq hq2 ho ho2 hz hy hb hp
  go_enter Try.func52, Try.ntmps52
  go_upto_region 3 with fail
  go_quiet (fail)
  go_wp2_with fail
  go_ret
  exact ⟨rfl, _, rfl⟩

set_option maxHeartbeats 2000000 in
theorem rnand_read (h : RNand w rb bb nb kb rp sa sz gc gd ge l N n) (b p : Int) :
    Calls Try.prog 33 #[.pointer (some ⟨rb, 0, none⟩), .int .i64 b, .int .i64 p] w fun e w' => ∃ v u, e = .returned (.tuple #[v, u, .int .i64 (nAsk ⟨sa, sz, gc, gd, ge⟩ b p)]) ∧ Own w' w.heap.size v (nRead ⟨sa, sz, gc, gd, ge⟩ n b p).1 ∧ Own w' w.heap.size u (nRead ⟨sa, sz, gc, gd, ge⟩ n b p).2 ∧ Below w.heap.size w w' := by
  obtain ⟨w0, rfl⟩ : ∃ w0 : World, w0 = w := ⟨_, rfl⟩
  by_cases hok : nOk ⟨sa, sz, gc, gd, ge⟩ b p
  · have HR := Lib.hid (show nRead ⟨sa, sz, gc, gd, ge⟩ n b p = n.pg b p by unfold nRead; rw [if_pos hok])
    have HA := Lib.hid (show nAsk ⟨sa, sz, gc, gd, ge⟩ b p = 0 from if_pos hok)
    have hok' := hok
    unfold nOk at hok'
    simp only at hok'
    obtain ⟨x, rfl⟩ : ∃ x : Nat, b = (x : Int) := ⟨b.toNat, by omega⟩
    obtain ⟨y, rfl⟩ : ∃ y : Nat, p = (y : Int) := ⟨p.toNat, by omega⟩
    have hx : x < gc := by omega
    have hy : y < gd := by omega
    have h1 := h.fl.one hx hy
    have h2 := h.fl.two hx hy
    have hr := h.fl.room hx hy
    have hz := h.size
    have hbd := h.bd
    obtain ⟨o, ho⟩ : ∃ o, (x * gd + y) * (ge + 16) = o := ⟨_, rfl⟩
    rw [ho] at h1 h2 hr
    have HP := Lib.hid (rnand_page h x y hx hy ho)
    obtain ⟨L, hL⟩ : ∃ L, l.length = L := ⟨_, rfl⟩
    rw [hL] at hr hz
    have HL := Lib.hid hL
    have H12 := Lib.hid (And.intro h1 h2)
    have hd0 : w0.cell? ⟨rb, 4, none⟩ = some (.int .i64 (ge : Int)) := h.blk.cell 4 _ rfl
    have HC : Hid (∀ k, (w0.drewN k).cell? ⟨rb, 4, none⟩ = some (.int .i64 (ge : Int)) ∧ (w0.drewN k).cell? ⟨rb, 6, none⟩ = some (.slice (some ⟨bb, 0, none⟩) L L) ∧ Byts (w0.drewN k) (some ⟨bb, 0, none⟩) l) := fun k => by
      have hk := h.drewN k
      exact ⟨hk.blk.cell 4 _ rfl, by rw [← HL.out]; exact hk.blk.cell 6 _ rfl, hk.mem.read⟩
    clear h hok hok' h1 h2 hL ho hd0
    go_enter Try.func33, Try.ntmps33
    go_upto_region 4 with (go_at_call 52; refine HP.out.mono ?_; rintro e w' ⟨rfl, k, rfl⟩)
    obtain ⟨q4, q6, qy⟩ := HC.out k
    have hbe : Below w0.heap.size w0 (w0.drewN k) := below_drewN (Below.refl _ _) k
    obtain ⟨w1, hw1⟩ : ∃ w1, w0.drewN k = w1 := ⟨_, rfl⟩
    rw [hw1] at q4 q6 qy hbe ⊢
    obtain ⟨mid, hmid⟩ : ∃ mid, o + ge = mid := ⟨_, rfl⟩
    obtain ⟨fin, hfin⟩ : ∃ fin, mid + 16 = fin := ⟨_, rfl⟩
    have m1 : IntKind.i64.wrap ((o : Int) + (ge : Int)) = (mid : Int) := by rw [show (o : Int) + (ge : Int) = (mid : Int) by omega]; exact IntWalk.i64_in _ (by omega)
    have m2 : IntKind.i64.wrap ((mid : Int) + 16) = (fin : Int) := by rw [show (mid : Int) + 16 = (fin : Int) by omega]; exact IntWalk.i64_in _ (by omega)
    have HM := Lib.hid (And.intro hmid hfin)
    clear hw1 hmid hfin HC HP
    go_quiet (fail)
    have hbe1 := below_drewN hbe nq
    have qy1 := qy.drewN nq
    have q61 : (w1.drewN nq).cell? ⟨rb, 6, none⟩ = some (.slice (some ⟨bb, 0, none⟩) L L) := q6
    clear q4 q6 hbe qy m1 m2
    obtain ⟨w2, hw2⟩ : ∃ w2, w1.drewN nq = w2 := ⟨_, rfl⟩
    rw [hw2] at hbe1 qy1 q61 ⊢
    clear hw2
    have i0 : (0 : Int) ≤ (o : Int) := by omega
    have i1 : (o : Int) ≤ (mid : Int) := by have := HM.out; omega
    have i2 : (mid : Int) ≤ (fin : Int) := by have := HM.out; omega
    have i3 : (fin : Int) ≤ (L : Int) := by have := HM.out; omega
    have i4 : (mid : Int) ≤ (L : Int) := by omega
    have i5 : (0 : Int) ≤ (mid : Int) := by omega
    have i6 : ¬ L = o := by have := HM.out; omega
    have i7 : ¬ L = mid := by have := HM.out; omega
    have hll : l.length ≤ L := Nat.le_of_eq HL.out
    have hY1 : Byts w2 (some ⟨bb, o, none⟩) (n.pg x y).1 := by
      have := (qy1.take mid).drop o
      rw [Nat.zero_add] at this
      rw [← H12.out.1, HM.out.1]
      exact this
    have hY2 : Byts w2 (some ⟨bb, mid, none⟩) (n.pg x y).2 := by
      have := (qy1.take fin).drop mid
      rw [Nat.zero_add] at this
      rw [← H12.out.2, HM.out.1, HM.out.2]
      exact this
    have hlen1 : Hid ((n.pg x y).1.length = mid - o ∧ (n.pg x y).2.length = fin - mid) := by
      show _ ∧ _
      rw [← H12.out.1, ← H12.out.2, HM.out.1, HM.out.2]
      have := HL.out
      have := HM.out
      simp
      omega
    have HBK : Hid (∀ W, Below w2.heap.size w2 W → W.cell? ⟨rb, 6, none⟩ = some (.slice (some ⟨bb, 0, none⟩) L L)) := fun W hW => (hW.cell (p := ⟨rb, 6, none⟩) (World.block_lt_of_cell? w2 _ q61)).trans q61
    have HYS : Hid (∀ W, Below w2.heap.size w2 W → Byts W (some ⟨bb, o, none⟩) (n.pg x y).1 ∧ Byts W (some ⟨bb, mid, none⟩) (n.pg x y).2) := fun W hW => ⟨hY1.below hW, hY2.below hW⟩
    have hX := (Below.refl w2.heap.size w2).drew
    clear hY1 hY2 qy1 H12 hll
    go_upto_region 5 with fail
    go_region_held3 (fun w' => w'.cell? ⟨rb, 6, none⟩ = some (.slice (some ⟨bb, 0, none⟩) L L))
      (first | (with_reducible exact q61) | exact HBK.out _ hX)
      (first
        | (refine step_clone_byts (B := w0.heap.size) (by rfl) _ rfl rfl (m := (n.pg x y).1) (by with_reducible exact (HYS.out _ hX).1) (by rw [hlen1.out.1]) (by rw [hlen1.out.1]; omega) (Nat.le_trans hbe1.size hX.size) ?_; intro v1 w3 hv1 hx1 _; (try replace hv2 := hv2.below hx1); replace hX := hX.trans (hx1.mono hX.size))
        | (refine step_clone_byts (B := w0.heap.size) (by rfl) _ rfl rfl (m := (n.pg x y).2) (by with_reducible exact (HYS.out _ hX).2) (by rw [hlen1.out.2]) (by rw [hlen1.out.2]; omega) (Nat.le_trans hbe1.size hX.size) ?_; intro v2 w4 hv2 hx2 _; (try replace hv1 := hv1.below hx2); replace hX := hX.trans (hx2.mono hX.size)))
    all_goals
      have HF := Lib.hid (And.intro hv1 (And.intro hv2 (hbe1.trans (hX.mono hbe1.size))))
      clear hv1 hv2 hX
      go_wp2_with fail
      go_ret3
      exact ⟨_, _, by rw [HA.out]; rfl, by rw [HR.out]; exact HF.out.1, by rw [HR.out]; exact HF.out.2.1, HF.out.2.2⟩
  · have HR := Lib.hid (show nRead ⟨sa, sz, gc, gd, ge⟩ n b p = ([], []) by unfold nRead; rw [if_neg hok])
    have HA := Lib.hid (show nAsk ⟨sa, sz, gc, gd, ge⟩ b p = 1 from if_neg hok)
    have HP := Lib.hid (rnand_page_no h b p hok)
    clear h hok
    go_enter Try.func33, Try.ntmps33
    go_wp2_with (go_at_call 52; refine HP.out.mono ?_; rintro e w' ⟨rfl, rfl⟩)
    go_ret3
    exact ⟨_, _, by rw [HA.out]; rfl, by rw [HR.out]; exact Own.nil _ _, by rw [HR.out]; exact Own.nil _ _, Below.refl _ _⟩
set_option maxHeartbeats 1000000 in
theorem rnand_programmed (h : RNand w rb bb nb kb rp sa sz gc gd ge l N n) (x : Int) (hx : -9223372036854775808 ≤ x ∧ x ≤ 9223372036854775807) :
    Calls Try.prog 34 #[.pointer (some ⟨rb, 0, none⟩), .int .i64 x] w fun e w' => e = .returned (.int .i64 (n.nx x)) ∧ w = w' := by
  have c2 := h.blk.cell 2 _ rfl
  have c7 := h.blk.cell 7 _ rfl
  have hbd := h.bd
  by_cases hs : 0 ≤ x ∧ x < (gc : Int)
  · obtain ⟨i, rfl⟩ : ∃ i : Nat, x = (i : Int) := ⟨x.toNat, by omega⟩
    have hi : i < gc := by omega
    have hc := h.nx.cell i _ (cntCells_get hi)
    clear h hs hx
    generalize n.nx (i : Int) = y at *
    go_enter Try.func34, Try.ntmps34
    go_wp2_with fail
    go_ret
    exact ⟨rfl, rfl⟩
  · have HE := Lib.hid (h.n.out x hs)
    by_cases h1 : x < 0
    · go_enter Try.func34, Try.ntmps34
      go_wp2_with fail
      go_ret
      exact ⟨by rw [HE.out.1]; rfl, rfl⟩
    · have h2 : (gc : Int) ≤ x := by omega
      clear hs
      go_enter Try.func34, Try.ntmps34
      go_wp2_with fail
      go_ret
      exact ⟨by rw [HE.out.1]; rfl, rfl⟩

set_option maxHeartbeats 1000000 in
theorem rnand_erases (h : RNand w rb bb nb kb rp sa sz gc gd ge l N n) (x : Int) (hx : -9223372036854775808 ≤ x ∧ x ≤ 9223372036854775807) :
    Calls Try.prog 35 #[.pointer (some ⟨rb, 0, none⟩), .int .i64 x] w fun e w' => e = .returned (.int .i64 (n.er x)) ∧ w = w' := by
  have c2 := h.blk.cell 2 _ rfl
  have c7 := h.blk.cell 8 _ rfl
  have hbd := h.bd
  by_cases hs : 0 ≤ x ∧ x < (gc : Int)
  · obtain ⟨i, rfl⟩ : ∃ i : Nat, x = (i : Int) := ⟨x.toNat, by omega⟩
    have hi : i < gc := by omega
    have hc := h.er.cell i _ (cntCells_get hi)
    clear h hs hx
    generalize n.er (i : Int) = y at *
    go_enter Try.func35, Try.ntmps35
    go_wp2_with fail
    go_ret
    exact ⟨rfl, rfl⟩
  · have HE := Lib.hid (h.n.out x hs)
    by_cases h1 : x < 0
    · go_enter Try.func35, Try.ntmps35
      go_wp2_with fail
      go_ret
      exact ⟨by rw [HE.out.2]; rfl, rfl⟩
    · have h2 : (gc : Int) ≤ x := by omega
      clear hs
      go_enter Try.func35, Try.ntmps35
      go_wp2_with fail
      go_ret
      exact ⟨by rw [HE.out.2]; rfl, rfl⟩
end
end Go.Proofs.Ytionjddcahgpkaa
