/- The reference's chip of pages: it is made. -/
import Derived.Test.YtionjddcahgpkaaRefNand3
set_option linter.unusedVariables false
set_option maxRecDepth 100000
set_option linter.unusedSimpArgs false
namespace Go.Proofs.Ytionjddcahgpkaa
open Go.RowKit

theorem rnand_made {W : World} {gb nb kb n sa sz gc gd ge : Nat} {rp : Option Addr} (hok : Geo.ok ⟨sa, sz, gc, gd, ge⟩) (hn : gc * gd * (ge + 16) = n) (hm : MemC W gb n (ffs n)) (h1 : Blk W nb 3 (cntCells gc (fun _ => 0))) (h2 : Blk W kb 3 (cntCells gc (fun _ => 0))) (hne : gb ≠ nb ∧ gb ≠ kb ∧ nb ≠ kb) :
    RNand (W.alloc (.cells #[.int .i64 (sa : Int), .int .i64 (sz : Int), .int .i64 (gc : Int), .int .i64 (gd : Int), .int .i64 (ge : Int), .pointer rp, .slice (some ⟨gb, 0, none⟩) n n, .slice (some ⟨nb, 0, none⟩) gc gc, .slice (some ⟨kb, 0, none⟩) gc gc] 60 (0, 0))) W.heap.size gb nb kb rp sa sz gc gd ge (ffs n) 0 (nNew ⟨sa, sz, gc, gd, ge⟩) := by
  have z1 := hm.lt
  have z2 := h1.lt
  have z3 := h2.lt
  refine ⟨?_, ?_, h1.alloc _, h2.alloc _, by rw [← hn]; exact Flat.new _ rfl, NOk.new hok, hok, by omega, by omega, by omega, hne.1, hne.2.1, hne.2.2⟩
  · rw [ffs_length]
    exact Blk.new W _ _
  · rw [ffs_length]
    exact hm.alloc _

set_option maxHeartbeats 4000000 in
theorem rnand_new (sa sz gc gd ge n : Nat) (rp : Option Addr) (w : World) (hok : Geo.ok ⟨sa, sz, gc, gd, ge⟩) (hn : gc * gd * (ge + 16) = n) (hn1 : n ≤ 65536) :
    Calls Try.prog 24 #[.agg #[.int .i64 (sa : Int), .int .i64 (sz : Int), .int .i64 (gc : Int), .int .i64 (gd : Int), .int .i64 (ge : Int)], .pointer rp] w fun e w' => Below w.heap.size w w' ∧
       ∃ rb bb nb kb, e = .returned (.tuple #[.pointer (some ⟨rb, 0, none⟩), .int .i64 0]) ∧ (∀ x ∈ [rb, bb, nb, kb], w.heap.size ≤ x) ∧ RNand w' rb bb nb kb rp sa sz gc gd ge (ffs n) 0 (nNew ⟨sa, sz, gc, gd, ge⟩) := by
  obtain ⟨w0, rfl⟩ : ∃ w0 : World, w0 = w := ⟨_, rfl⟩
  have hok' := hok
  unfold Geo.ok at hok'
  simp only at hok'
  have hbx := Blk.new w0 [.int .i64 (sa : Int), .int .i64 (sz : Int), .int .i64 (gc : Int), .int .i64 (gd : Int), .int .i64 (ge : Int)] 23
  have hbel := below_alloc w0 (.cells [.int .i64 (sa : Int), .int .i64 (sz : Int), .int .i64 (gc : Int), .int .i64 (gd : Int), .int .i64 (ge : Int)].toArray 23 (0, 0))
  have hlt0 := hbx.lt
  have c0 := hbx.cell 0 _ rfl
  have c1 := hbx.cell 1 _ rfl
  have c2 := hbx.cell 2 _ rfl
  have c3 := hbx.cell 3 _ rfl
  have c4 := hbx.cell 4 _ rfl
  have hd : decide (Geo.ok ⟨(sa : Int), (sz : Int), (gc : Int), (gd : Int), (ge : Int)⟩) = true := decide_eq_true hok
  have HD := Lib.hid hd
  have HN := Lib.hid (And.intro hok hn)
  have hgc : gc ≤ 1000 := by omega
  obtain ⟨q, hq⟩ : ∃ q, gc * gd = q := ⟨_, rfl⟩
  have hq2 : q ≤ 64 * 32 := by rw [← hq]; exact Nat.mul_le_mul (by omega) (by omega)
  have hm1 : IntKind.i64.wrap ((gc : Int) * (gd : Int)) = (q : Int) := by rw [← Int.natCast_mul, hq]; exact IntWalk.i64_in _ (by omega)
  obtain ⟨z, hz⟩ : ∃ z, ge + 16 = z := ⟨_, rfl⟩
  have hm2 : IntKind.i64.wrap ((ge : Int) + 16) = (z : Int) := by rw [show (ge : Int) + 16 = ((ge + 16 : Nat) : Int) by omega, hz]; exact IntWalk.i64_in _ (by omega)
  have hm3 : IntKind.i64.wrap ((q : Int) * (z : Int)) = (n : Int) := by rw [← Int.natCast_mul, ← hq, ← hz, hn]; exact IntWalk.i64_in _ (by omega)
  clear hd hn hok' hok hq hz
  go_enter Try.func24, Try.ntmps24
  go_upto_region 3 with (go_at_call 50; refine (ref_right ⟨(sa : Int), (sz : Int), (gc : Int), (gd : Int), (ge : Int)⟩ _).mono ?_; rintro e' w1 ⟨rfl, hb1⟩; rw [HD.out])
  have hbz := hbx.belowR hb1
  have hbw := hbel.trans (hb1.mono hbel.size)
  have hmi := fun W => run_make_is gc hgc W
  obtain ⟨oA, hoA⟩ : ∃ o, Obj.cells (cntCells gc (fun _ => 0)).toArray 3 (0, 0) = o := ⟨_, rfl⟩
  have hnew : Hid (∀ W : World, Blk (W.alloc oA) W.heap.size 3 (cntCells gc (fun _ => 0))) := fun W => by rw [← hoA]; exact Blk.new W _ _
  rw [hoA] at hmi
  have HK := Lib.hid (fun (W : World) (h : Blk W w0.heap.size 23 [.int .i64 (sa : Int), .int .i64 (sz : Int), .int .i64 (gc : Int), .int .i64 (gd : Int), .int .i64 (ge : Int)]) => (show W.cell? ⟨w0.heap.size, 0, none⟩ = some (.int .i64 (sa : Int)) ∧ W.cell? ⟨w0.heap.size, 1, none⟩ = some (.int .i64 (sz : Int)) ∧ W.cell? ⟨w0.heap.size, 2, none⟩ = some (.int .i64 (gc : Int)) ∧ W.cell? ⟨w0.heap.size, 3, none⟩ = some (.int .i64 (gd : Int)) ∧ W.cell? ⟨w0.heap.size, 4, none⟩ = some (.int .i64 (ge : Int)) from ⟨h.cell 0 _ rfl, h.cell 1 _ rfl, h.cell 2 _ rfl, h.cell 3 _ rfl, h.cell 4 _ rfl⟩))
  have k0 := hbz.drew
  have k1 := (hbz.alloc oA).drew
  have k2 := ((hbz.alloc oA).alloc oA).drew
  have B1 : Hid (Below w1.heap.size w1 w1.drew ∧ Below w1.heap.size w1 (w1.alloc oA).drew ∧ Below w1.heap.size w1 ((w1.alloc oA).alloc oA).drew ∧ (w1.alloc oA).drew.heap.size = w1.heap.size + 1 ∧ ((w1.alloc oA).alloc oA).drew.heap.size = w1.heap.size + 2) :=
    ⟨(Below.refl _ _).drew, (below_alloc _ _).drew, ((below_alloc _ _).alloc (by simp) _).drew, by simp, by simp⟩
  have M1 : Hid (Blk (w1.alloc oA).drew w1.heap.size 3 (cntCells gc (fun _ => 0)) ∧ Blk ((w1.alloc oA).alloc oA).drew w1.heap.size 3 (cntCells gc (fun _ => 0)) ∧ Blk ((w1.alloc oA).alloc oA).drew (w1.heap.size + 1) 3 (cntCells gc (fun _ => 0))) :=
    ⟨(hnew.out w1).drew, ((hnew.out w1).alloc oA).drew, by have := (hnew.out (w1.alloc oA)).drew; rw [World.size_alloc] at this; exact this⟩
  clear hb1 hbx hbel c0 c1 c2 c3 c4 hoA
  go_region_held3 (fun w' => w'.cell? ⟨w0.heap.size, 0, none⟩ = some (.int .i64 (sa : Int)) ∧ w'.cell? ⟨w0.heap.size, 1, none⟩ = some (.int .i64 (sz : Int)) ∧ w'.cell? ⟨w0.heap.size, 2, none⟩ = some (.int .i64 (gc : Int)) ∧ w'.cell? ⟨w0.heap.size, 3, none⟩ = some (.int .i64 (gd : Int)) ∧ w'.cell? ⟨w0.heap.size, 4, none⟩ = some (.int .i64 (ge : Int)))
    (first | (with_reducible exact HK.out _ hbz) | (with_reducible exact HK.out _ k0) | (with_reducible exact HK.out _ k1) | (with_reducible exact HK.out _ k2) | (with_reducible exact HK.out _ hB3) | (with_reducible exact HK.out _ (hB3.alloc _)) | (with_reducible exact HK.out _ ((hB3.alloc _).alloc _)) | (with_reducible exact HK.out _ (((hB3.alloc _).alloc _).alloc _)))
    (first
      | (go_at_call 51; (with_reducible refine (ref_blank n hn1 w1.drew).mono ?_); rintro e' w2 ⟨v, rfl, gb, rfl, hgb, hm, hb2⟩; have hB3 := k0.belowR hb2; have hgz : w1.heap.size ≤ gb := Nat.le_trans B1.out.1.size hgb; have hby := hbw.trans ((B1.out.1.trans (hb2.mono B1.out.1.size)).mono hbw.size); have hmm := trivial; clear hb2 hgb k0 k1 k2)
      | (go_at_call 51; (with_reducible refine (ref_blank n hn1 (w1.alloc oA).drew).mono ?_); rintro e' w2 ⟨v, rfl, gb, rfl, hgb, hm, hb2⟩; have hB3 := k1.belowR hb2; have hgz : w1.heap.size + 1 ≤ gb := (by rw [← B1.out.2.2.2.1]; exact hgb); have hby := hbw.trans ((B1.out.2.1.trans (hb2.mono B1.out.2.1.size)).mono hbw.size); have hmm := M1.out.1.belowR hb2; clear hb2 hgb k0 k1 k2)
      | (go_at_call 51; (with_reducible refine (ref_blank n hn1 ((w1.alloc oA).alloc oA).drew).mono ?_); rintro e' w2 ⟨v, rfl, gb, rfl, hgb, hm, hb2⟩; have hB3 := k2.belowR hb2; have hgz : w1.heap.size + 2 ≤ gb := (by rw [← B1.out.2.2.2.2]; exact hgb); have hby := hbw.trans ((B1.out.2.2.1.trans (hb2.mono B1.out.2.2.1.size)).mono hbw.size); have hmm := And.intro (M1.out.2.1.belowR hb2) (M1.out.2.2.belowR hb2); clear hb2 hgb k0 k1 k2))
  · have hzz := hby.size
    have hgl := hm.lt
    have hz1 := hbw.size
    have p1 := (hnew.out w2).alloc oA
    have p2 : Blk ((w2.alloc oA).alloc oA) (w2.heap.size + 1) 3 (cntCells gc (fun _ => 0)) := by have := hnew.out (w2.alloc oA); rw [World.size_alloc] at this; exact this
    have HF := Lib.hid (rnand_made (W := ((w2.alloc oA).alloc oA)) (rp := rp) HN.out.1 HN.out.2 ((hm.alloc oA).alloc oA) p1 p2 (by omega))
    clear p1 p2
    go_wp2_with fail
    go_ret2
    exact ⟨((hby.alloc hzz _).alloc (by simp; omega) _).alloc (by simp; omega) _, w2.heap.size + 1 + 1, gb, w2.heap.size, (w2.heap.size + 1), rfl, (fun x hx => by simp at hx; omega), by simpa using HF.out⟩
  · have hzz := hby.size
    have hgl := hm.lt
    have hz1 := hbw.size
    have p1 := (hnew.out w2).alloc oA
    have p2 : Blk ((w2.alloc oA).alloc oA) (w2.heap.size + 1) 3 (cntCells gc (fun _ => 0)) := by have := hnew.out (w2.alloc oA); rw [World.size_alloc] at this; exact this
    have HF := Lib.hid (rnand_made (W := ((w2.alloc oA).alloc oA)) (rp := rp) HN.out.1 HN.out.2 ((hm.alloc oA).alloc oA) p2 p1 (by omega))
    clear p1 p2
    go_wp2_with fail
    go_ret2
    exact ⟨((hby.alloc hzz _).alloc (by simp; omega) _).alloc (by simp; omega) _, w2.heap.size + 1 + 1, gb, (w2.heap.size + 1), w2.heap.size, rfl, (fun x hx => by simp at hx; omega), by simpa using HF.out⟩
  · have hzz := hby.size
    have hgl := hm.lt
    have hz1 := hbw.size
    have hl1 := hmm.lt
    have p1 := hmm.alloc oA
    have p2 := hnew.out w2
    have HF := Lib.hid (rnand_made (W := (w2.alloc oA)) (rp := rp) HN.out.1 HN.out.2 (hm.alloc oA) p1 p2 (by omega))
    clear p1 p2
    go_wp2_with fail
    go_ret2
    exact ⟨(hby.alloc hzz _).alloc (by simp; omega) _, w2.heap.size + 1, gb, w1.heap.size, w2.heap.size, rfl, (fun x hx => by simp at hx; omega), by simpa using HF.out⟩
  · have hzz := hby.size
    have hgl := hm.lt
    have hz1 := hbw.size
    have p1 := hmm.1
    have p2 := hmm.2
    have hl1 := p2.lt
    have HF := Lib.hid (rnand_made (W := w2) (rp := rp) HN.out.1 HN.out.2 hm p1 p2 (by omega))
    clear p1 p2
    go_wp2_with fail
    go_ret2
    exact ⟨hby.alloc hzz _, w2.heap.size, gb, w1.heap.size, (w1.heap.size + 1), rfl, (fun x hx => by simp at hx; omega), by simpa using HF.out⟩
  · have hzz := hby.size
    have hgl := hm.lt
    have hz1 := hbw.size
    have hl1 := hmm.lt
    have p1 := hmm.alloc oA
    have p2 := hnew.out w2
    have HF := Lib.hid (rnand_made (W := (w2.alloc oA)) (rp := rp) HN.out.1 HN.out.2 (hm.alloc oA) p2 p1 (by omega))
    clear p1 p2
    go_wp2_with fail
    go_ret2
    exact ⟨(hby.alloc hzz _).alloc (by simp; omega) _, w2.heap.size + 1, gb, w2.heap.size, w1.heap.size, rfl, (fun x hx => by simp at hx; omega), by simpa using HF.out⟩
  · have hzz := hby.size
    have hgl := hm.lt
    have hz1 := hbw.size
    have p1 := hmm.1
    have p2 := hmm.2
    have hl1 := p2.lt
    have HF := Lib.hid (rnand_made (W := w2) (rp := rp) HN.out.1 HN.out.2 hm p2 p1 (by omega))
    clear p1 p2
    go_wp2_with fail
    go_ret2
    exact ⟨hby.alloc hzz _, w2.heap.size, gb, (w1.heap.size + 1), w1.heap.size, rfl, (fun x hx => by simp at hx; omega), by simpa using HF.out⟩
end Go.Proofs.Ytionjddcahgpkaa
