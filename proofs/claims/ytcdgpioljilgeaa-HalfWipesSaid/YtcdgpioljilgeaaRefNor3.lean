/- The reference's chip: it is made. -/
import Derived.Test.YtcdgpioljilgeaaRefNor2
import Derived.Deep.RegionHeld3
set_option linter.unusedVariables false
set_option maxRecDepth 100000
set_option linter.unusedSimpArgs false
namespace Go.Proofs.Ytcdgpioljilgeaa
open Go.RowKit

theorem ffs_set (j n : Nat) (hj : j < n) : (ffs j ++ List.replicate (n - j) (0 : UInt8)).set j 255 = ffs (j + 1) ++ List.replicate (n - (j + 1)) 0 := by
  rw [List.set_append_right _ _ (by rw [ffs_length]; exact Nat.le_refl _), ffs_length, Nat.sub_self]
  obtain ⟨k, hk⟩ : ∃ k, n - j = k + 1 := ⟨n - j - 1, by omega⟩
  rw [hk, show n - (j + 1) = k by omega, List.replicate_succ, List.set_cons_zero]
  unfold ffs
  rw [List.replicate_succ']
  simp

set_option maxHeartbeats 1000000 in
theorem ref_blank (n : Nat) (hn : n ≤ 65536) (w : World) : Calls Try.prog 69 #[.int .i64 (n : Int)] w (Ret fun v w' => ∃ gb, v = .slice (some ⟨gb, 0, none⟩) n n ∧ w.heap.size ≤ gb ∧ MemC w' gb n (ffs n) ∧ Below w.heap.size w w') := by
  obtain ⟨w0, rfl⟩ : ∃ w0 : World, w0 = w := ⟨_, rfl⟩
  have hs0 := Nat.le_refl w0.heap.size
  go_enter Try.func69, Try.ntmps69
  go_upto_region 3 with (at_make; go_must (refine wpList_wanted (by rfl) fun K hK => wp_make_byts (B := w0.heap.size) (n := n) _ _ rfl rfl rfl rfl rfl (by omega) hs0 ?_; intro gb w1 hg hown hbel hlt; refine hK _ _ ?_; clear hK K))
  have hm0 := MemC.of_own hown
  have hm1 : MemC w1 gb n (ffs 0 ++ List.replicate (n - 0) 0) := by simpa [ffs] using hm0
  clear hown hm0
  go_loopw [4] (fun v4 wr => ∃ j : Nat, j ≤ n ∧ v4 = .int .i64 (j : Int) ∧ MemC wr gb n (ffs j ++ List.replicate (n - j) 0) ∧ Below w0.heap.size w0 wr) (fun v4 _ => n - (intOf v4).toNat)
  case atStart => exact ⟨0, Nat.zero_le _, rfl, hm1, hbel⟩
  case round =>
    clear hm1 hbel
    obtain ⟨j, hj, rfl, hm, hbel⟩ := hrel
    by_cases hlt1 : j < n
    · have hc := hm.get (i := j) (by simp [ffs_length]; omega)
      have hf := hm.frz j
      have hms := hm.set j 255
      rw [ffs_set j n hlt1] at hms
      have hb2 : Below w0.heap.size w0 (wr.setCell ⟨gb, j, none⟩ (.int .u8 255)) := hbel.setCell (by simpa using hg) _
      have HX := Lib.hid (And.intro hms hb2)
      clear hms hb2 hm hbel
      go_wp2_with fail
      go_roundw
      case rel => exact ⟨j + 1, by omega, by go_num, HX.out.1, HX.out.2⟩
      case measure => simp [intOf]; omega
    · obtain rfl : j = n := by omega
      go_wp2_with fail
      go_ret
      exact ⟨_, rfl, gb, rfl, hg, by simpa using hm, hbel⟩

theorem info_int : (Try.prog.info? 3).map (fun i => (i.zero, i.size, i.bytes)) = some (some (.int .i64 0), 1, 8) := by kernel_rfl

theorem run_make_is (n : Nat) (hn : n ≤ 1000) (w : World) : (Instr.makeSlice 55 (.int .i64 (n : Int)) (.int .i64 (n : Int))).run Try.prog w = .ok (.slice (some ⟨w.heap.size, 0, none⟩) n n) (w.alloc (.cells (cntCells n (fun _ => 0)).toArray 3 (0, 0))) := by
  obtain ⟨i0, hi, hz0, hz1, hz2⟩ := info_parts info_int
  have hr := run_make (P := Try.prog) w 55 3 i0 (.int .i64 0) Try.underlying55 hi hz0 .i64 .i64 (n : Int) (n : Int) (by omega) (by omega) (by rw [hz2]; omega) (by omega)
  simp only [hz1, Int.toNat_natCast] at hr
  have e : madeCells (Value.int .i64 0).cells (n * 1) = (cntCells n (fun _ => 0)).toArray := by
    apply Array.ext'
    unfold cntCells madeCells
    apply List.ext_getElem
    · simp
    · intro i h1 h2
      simp [Value.cells, Nat.mod_one]
  rw [e] at hr
  exact hr

theorem rnor_made {W : World} {gb kb n sa : Nat} {rp : Option Addr} {g : Geo} (hok : g.ok) (hn : g.a * g.b = (n : Int)) (ha : g.a = (sa : Int)) (hm : MemC W gb n (ffs n)) (hk : Blk W kb 3 (cntCells sa (fun _ => 0))) (hne : gb ≠ kb) :
    RNor (W.alloc (.cells #[.int .i64 g.a, .int .i64 g.b, .int .i64 g.c, .int .i64 g.d, .int .i64 g.e, .pointer rp, .slice (some ⟨gb, 0, none⟩) n n, .slice (some ⟨kb, 0, none⟩) sa sa] 59 (0, 0))) W.heap.size gb kb rp g (ffs (g.a * g.b).toNat) 0 (fun _ => 0) := by
  have e : (g.a * g.b).toNat = n := by omega
  have e2 : g.a.toNat = sa := by omega
  rw [e]
  have z1 := hm.lt
  have z2 := hk.lt
  refine ⟨?_, ?_, ?_, fun x => ⟨by omega, by omega⟩, hok, by rw [ffs_length]; exact hn.symm, by omega, by omega, hne⟩
  · rw [ffs_length, e2]
    exact Blk.new W _ _
  · rw [ffs_length]
    exact hm.alloc _
  · rw [e2]
    exact hk.alloc _

set_option maxHeartbeats 4000000 in
theorem rnor_new (g : Geo) (rp : Option Addr) (w : World) (hok : g.ok) :
    Calls Try.prog 33 #[g.val, .pointer rp] w fun e w' => Below w.heap.size w w' ∧
       ∃ rb bb kb, e = .returned (.tuple #[.pointer (some ⟨rb, 0, none⟩), .int .i64 0]) ∧ w.heap.size ≤ rb ∧ w.heap.size ≤ bb ∧ w.heap.size ≤ kb ∧ RNor w' rb bb kb rp g (ffs (g.a * g.b).toNat) 0 (fun _ => 0) := by
  obtain ⟨w0, rfl⟩ : ∃ w0 : World, w0 = w := ⟨_, rfl⟩
  rcases g with ⟨a, b, c, d, e⟩
  have hok' := hok
  unfold Geo.ok at hok'
  simp only at hok'
  obtain ⟨sa, rfl⟩ : ∃ sa : Nat, a = (sa : Int) := ⟨a.toNat, by omega⟩
  obtain ⟨n, hn⟩ : ∃ n : Nat, ((sa : Int) * b).toNat = n := ⟨_, rfl⟩
  have hab : (sa : Int) * b = (n : Int) := by
    have : 0 ≤ (sa : Int) * b := Int.mul_nonneg (by omega) (by omega)
    omega
  have hn1 : n ≤ 65536 := by
    have : (sa : Int) * b ≤ 16 * 4096 := Int.mul_le_mul (by omega) (by omega) (by omega) (by omega)
    omega
  have hs16 : sa ≤ 1000 := by omega
  show Calls Try.prog 33 #[.agg #[.int .i64 (sa : Int), .int .i64 b, .int .i64 c, .int .i64 d, .int .i64 e], .pointer rp] w0 _
  have hbx := Blk.new w0 [.int .i64 (sa : Int), .int .i64 b, .int .i64 c, .int .i64 d, .int .i64 e] 23
  have hbel := below_alloc w0 (.cells [.int .i64 (sa : Int), .int .i64 b, .int .i64 c, .int .i64 d, .int .i64 e].toArray 23 (0, 0))
  have hlt0 := hbx.lt
  have c0 := hbx.cell 0 _ rfl
  have c1 := hbx.cell 1 _ rfl
  have c2 := hbx.cell 2 _ rfl
  have c3 := hbx.cell 3 _ rfl
  have c4 := hbx.cell 4 _ rfl
  have hd : decide (Geo.ok ⟨(sa : Int), b, c, d, e⟩) = true := decide_eq_true hok
  have HD := Lib.hid hd
  have HAB := Lib.hid hab
  clear hd hn hok' hab
  go_enter Try.func33, Try.ntmps33
  go_upto_region 3 with (go_at_call 29; refine (ref_right ⟨(sa : Int), b, c, d, e⟩ _).mono ?_; rintro e' w1 ⟨rfl, hb1⟩; rw [HD.out])
  have hbz := hbx.below hb1
  have hbw := hbel.trans (hb1.mono hbel.size)
  have hmi := fun W => run_make_is sa hs16 W
  obtain ⟨oA, hoA⟩ : ∃ o, Obj.cells (cntCells sa (fun _ => 0)).toArray 3 (0, 0) = o := ⟨_, rfl⟩
  have k1 := hbz.drew
  have k2 := (hbz.alloc oA).drew
  have b2 : Below w1.heap.size w1 (w1.alloc oA).drew := (below_alloc _ _).drew
  have z2 : (w1.alloc oA).drew.heap.size = w1.heap.size + 1 := by simp
  have m2 : Blk (w1.alloc oA).drew w1.heap.size 3 (cntCells sa (fun _ => 0)) := by rw [← hoA]; exact (Blk.new w1 _ _).drew
  have B2 := Lib.hid (And.intro b2 z2)
  have HK := Lib.hid (fun (W : World) (h : Blk W w0.heap.size 23 [.int .i64 (sa : Int), .int .i64 b, .int .i64 c, .int .i64 d, .int .i64 e]) => (show W.cell? ⟨w0.heap.size, 0, none⟩ = some (.int .i64 (sa : Int)) ∧ W.cell? ⟨w0.heap.size, 1, none⟩ = some (.int .i64 b) ∧ W.cell? ⟨w0.heap.size, 2, none⟩ = some (.int .i64 c) ∧ W.cell? ⟨w0.heap.size, 3, none⟩ = some (.int .i64 d) ∧ W.cell? ⟨w0.heap.size, 4, none⟩ = some (.int .i64 e) from ⟨h.cell 0 _ rfl, h.cell 1 _ rfl, h.cell 2 _ rfl, h.cell 3 _ rfl, h.cell 4 _ rfl⟩))
  rw [hoA] at hmi
  have hw1 : IntKind.i64.wrap ((sa : Int) * b) = (n : Int) := by rw [HAB.out]; exact IntWalk.i64_in _ (by omega)
  have HOA := Lib.hid hoA
  clear hb1 hbx hbel c0 c1 c2 c3 c4 b2 z2 hoA
  go_region_held3 (fun w' => w'.cell? ⟨w0.heap.size, 0, none⟩ = some (.int .i64 (sa : Int)) ∧ w'.cell? ⟨w0.heap.size, 1, none⟩ = some (.int .i64 b) ∧ w'.cell? ⟨w0.heap.size, 2, none⟩ = some (.int .i64 c) ∧ w'.cell? ⟨w0.heap.size, 3, none⟩ = some (.int .i64 d) ∧ w'.cell? ⟨w0.heap.size, 4, none⟩ = some (.int .i64 e))
    (first | (with_reducible exact HK.out _ hbz) | (with_reducible exact HK.out _ k1) | (with_reducible exact HK.out _ k2) | (with_reducible exact HK.out _ hB3) | (with_reducible exact HK.out _ (hB3.alloc _)) | (with_reducible exact HK.out _ ((hB3.alloc _).alloc _)))
    (first
      | (go_at_call 69; (with_reducible refine (ref_blank n hn1 w1.drew).mono ?_); rintro e' w2 ⟨v, rfl, gb, rfl, hgb, hm, hb2⟩; have hB3 := k1.below hb2; have hgz : w1.heap.size ≤ gb := hgb; have hby := hbw.drew.trans (hb2.mono hbw.size); clear hb2 hgb k1 k2 m2)
      | (go_at_call 69; (with_reducible refine (ref_blank n hn1 (w1.alloc oA).drew).mono ?_); rintro e' w2 ⟨v, rfl, gb, rfl, hgb, hm, hb2⟩; have hB3 := k2.below hb2; have hgz : w1.heap.size + 1 ≤ gb := (by rw [← B2.out.2]; exact hgb); have hby := hbw.trans ((B2.out.1.trans (hb2.mono B2.out.1.size)).mono hbw.size); have m2 := m2.below hb2; clear hb2 hgb k1 k2))
  · have hzz := hby.size
    have hk2 : Blk (w2.alloc oA) w2.heap.size 3 (cntCells sa (fun _ => 0)) := by rw [← HOA.out]; exact Blk.new w2 _ _
    have hgl := hm.lt
    have hz1 := hbw.size
    go_wp2_with fail
    go_ret2
    exact ⟨(hby.alloc hzz _).alloc (by simp; omega) _, w2.heap.size + 1, gb, w2.heap.size, rfl, by omega, by omega, by omega, by simpa using rnor_made (g := ⟨(sa : Int), b, c, d, e⟩) hok HAB.out rfl (hm.alloc _) hk2 (by omega)⟩
  · have hzz := hby.size
    have hz1 := hbw.size
    go_wp2_with fail
    go_ret2
    exact ⟨hby.alloc hzz _, w2.heap.size, gb, w1.heap.size, rfl, by omega, by omega, by omega, rnor_made (g := ⟨(sa : Int), b, c, d, e⟩) hok HAB.out rfl hm m2 (by omega)⟩
end Go.Proofs.Ytcdgpioljilgeaa
