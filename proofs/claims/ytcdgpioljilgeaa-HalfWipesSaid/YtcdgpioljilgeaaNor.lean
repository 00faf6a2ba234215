/- The contracts of package nor: a chip as it lies in memory. -/
import Derived.Test.YtcdgpioljilgeaaRep
import Derived.Test.YtcdgpioljilgeaaPower
import Derived.Test.YtcdgpioljilgeaaClone
import Derived.Deep.RegionHeld3
import Derived.Carry
set_option linter.unusedVariables false
set_option maxRecDepth 100000
set_option linter.unusedSimpArgs false
namespace Go.Proofs.Ytcdgpioljilgeaa
open Go.RowKit
open Go.Maps (Keyed)

theorem Blk.below {w w' : World} {b : Nat} {T : TypeId} {cs : List Value} (h : Blk w b T cs) (hb : Below w.heap.size w w') : Blk w' b T cs := h.stay (hb.block b h.lt)
def Geo.cells (g : Geo) : List Value := [.int .i64 g.a, .int .i64 g.b, .int .i64 g.c, .int .i64 g.d, .int .i64 g.e]
def Geo.val (g : Geo) : Value := .agg #[.int .i64 g.a, .int .i64 g.b, .int .i64 g.c, .int .i64 g.d, .int .i64 g.e]

set_option maxHeartbeats 400000 in
theorem nor_within (v lo hi : Int) (w : World) : Calls Try.prog 68 #[.int .i64 v, .int .i64 lo, .int .i64 hi] w fun e w' => e = .returned (.bool (decide (lo ≤ v ∧ v ≤ hi))) ∧ w = w' := by
  by_cases h1 : lo ≤ v
  · by_cases h2 : v ≤ hi
    · go_enter Try.func68, Try.ntmps68
      go_wp2_with fail
      go_ret
      exact ⟨by simp [h1, h2], rfl⟩
    · go_enter Try.func68, Try.ntmps68
      go_wp2_with fail
      go_ret
      exact ⟨by simp [h1, h2], rfl⟩
  · go_enter Try.func68, Try.ntmps68
    go_wp2_with fail
    go_ret
    exact ⟨by simp; omega, rfl⟩

set_option maxHeartbeats 1000000 in
theorem nor_right (g : Geo) (w : World) : Calls Try.prog 28 #[g.val] w fun e w' => e = .returned (.bool (decide g.ok)) ∧ Below w.heap.size w w' := by
  rcases g with ⟨a, b, c, d, e⟩
  show Calls Try.prog 28 #[.agg #[.int .i64 a, .int .i64 b, .int .i64 c, .int .i64 d, .int .i64 e]] w _
  have hbx := Blk.new w [.int .i64 a, .int .i64 b, .int .i64 c, .int .i64 d, .int .i64 e] 23
  have hbel := below_alloc w (.cells [.int .i64 a, .int .i64 b, .int .i64 c, .int .i64 d, .int .i64 e].toArray 23 (0, 0))
  have c0 := hbx.cell 0 _ rfl
  have c1 := hbx.cell 1 _ rfl
  have c2 := hbx.cell 2 _ rfl
  have c3 := hbx.cell 3 _ rfl
  have c4 := hbx.cell 4 _ rfl
  obtain ⟨q1, H1⟩ : ∃ q, Hid (decide (2 ≤ a ∧ a ≤ 16) = q) := ⟨_, rfl⟩
  obtain ⟨q2, H2⟩ : ∃ q, Hid (decide (256 ≤ b ∧ b ≤ 4096) = q) := ⟨_, rfl⟩
  obtain ⟨q3, H3⟩ : ∃ q, Hid (decide (4 ≤ c ∧ c ≤ 64) = q) := ⟨_, rfl⟩
  obtain ⟨q4, H4⟩ : ∃ q, Hid (decide (2 ≤ d ∧ d ≤ 32) = q) := ⟨_, rfl⟩
  obtain ⟨q5, H5⟩ : ∃ q, Hid (decide (16 ≤ e ∧ e ≤ 256) = q) := ⟨_, rfl⟩
  have HK := Lib.hid (show decide (Geo.ok ⟨a, b, c, d, e⟩) = (decide (Int.tmod a 2 = 0) && q1 && q2 && q3 && q4 && q5) by
    rw [← H1.out, ← H2.out, ← H3.out, ← H4.out, ← H5.out, Bool.eq_iff_iff]
    simp [Geo.ok, and_assoc])
  rw [HK.out]
  by_cases h0 : Int.tmod a 2 = 0
  · cases q1; rotate_left; cases q2; rotate_left; cases q3; rotate_left; cases q4
    all_goals
      go_enter Try.func28, Try.ntmps28
      go_wp2_with (go_at_call 68; refine (nor_within _ _ _ _).mono ?_; rintro e' w' ⟨rfl, rfl⟩; first | rw [H1.out] | rw [H2.out] | rw [H3.out] | rw [H4.out] | rw [H5.out])
      go_ret
      exact ⟨by simp [h0], hbel⟩
  · go_enter Try.func28, Try.ntmps28
    go_wp2_with fail
    go_ret
    exact ⟨by simp [h0], hbel⟩

/-- A chip at block cb, its bytes at bb, how often each sector was erased at mb. -/
structure Chip (w : World) (cb bb mb : Nat) (pp : Option Addr) (g : Geo) (l : List UInt8) (N : Nat) (cnt : Int → Int) : Prop where
  blk : Blk w cb 92 [.int .i64 g.a, .int .i64 g.b, .int .i64 g.c, .int .i64 g.d, .int .i64 g.e, .pointer pp, .slice (some ⟨bb, 0, none⟩) l.length l.length, .map (some mb)]
  mem : MemC w bb l.length l
  map : ∃ f, MapIs w Try.prog 102 mb N f ∧ ∀ x, (Lit.int .i64 x).wf = true → (f (.agg #[.int .i64 x])).getD (.int .i64 0) = .int .i64 (cnt x)
  cntb : ∀ x, 0 ≤ cnt x ∧ cnt x ≤ N
  ok : g.ok
  len : (l.length : Int) = g.a * g.b
  d1 : cb ≠ bb
  d2 : cb ≠ mb
  d3 : bb ≠ mb

theorem Chip.only {w w' : World} {cb bb mb : Nat} {pp : Option Addr} {g : Geo} {l : List UInt8} {N : Nat} {cnt : Int → Int} {S : List Nat} (h : Chip w cb bb mb pp g l N cnt) (ho : Only S w w') (hn : ∀ x ∈ [cb, bb, mb], x ∉ S) : Chip w' cb bb mb pp g l N cnt := by
  obtain ⟨h1, h2, ⟨f, h3, h4⟩, h5, h6, h7, h8, h9, h10⟩ := h
  exact ⟨h1.only ho (hn cb (by simp)), h2.only ho (hn bb (by simp)), ⟨f, h3.only ho (hn mb (by simp)), h4⟩, h5, h6, h7, h8, h9, h10⟩
theorem Chip.below {w w' : World} {cb bb mb : Nat} {pp : Option Addr} {g : Geo} {l : List UInt8} {N : Nat} {cnt : Int → Int} (h : Chip w cb bb mb pp g l N cnt) (hb : Below w.heap.size w w') : Chip w' cb bb mb pp g l N cnt :=
  h.only (Only.of_below hb []) (fun x _ => by simp)
theorem Chip.lt {w : World} {cb bb mb : Nat} {pp : Option Addr} {g : Geo} {l : List UInt8} {N : Nat} {cnt : Int → Int} (h : Chip w cb bb mb pp g l N cnt) : ∀ x ∈ [cb, bb, mb], x < w.heap.size := by
  obtain ⟨h1, h2, ⟨f, h3, h4⟩, h5⟩ := h
  intro x hx
  simp at hx
  rcases hx with rfl | rfl | rfl
  · exact h1.lt
  · exact h2.lt
  · exact h3.lt

theorem chip_made {W : World} {gb mb n : Nat} {pp : Option Addr} {g : Geo} (hok : g.ok) (hn : g.a * g.b = (n : Int)) (hm : MemC W gb n (ffs n)) (hmap : MapIs W Try.prog 102 mb 0 (fun _ => none)) (hne : gb ≠ mb) :
    Chip (W.alloc (.cells #[.int .i64 g.a, .int .i64 g.b, .int .i64 g.c, .int .i64 g.d, .int .i64 g.e, .pointer pp, .slice (some ⟨gb, 0, none⟩) n n, .map (some mb)] 92 (0, 0))) W.heap.size gb mb pp g (ffs (g.a * g.b).toNat) 0 (fun _ => 0) := by
  have e : (g.a * g.b).toNat = n := by omega
  rw [e]
  have z1 := hm.lt
  have z2 := hmap.lt
  refine ⟨?_, ?_, ⟨_, hmap.stay (Below.heap_alloc _ _ _ z2), fun x _ => rfl⟩, fun x => ⟨by omega, by omega⟩, hok, by rw [ffs_length]; exact hn.symm, by omega, by omega, hne⟩
  · rw [ffs_length]
    exact Blk.new W _ _
  · rw [ffs_length]
    exact hm.alloc _

set_option maxHeartbeats 4000000 in
theorem nor_new (g : Geo) (pp : Option Addr) (w : World) (hg : g.wf) :
    Calls Try.prog 17 #[g.val, .pointer pp] w fun e w' => Below w.heap.size w w' ∧
      ((¬ g.ok ∧ e = .returned (.tuple #[.pointer none, .int .i64 1])) ∨
       (g.ok ∧ ∃ cb bb mb, e = .returned (.tuple #[.pointer (some ⟨cb, 0, none⟩), .int .i64 0]) ∧ w.heap.size ≤ cb ∧ w.heap.size ≤ bb ∧ w.heap.size ≤ mb ∧ Chip w' cb bb mb pp g (ffs (g.a * g.b).toNat) 0 (fun _ => 0))) := by
  obtain ⟨w0, rfl⟩ : ∃ w0 : World, w0 = w := ⟨_, rfl⟩
  by_cases hok : g.ok
  · rcases g with ⟨a, b, c, d, e⟩
    have hok' := hok
    unfold Geo.ok at hok'
    simp only at hok'
    obtain ⟨n, hn⟩ : ∃ n : Nat, (a * b).toNat = n := ⟨_, rfl⟩
    have hab : a * b = (n : Int) := by
      have : 0 ≤ a * b := Int.mul_nonneg (by omega) (by omega)
      omega
    have hn1 : n ≤ 1000000 := by
      have : a * b ≤ 16 * 4096 := Int.mul_le_mul (by omega) (by omega) (by omega) (by omega)
      omega
    have hn0 : 0 < n := by
      have : 0 < a * b := Int.mul_pos (by omega) (by omega)
      omega
    show Calls Try.prog 17 #[.agg #[.int .i64 a, .int .i64 b, .int .i64 c, .int .i64 d, .int .i64 e], .pointer pp] w0 _
    have hbx := Blk.new w0 [.int .i64 a, .int .i64 b, .int .i64 c, .int .i64 d, .int .i64 e] 23
    have hbel := below_alloc w0 (.cells [.int .i64 a, .int .i64 b, .int .i64 c, .int .i64 d, .int .i64 e].toArray 23 (0, 0))
    have hlt0 := hbx.lt
    have c0 := hbx.cell 0 _ rfl
    have c1 := hbx.cell 1 _ rfl
    have c2 := hbx.cell 2 _ rfl
    have c3 := hbx.cell 3 _ rfl
    have c4 := hbx.cell 4 _ rfl
    have hd : decide (Geo.ok ⟨a, b, c, d, e⟩) = true := decide_eq_true hok
    have HD := Lib.hid hd
    have HN := Lib.hid hn
    have HAB := Lib.hid hab
    have HOK := Lib.hid hok'
    clear hd hn hok' hab
    go_enter Try.func17, Try.ntmps17
    go_upto_region 3 with (go_at_call 28; refine (nor_right ⟨a, b, c, d, e⟩ _).mono ?_; rintro e' w1 ⟨rfl, hb1⟩; rw [HD.out])
    have hl1 : w0.heap.size < w1.heap.size := Nat.lt_of_lt_of_le hlt0 hb1.size
    have d0 := (hb1.cell (p := ⟨w0.heap.size, 0, none⟩) hlt0).trans c0
    have d1 := (hb1.cell (p := ⟨w0.heap.size, 1, none⟩) hlt0).trans c1
    have d2 := (hb1.cell (p := ⟨w0.heap.size, 2, none⟩) hlt0).trans c2
    have d3 := (hb1.cell (p := ⟨w0.heap.size, 3, none⟩) hlt0).trans c3
    have d4 := (hb1.cell (p := ⟨w0.heap.size, 4, none⟩) hlt0).trans c4
    have hbw := hbel.trans (hb1.mono hbel.size)
    have hBz := hbx.below hb1
    obtain ⟨oA, hoA⟩ : ∃ o, Obj.cells #[.int .u8 255] 5 = o := ⟨_, rfl⟩
    have k1 : Blk w1.drew w0.heap.size 23 [.int .i64 a, .int .i64 b, .int .i64 c, .int .i64 d, .int .i64 e] := hBz.drew
    have k2 : Blk (w1.alloc oA).drew w0.heap.size 23 [.int .i64 a, .int .i64 b, .int .i64 c, .int .i64 d, .int .i64 e] := (hBz.alloc _).drew
    have k3 : Blk (w1.alloc (.map #[] 0)).drew w0.heap.size 23 [.int .i64 a, .int .i64 b, .int .i64 c, .int .i64 d, .int .i64 e] := (hBz.alloc _).drew
    have k4 : Blk ((w1.alloc oA).alloc (.map #[] 0)).drew w0.heap.size 23 [.int .i64 a, .int .i64 b, .int .i64 c, .int .i64 d, .int .i64 e] := ((hBz.alloc _).alloc _).drew
    have k5 : Blk ((w1.alloc (.map #[] 0)).alloc oA).drew w0.heap.size 23 [.int .i64 a, .int .i64 b, .int .i64 c, .int .i64 d, .int .i64 e] := ((hBz.alloc _).alloc _).drew
    have o1 : Byts (w1.alloc oA).drew (some ⟨w1.heap.size, 0, none⟩) [255] := by rw [← hoA]; exact byts_one w1 255
    have o2 : Byts ((w1.alloc oA).alloc (.map #[] 0)).drew (some ⟨w1.heap.size, 0, none⟩) [255] := by rw [← hoA]; exact (byts_one w1 255).alloc _
    have o3 : Byts ((w1.alloc (.map #[] 0)).alloc oA).drew (some ⟨w1.heap.size + 1, 0, none⟩) [255] := by
      have h := byts_one (w1.alloc (.map #[] 0)) 255
      rw [World.size_alloc] at h
      rw [← hoA]
      exact h
    have m2 : MapIs ((w1.alloc oA).alloc (.map #[] 0)).drew Try.prog 102 (w1.heap.size + 1) 0 (fun _ => none) := by
      have h := MapIs.made (w1.alloc oA) Try.prog 102
      rw [World.size_alloc] at h
      exact h.stay rfl
    have m3 : MapIs ((w1.alloc (.map #[] 0)).alloc oA).drew Try.prog 102 w1.heap.size 0 (fun _ => none) :=
      (MapIs.made w1 Try.prog 102).stay (Below.heap_alloc _ _ _ (by simp))
    have b1 : Below w1.heap.size w1 (w1.alloc oA).drew := (below_alloc _ _).drew
    have b2 : Below w1.heap.size w1 ((w1.alloc oA).alloc (.map #[] 0)).drew := ((below_alloc _ _).alloc (by simp) _).drew
    have b3 : Below w1.heap.size w1 ((w1.alloc (.map #[] 0)).alloc oA).drew := ((below_alloc _ _).alloc (by simp) _).drew
    have z1 : (w1.alloc oA).drew.heap.size = w1.heap.size + 1 := by simp
    have z2 : ((w1.alloc oA).alloc (.map #[] 0)).drew.heap.size = w1.heap.size + 2 := by simp
    have z3 : ((w1.alloc (.map #[] 0)).alloc oA).drew.heap.size = w1.heap.size + 2 := by simp
    rw [← hoA] at k2 k4 k5 o1 o2 o3 m2 m3 b1 b2 b3 z1 z2 z3
    have B1 := Lib.hid (And.intro b1 z1)
    have B2 := Lib.hid (And.intro b2 z2)
    have B3 := Lib.hid (And.intro b3 z3)
    clear b1 b2 b3 z1 z2 z3
    clear hoA oA
    clear hb1 hbx hbel c0 c1 c2 c3 c4
    have hw1 : IntKind.i64.wrap (a * b) = (n : Int) := by rw [HAB.out]; exact IntWalk.i64_in _ (by omega)
    have hmk := @run_makeMap Try.prog
    have hk : ∀ W, Blk W w0.heap.size 23 [.int .i64 a, .int .i64 b, .int .i64 c, .int .i64 d, .int .i64 e] → W.cell? ⟨w0.heap.size, 0, none⟩ = some (.int .i64 a) ∧ W.cell? ⟨w0.heap.size, 1, none⟩ = some (.int .i64 b) ∧ W.cell? ⟨w0.heap.size, 2, none⟩ = some (.int .i64 c) ∧ W.cell? ⟨w0.heap.size, 3, none⟩ = some (.int .i64 d) ∧ W.cell? ⟨w0.heap.size, 4, none⟩ = some (.int .i64 e) :=
      fun W h => ⟨h.cell 0 _ rfl, h.cell 1 _ rfl, h.cell 2 _ rfl, h.cell 3 _ rfl, h.cell 4 _ rfl⟩
    have HK := Lib.hid hk
    clear hk
    go_region_held3 (fun w' => w'.cell? ⟨w0.heap.size, 0, none⟩ = some (.int .i64 a) ∧ w'.cell? ⟨w0.heap.size, 1, none⟩ = some (.int .i64 b) ∧ w'.cell? ⟨w0.heap.size, 2, none⟩ = some (.int .i64 c) ∧ w'.cell? ⟨w0.heap.size, 3, none⟩ = some (.int .i64 d) ∧ w'.cell? ⟨w0.heap.size, 4, none⟩ = some (.int .i64 e))
      (first | (with_reducible exact HK.out _ hBz) | (with_reducible exact HK.out _ k1) | (with_reducible exact HK.out _ k2) | (with_reducible exact HK.out _ k3) | (with_reducible exact HK.out _ k4) | (with_reducible exact HK.out _ k5) | (with_reducible exact HK.out _ hB3) | (with_reducible exact HK.out _ (hB3.alloc _)) | (with_reducible exact HK.out _ ((hB3.alloc _).alloc _)))
      (first
        | (go_at_call 61; (with_reducible refine (repeat_ff _ _ n _ o1 hn0 hn1).mono ?_); rintro e' w2 ⟨v, rfl, gb, rfl, hgb, hgl, hm, hb2⟩; have hB3 := k2.below hb2; have hgz : w1.heap.size + 1 ≤ gb := (by rw [← B1.out.2]; exact hgb); have hbz := hbw.trans ((B1.out.1.trans (hb2.mono B1.out.1.size)).mono hbw.size); clear hb2 hgb;clear k1 k2 k3 k4 k5 o1 o2 o3 m2 m3)
        | (go_at_call 61; (with_reducible refine (repeat_ff _ _ n _ o2 hn0 hn1).mono ?_); rintro e' w2 ⟨v, rfl, gb, rfl, hgb, hgl, hm, hb2⟩; have hB3 := k4.below hb2; have hgz : w1.heap.size + 2 ≤ gb := (by rw [← B2.out.2]; exact hgb); have hbz := hbw.trans ((B2.out.1.trans (hb2.mono B2.out.1.size)).mono hbw.size); have m2 := m2.stay (hb2.block _ m2.lt); clear hb2 hgb; clear k1 k2 k3 k4 k5 o1 o2 o3 m3)
        | (go_at_call 61; (with_reducible refine (repeat_ff _ _ n _ o3 hn0 hn1).mono ?_); rintro e' w2 ⟨v, rfl, gb, rfl, hgb, hgl, hm, hb2⟩; have hB3 := k5.below hb2; have hgz : w1.heap.size + 2 ≤ gb := (by rw [← B3.out.2]; exact hgb); have hbz := hbw.trans ((B3.out.1.trans (hb2.mono B3.out.1.size)).mono hbw.size); have m3 := m3.stay (hb2.block _ m3.lt); clear hb2 hgb; clear k1 k2 k3 k4 k5 o1 o2 o3 m2))
    · have hzz := hbz.size
      have hmp := MapIs.made w2 Try.prog 102
      go_wp2_with fail
      go_ret2
      exact ⟨(hbz.alloc hzz _).alloc (by simp; omega) _, Or.inr ⟨hok, w2.heap.size + 1, gb, w2.heap.size, rfl, by omega, by omega, by omega, by simpa using chip_made (g := ⟨a, b, c, d, e⟩) hok HAB.out (hm.alloc _) hmp (by omega)⟩⟩
    · have hzz := hbz.size
      go_wp2_with fail
      go_ret2
      exact ⟨hbz.alloc hzz _, Or.inr ⟨hok, w2.heap.size, gb, w1.heap.size + 1, rfl, by omega, by omega, by omega, chip_made (g := ⟨a, b, c, d, e⟩) hok HAB.out hm m2 (by omega)⟩⟩
    · have hzz := hbz.size
      go_wp2_with fail
      go_ret2
      exact ⟨hbz.alloc hzz _, Or.inr ⟨hok, w2.heap.size, gb, w1.heap.size, rfl, by omega, by omega, by omega, chip_made (g := ⟨a, b, c, d, e⟩) hok HAB.out hm m3 (by omega)⟩⟩
  · have hd : decide g.ok = false := decide_eq_false hok
    have HD := Lib.hid hd
    have hbel := below_alloc w0 (.cells #[.int .i64 g.a, .int .i64 g.b, .int .i64 g.c, .int .i64 g.d, .int .i64 g.e] 23 (0, 0))
    clear hd
    rcases g with ⟨a, b, c, d, e⟩
    show Calls Try.prog 17 #[.agg #[.int .i64 a, .int .i64 b, .int .i64 c, .int .i64 d, .int .i64 e], .pointer pp] w0 _
    go_enter Try.func17, Try.ntmps17
    go_wp2_with (go_at_call 28; refine (nor_right ⟨a, b, c, d, e⟩ _).mono ?_; rintro e' w1 ⟨rfl, hb1⟩; rw [HD.out])
    go_ret2
    exact ⟨hbel.trans (hb1.mono hbel.size), Or.inl ⟨hok, rfl⟩⟩
end Go.Proofs.Ytcdgpioljilgeaa
