/- The reference's chips: what both want (its geometry, bytes 255, rows of counts). -/
import Derived.Test.YtionjddcahgpkaaRefPower
import Derived.Test.YtionjddcahgpkaaMake
import Derived.Test.YtionjddcahgpkaaRight
import Derived.Test.YtionjddcahgpkaaRep
import Derived.Test.YtionjddcahgpkaaNandP
set_option linter.unusedVariables false
set_option maxRecDepth 100000
set_option linter.unusedSimpArgs false
namespace Go.Proofs.Ytionjddcahgpkaa
open Go.RowKit

theorem Blk.belowR {w w' : World} {b : Nat} {T : TypeId} {cs : List Value} (h : Blk w b T cs) (hb : Below w.heap.size w w') : Blk w' b T cs := h.stay (hb.block b h.lt)

set_option maxHeartbeats 1000000 in
theorem ref_right (g : Geo) (w : World) : Calls Try.prog 50 #[g.val] w fun e w' => e = .returned (.bool (decide g.ok)) ∧ Below w.heap.size w w' := by
  rcases g with ⟨a, b, c, d, e⟩
  show Calls Try.prog 50 #[.agg #[.int .i64 a, .int .i64 b, .int .i64 c, .int .i64 d, .int .i64 e]] w _
  have hbx := Blk.new w [.int .i64 a, .int .i64 b, .int .i64 c, .int .i64 d, .int .i64 e] 23
  have hbel := below_alloc w (.cells [.int .i64 a, .int .i64 b, .int .i64 c, .int .i64 d, .int .i64 e].toArray 23 (0, 0))
  have c0 := hbx.cell 0 _ rfl
  have c1 := hbx.cell 1 _ rfl
  have c2 := hbx.cell 2 _ rfl
  have c3 := hbx.cell 3 _ rfl
  have c4 := hbx.cell 4 _ rfl
  have HK := Lib.hid (show decide (Geo.ok ⟨a, b, c, d, e⟩) = (decide (2 ≤ a) && decide (a ≤ 16) && decide (a % 2 = 0) && decide (256 ≤ b) && decide (b ≤ 4096) && decide (4 ≤ c) && decide (c ≤ 64) && decide (2 ≤ d) && decide (d ≤ 32) && decide (16 ≤ e) && decide (e ≤ 256)) by
    rw [Bool.eq_iff_iff, decide_eq_true_iff]
    simp only [Geo.ok, Bool.and_eq_true, decide_eq_true_eq]
    have ht : 2 ≤ a → Int.tmod a 2 = a % 2 := fun h => Int.tmod_eq_emod_of_nonneg (by omega)
    generalize Int.tmod a 2 = q at *
    omega)
  rw [HK.out]
  clear HK hbx
  by_cases h0 : 2 ≤ a
  by_cases h1 : a ≤ 16
  by_cases h2 : a % 2 = 0
  by_cases h3 : 256 ≤ b
  by_cases h4 : b ≤ 4096
  by_cases h5 : 4 ≤ c
  by_cases h6 : c ≤ 64
  by_cases h7 : 2 ≤ d
  by_cases h8 : d ≤ 32
  by_cases h9 : 16 ≤ e
  by_cases h10 : e ≤ 256
  all_goals
    go_enter Try.func50, Try.ntmps50
    go_wp2_with fail
    go_ret
    exact ⟨by first | (simp [*]; done) | (simp [*]; intros; omega), hbel⟩
/-- How often each of so many sectors was erased, as cells. -/
def cntCells (S : Nat) (cnt : Int → Int) : List Value := (List.range S).map fun (i : Nat) => Value.int .i64 (cnt (i : Int))
theorem cntCells_get {S : Nat} {cnt : Int → Int} {i : Nat} (hi : i < S) : (cntCells S cnt)[i]? = some (.int .i64 (cnt (i : Int))) := by simp [cntCells, hi]
theorem cntCells_up {S : Nat} {cnt : Int → Int} {i : Nat} (v : Int) : (cntCells S cnt).set i (.int .i64 v) = cntCells S (up1 cnt (i : Int) v) := by
  apply List.ext_getElem?
  intro k
  rw [List.getElem?_set]
  by_cases hk : k < S
  · rw [cntCells_get hk]
    by_cases e : i = k
    · subst e
      rw [if_pos rfl, if_pos (by simp [cntCells]; exact hk), cntCells_get hk]
      simp [up1]
    · rw [if_neg e, cntCells_get hk]
      have : ¬ (k : Int) = (i : Int) := by omega
      simp [up1, this]
  · have h1 : (cntCells S (up1 cnt (i : Int) v))[k]? = none := by rw [List.getElem?_eq_none]; simp [cntCells]; omega
    rw [h1]
    by_cases e : i = k
    · rw [if_pos e, if_neg (by simp [cntCells]; omega)]
    · rw [if_neg e, List.getElem?_eq_none]; simp [cntCells]; omega

theorem ffs_set (j n : Nat) (hj : j < n) : (ffs j ++ List.replicate (n - j) (0 : UInt8)).set j 255 = ffs (j + 1) ++ List.replicate (n - (j + 1)) 0 := by
  rw [List.set_append_right _ _ (by rw [ffs_length]; exact Nat.le_refl _), ffs_length, Nat.sub_self]
  obtain ⟨k, hk⟩ : ∃ k, n - j = k + 1 := ⟨n - j - 1, by omega⟩
  rw [hk, show n - (j + 1) = k by omega, List.replicate_succ, List.set_cons_zero]
  unfold ffs
  rw [List.replicate_succ']
  simp

set_option maxHeartbeats 1000000 in
theorem ref_blank (n : Nat) (hn : n ≤ 65536) (w : World) : Calls Try.prog 51 #[.int .i64 (n : Int)] w (Ret fun v w' => ∃ gb, v = .slice (some ⟨gb, 0, none⟩) n n ∧ w.heap.size ≤ gb ∧ MemC w' gb n (ffs n) ∧ Below w.heap.size w w') := by
  obtain ⟨w0, rfl⟩ : ∃ w0 : World, w0 = w := ⟨_, rfl⟩
  have hs0 := Nat.le_refl w0.heap.size
  go_enter Try.func51, Try.ntmps51
  go_upto_region 3 with (at_make; go_must (refine wpList_wanted (by rfl) fun K hK => wp_make_byts (B := w0.heap.size) (n := n) _ _ rfl rfl rfl rfl rfl (by omega) hs0 ?_; intro gb w1 hg hown hbel hlt; refine hK _ _ ?_; clear hK K))
  have hm0 := MemC.of_own hown
  have hm1 : MemC w1 gb n (ffs 0 ++ List.replicate (n - 0) 0) := by simpa [ffs] using hm0
  clear hown hm0
  go_loopw [4] (fun v4 wr => ∃ j : Nat, j ≤ n ∧ v4 = .int .i64 (j : Int) ∧ MemC wr gb n (ffs j ++ List.replicate (n - j) 0) ∧ Below w0.heap.size w0 wr) (fun v4 _ => n - (intOf v4).toNat)
  case atStart => exact ⟨0, Nat.zero_le _, rfl, hm1, hbel⟩
  case round =>
    clear hm1 hbel
    obtain ⟨j, hj, rfl, hm, hbel⟩ := hrel
    by_cases hlt1 : j < n
    · have hc := hm.get (i := j) (by simp [ffs_length]; omega)
      have hf := hm.frz j
      have hms := hm.set j 255
      rw [ffs_set j n hlt1] at hms
      have hb2 : Below w0.heap.size w0 (wr.setCell ⟨gb, j, none⟩ (.int .u8 255)) := hbel.setCell (by simpa using hg) _
      have HX := Lib.hid (And.intro hms hb2)
      clear hms hb2 hm hbel
      go_wp2_with fail
      go_roundw
      case rel => exact ⟨j + 1, by omega, by go_num, HX.out.1, HX.out.2⟩
      case measure => simp [intOf]; omega
    · obtain rfl : j = n := by omega
      go_wp2_with fail
      go_ret
      exact ⟨_, rfl, gb, rfl, hg, by simpa using hm, hbel⟩

theorem info_int : (Try.prog.info? 3).map (fun i => (i.zero, i.size, i.bytes)) = some (some (.int .i64 0), 1, 8) := by kernel_rfl

theorem run_make_is (n : Nat) (hn : n ≤ 1000) (w : World) : (Instr.makeSlice 46 (.int .i64 (n : Int)) (.int .i64 (n : Int))).run Try.prog w = .ok (.slice (some ⟨w.heap.size, 0, none⟩) n n) (w.alloc (.cells (cntCells n (fun _ => 0)).toArray 3 (0, 0))) := by
  obtain ⟨i0, hi, hz0, hz1, hz2⟩ := info_parts info_int
  have hr := run_make (P := Try.prog) w 46 3 i0 (.int .i64 0) Try.underlying46 hi hz0 .i64 .i64 (n : Int) (n : Int) (by omega) (by omega) (by rw [hz2]; omega) (by omega)
  simp only [hz1, Int.toNat_natCast] at hr
  have e : madeCells (Value.int .i64 0).cells (n * 1) = (cntCells n (fun _ => 0)).toArray := by
    apply Array.ext'
    unfold cntCells madeCells
    apply List.ext_getElem
    · simp
    · intro i h1 h2
      simp [Value.cells, Nat.mod_one]
  rw [e] at hr
  exact hr

end Go.Proofs.Ytionjddcahgpkaa
