/- Blocks of bytes that may have room behind them; copies into them; bytes.Repeat of one byte. -/
import Derived.Test.YtionjddcahgpkaaMake
import Derived.Test.YtionjddcahgpkaaOnly
import Derived.Test.YtionjddcahgpkaaKinds
import Derived.Test.YtionjddcahgpkaaNorP
import Derived.Lib.MakeNoZero
import Derived.Outline
import Derived.Deep.DeepCutAuto
import Derived.Deep.CutBlock
import Derived.RegionTactic
import Derived.Deep.RegionHeld3
set_option linter.unusedVariables false
set_option maxRecDepth 100000
namespace Go.Proofs.Ytionjddcahgpkaa
open Go.RowKit

/-- Block g has room for N bytes; the first of them are these. -/
def MemC (w : World) (g N : Nat) (l : List UInt8) : Prop :=
  ∃ cur E, w.heap[g]? = some (.cells cur E (0, 0)) ∧ N ≤ cur.size ∧ l.length ≤ N ∧ cur.toList.take l.length = cellsB l

theorem MemC.lt {w : World} {g N : Nat} {l : List UInt8} (h : MemC w g N l) : g < w.heap.size := by
  obtain ⟨cur, E, hg, _⟩ := h
  exact (Array.getElem?_eq_some_iff.1 hg).1
theorem MemC.le {w : World} {g N : Nat} {l : List UInt8} (h : MemC w g N l) : l.length ≤ N := by
  obtain ⟨cur, E, hg, h1, h2, h3⟩ := h
  exact h2
theorem MemC.stay {w w' : World} {g N : Nat} {l : List UInt8} (h : MemC w g N l) (e : w'.heap[g]? = w.heap[g]?) : MemC w' g N l := by
  obtain ⟨cur, E, hg, r⟩ := h
  exact ⟨cur, E, e.trans hg, r⟩
theorem MemC.only {w w' : World} {g N : Nat} {l : List UInt8} {S : List Nat} (h : MemC w g N l) (ho : Only S w w') (hn : g ∉ S) : MemC w' g N l := h.stay (ho.block g h.lt hn)
theorem MemC.below {w w' : World} {g N : Nat} {l : List UInt8} (h : MemC w g N l) (hb : Below w.heap.size w w') : MemC w' g N l := h.stay (hb.block g h.lt)
theorem MemC.get {w : World} {g N : Nat} {l : List UInt8} (h : MemC w g N l) {i : Nat} (hi : i < l.length) : w.cell? ⟨g, i, none⟩ = some (.int .u8 (l[i].toNat : Int)) := by
  obtain ⟨cur, E, hg, h1, h2, h3⟩ := h
  have h4 : (cellsB l)[i]? = some (.int .u8 (l[i].toNat : Int)) := by unfold cellsB; simp [hi]
  rw [← h3, List.getElem?_take_of_lt hi] at h4
  unfold World.cell?
  simp only [hg]
  simpa using h4
theorem MemC.frz {w : World} {g N : Nat} {l : List UInt8} (h : MemC w g N l) (i : Nat) : w.frozen? ⟨g, i, none⟩ = false := by
  obtain ⟨cur, E, hg, _⟩ := h
  unfold World.frozen?
  simp [hg]
theorem MemC.read {w : World} {g N : Nat} {l : List UInt8} (h : MemC w g N l) : Byts w (some ⟨g, 0, none⟩) l := by
  refine Or.inr ⟨g, 0, rfl, fun i hi => ?_⟩
  rw [Nat.zero_add]
  exact h.get hi
theorem MemC.shorter {w : World} {g N : Nat} {l : List UInt8} (h : MemC w g N l) (k : Nat) : MemC w g N (l.take k) := by
  obtain ⟨cur, E, hg, h1, h2, h3⟩ := h
  refine ⟨cur, E, hg, h1, by rw [List.length_take]; omega, ?_⟩
  have e : cellsB (l.take k) = (cellsB l).take k := by simp [cellsB]
  rw [e, ← h3, List.take_take, List.length_take]
theorem MemC.of_own {w : World} {B g N C : Nat} {l : List UInt8} (h : Own w B (.slice (some ⟨g, 0, none⟩) N C) l) : MemC w g N l := by
  have hn := h.len
  obtain ⟨hl, h⟩ := h
  rcases h with ⟨e, _⟩ | ⟨g', cap, cur, e, hB, hg, hc, hm, hs, ht⟩
  · cases e
  · cases e
    refine ⟨cur, _, hg, by rw [hs]; omega, by omega, ?_⟩
    rw [← ht]
    simp

/-- A store. -/
theorem MemC.set {w : World} {g N : Nat} {l : List UInt8} (h : MemC w g N l) (i : Nat) (x : UInt8) : MemC (w.setCell ⟨g, i, none⟩ (.int .u8 (x.toNat : Int))) g N (l.set i x) := by
  obtain ⟨cur, E, hg, h1, h2, h3⟩ := h
  have e : cellsB (l.set i x) = (cellsB l).set i (.int .u8 (x.toNat : Int)) := by unfold cellsB; rw [List.map_set]
  refine ⟨cur.setIfInBounds i (.int .u8 (x.toNat : Int)), E, ?_, by simpa using h1, by simpa using h2, ?_⟩
  · simp only [World.setCell, Array.getElem?_modify]
    simp [hg]
  · rw [e, ← h3, List.length_set, Array.toList_setIfInBounds, List.take_set]

/-- A store elsewhere. -/
theorem MemC.far {w : World} {g N : Nat} {l : List UInt8} (h : MemC w g N l) {p : Addr} (hp : g ≠ p.block) (u : Value) : MemC (w.setCell p u) g N l := h.stay (Below.heap_setCell w p u g hp)
theorem MemC.alloc {w : World} {g N : Nat} {l : List UInt8} (h : MemC w g N l) (o : Obj) : MemC (w.alloc o) g N l := h.below (below_alloc w o)
theorem MemC.drewN {w : World} {g N : Nat} {l : List UInt8} (h : MemC w g N l) (n : Nat) : MemC (w.drewN n) g N l := h.below (below_drewN (Below.refl _ _) n)

theorem info_u8s : (Try.prog.info? 5).map (·.size) = some 1 := by
  obtain ⟨i0, hi0, hz0, hz1, hz2⟩ := info_parts info_u8
  rw [hi0, Option.map_some, hz1]

/-- copy into it. -/
theorem run_copy_mem {w : World} (ty : TypeId) {g N off n' c' : Nat} {l m : List UInt8} {A : Option Addr} {n c : Nat} (h : MemC w g N l) (hm : Byts w A m) (hn : n = m.length) (ho : off ≤ l.length) (hf : off + n' ≤ N) {A' : Option Addr} (hA' : 0 < n' → A' = some ⟨g, off, none⟩) :
    ∃ w', (Builtin.copy_ #[33, 33] ty #[.slice A' n' c', .slice A n c]).run Try.prog w = .ok (.int .i64 (min m.length n' : Nat)) w' ∧
      MemC w' g N (l.take off ++ m.take n' ++ l.drop (off + min m.length n')) ∧ w.grownBy w' (some g) := by
  subst hn
  have hu := Try.underlying33
  by_cases h0 : Nat.min m.length n' = 0
  · refine ⟨w, ?_, ?_, ⟨rfl, rfl, rfl, Nat.le_refl _, fun _ _ _ => rfl⟩⟩
    · rw [run_copy_none (P := Try.prog) w _ _ _ _ A' A n' c' m.length c hu info_u8s h0]
      have : min m.length n' = 0 := h0
      rw [this]; rfl
    · have h0 : min m.length n' = 0 := h0
      rw [h0, Nat.add_zero]
      have e : m.take n' = [] := by apply List.eq_nil_of_length_eq_zero; rw [List.length_take, Nat.min_comm]; exact h0
      rw [e, List.append_nil, List.take_append_drop]
      exact h
  · have h0 : 0 < min m.length n' := Nat.pos_of_ne_zero h0
    have hAA := hA' (by omega)
    subst hAA
    rcases hm with rfl | ⟨b, o', rfl, hc⟩
    · simp at h0
    obtain ⟨cur, E, hg, h1, h2, h3⟩ := h
    have hl2 : (cellsB (m.take n')).length = Nat.min m.length n' := by rw [cellsB_length, List.length_take]; exact Nat.min_comm _ _
    have hm2 : min m.length n' = Nat.min m.length n' := rfl
    have hone : ∀ v ∈ cellsB (m.take n'), v.oneCell' = true := fun u hu => by unfold cellsB at hu; obtain ⟨x, _, rfl⟩ := List.mem_map.1 hu; rfl
    have hfit2 : off + (cellsB (m.take n')).length ≤ cur.size := by rw [hl2, ← hm2]; omega
    have hr := run_copy_row (P := Try.prog) w 33 33 ty 5 g off n' c' ⟨b, o', none⟩ m.length c cur E (cellsB (m.take n')) hu info_u8s hg hl2
      (fun j v hv => by
        obtain ⟨hj, rfl⟩ := cellsB_get _ j v hv
        rw [add_none]
        simp only [List.length_take] at hj
        rw [hc j (by omega), List.getElem_take]) hfit2 hone
    refine ⟨w.setRow g (cur.toList.take off ++ cellsB (m.take n') ++ cur.toList.drop (off + (cellsB (m.take n')).length)).toArray, hr.trans (by rw [hl2]; rfl), ?_, ⟨rfl, rfl, rfl, by simp, fun k _ hk => setRow_other w g k _ (fun e => hk (by rw [e]))⟩⟩
    have hcl : cur.toList.length = cur.size := Array.length_toList
    refine ⟨_, E, setRow_heap w g cur _ _ _ hg, ?_, ?_, ?_⟩
    · simp only [List.size_toArray, List.length_append, List.length_take, List.length_drop, Array.length_toList]; omega
    · simp only [List.length_append, List.length_take, List.length_drop]; omega
    · have hcell : cellsB (l.take off ++ m.take n' ++ l.drop (off + min m.length n')) = (cellsB l).take off ++ cellsB (m.take n') ++ (cellsB l).drop (off + min m.length n') := by
        rw [cellsB_append, cellsB_append]
        simp only [cellsB, List.map_take, List.map_drop]
      rw [hcell, ← h3]
      generalize hx : cellsB (m.take n') = x at *
      rw [hm2, ← hl2]
      by_cases hB : off + x.length ≤ l.length
      · have e1 : (l.take off ++ m.take n' ++ l.drop (off + x.length)).length = l.length := by
          have : (m.take n').length = x.length := by rw [← hx, cellsB_length]
          simp only [List.length_append, List.length_drop, this, List.length_take]; omega
        rw [e1]
        exact splice_take cur.toList x off l.length hB (by omega)
      · have e1 : (l.take off ++ m.take n' ++ l.drop (off + x.length)).length = off + x.length := by
          have : (m.take n').length = x.length := by rw [← hx, cellsB_length]
          simp only [List.length_append, List.length_drop, this, List.length_take]; omega
        rw [e1, List.drop_of_length_le (l := cur.toList.take l.length) (by rw [List.length_take]; omega), List.append_nil, List.take_take, Nat.min_eq_left ho]
        rw [List.take_append_of_le_length (by rw [List.length_append, List.length_take]; omega), List.take_of_length_le (by rw [List.length_append, List.length_take]; omega)]

theorem wp_copy_mem {o : Oper} {a : Act} {w : World} {K : Act → World → Prop} {Q : Exit → Act → World → Prop} (d s : Operand)
    (hop : o.op = .call { callee := .builtin .copy, args := #[d, s], argTypes := #[33, 33] })
    {g N off n' c' : Nat} {l m : List UInt8} {A A' : Option Addr} {n c : Nat} (hd : a.eval d = .slice A' n' c') (hs : a.eval s = .slice A n c) (h : MemC w g N l) (hm : Byts w A m) (hn : n = m.length) (ho : off ≤ l.length) (hf : off + n' ≤ N) (hA' : 0 < n' → A' = some ⟨g, off, none⟩)
    (hK : ∀ w', MemC w' g N (l.take off ++ m.take n' ++ l.drop (off + min m.length n')) → w.grownBy w' (some g) → K (a.put o.dst (.int .i64 (min m.length n' : Nat))) w') : o.wp Try.prog a w K Q := by
  obtain ⟨w', hr, h1, h2⟩ := run_copy_mem (c' := c') (c := c) o.type h hm hn ho hf hA'
  unfold Oper.wp execOp
  simp only [hop, resolve, invoke, builtin, Sem.run_bind, Sem.run_pure, Result.andThen_ok, List.map_toArray, List.map_cons, List.map_nil, hd, hs]
  rw [hr]
  exact hK w' h1 h2

/-! ### math/bits.Mul by one -/

theorem and32 (n : Nat) (h : n < 4294967296) : bits .and .u64 (n : Int) 4294967295 = (n : Int) := by
  have e := u64_and_nat n 4294967295 (by omega) (by decide)
  have : n &&& 4294967295 = n := by
    have h2 := Nat.and_two_pow_sub_one_eq_mod n 32
    rw [show (2 : Nat) ^ 32 - 1 = 4294967295 by decide] at h2
    rw [h2]; exact Nat.mod_eq_of_lt h
  rw [this] at e
  exact e

set_option maxHeartbeats 1000000 in
theorem mul64_one (n : Nat) (hn : n < 4294967296) (w : World) :
    Calls Try.prog 68 #[.int .u64 1, .int .u64 (n : Int)] w fun e w' => e = .returned (.tuple #[.int .u64 0, .int .u64 (n : Int)]) ∧ w = w' := by
  have h1 : bits .and .u64 1 4294967295 = 1 := and32 1 (by decide)
  have h2 := and32 n hn
  have h0 : bits .and .u64 0 4294967295 = 0 := and32 0 (by decide)
  have hd : (n : Int) / 4294967296 = 0 := by omega
  go_enter Try.func68, Try.ntmps68
  go_wp2_with fail
  go_ret2
  exact ⟨rfl, rfl⟩

set_option maxHeartbeats 1000000 in
theorem mul_one_u (n : Nat) (hn : n < 4294967296) (w : World) :
    Calls Try.prog 65 #[.int .u64 1, .int .u64 (n : Int)] w fun e w' => e = .returned (.tuple #[.int .u64 0, .int .u64 (n : Int)]) ∧ w = w' := by
  have H := Lib.hid (mul64_one n hn w)
  go_enter Try.func65, Try.ntmps65
  go_wp2_with (go_at_call 68; refine H.out.mono ?_; rintro e w' ⟨rfl, rfl⟩)
  go_ret2
  exact ⟨rfl, rfl⟩

/-! ### bytes.Repeat of one byte 255 -/

theorem ffs_step (bp k r : Nat) : (ffs bp).take bp ++ (ffs k).take r ++ (ffs bp).drop (bp + min (ffs k).length r) = ffs (bp + min k r) := by
  rw [ffs_length, List.drop_of_length_le (by rw [ffs_length]; omega), List.append_nil]
  unfold ffs
  rw [List.take_replicate, List.take_replicate, Nat.min_self, Nat.min_comm r k]
  simp
theorem ffs_append (a b : Nat) : ffs a ++ ffs b = ffs (a + b) := by simp [ffs]

set_option maxHeartbeats 4000000 in
theorem repeat_ff (A : Option Addr) (c n : Nat) (w : World) (hb : Byts w A [255]) (h0 : 0 < n) (hn : n ≤ 1000000) :
    Calls Try.prog 64 #[.slice A 1 c, .int .i64 (n : Int)] w (Ret fun v w' => ∃ g, v = .slice (some ⟨g, 0, none⟩) n n ∧ w.heap.size ≤ g ∧ g < w'.heap.size ∧ MemC w' g n (ffs n) ∧ Below w.heap.size w w') := by
  obtain ⟨w0, rfl⟩ : ∃ w0 : World, w0 = w := ⟨_, rfl⟩
  have hn0 : ((n : Int) == 0) = false := by simp; omega
  have hn1 : ¬ ((n : Int) < 0) := by omega
  have hni : (n : Int) ≤ 1000000 := by omega
  have H := Lib.hid (mul_one_u n (by omega))
  have hs0 := Nat.le_refl w0.heap.size
  have hq1 : (8192 : Int) / 1 = 8192 := by decide
  go_enter Try.func64, Try.ntmps64
  go_upto_region 11 with (go_at_call 65; go_must (refine (H.out _).mono ?_); rintro e w' ⟨rfl, rfl⟩)
  go_upto_if 42 with fail
  go_cut [8] (fun v8 w' => ∃ cm : Nat, v8 = .int .i64 (cm : Int) ∧ 0 < cm ∧ cm ≤ 8192 ∧ w0 = w')
  case first =>
    by_cases hc : (8192 : Int) < (n : Int)
    · go_wp2_with fail
      go_meet
      exact ⟨8192, rfl, by decide, by decide, rfl⟩
    · go_wp2_with fail
      go_meet
      exact ⟨n, rfl, h0, by omega, rfl⟩
  case rest =>
    obtain ⟨cm, rfl, hcm0, hcm1, rfl⟩ := hcut
    obtain ⟨cs, hrunM, hle, _⟩ := Lib.run_makeNoZero (P := Try.prog) w0 #[3] 33 5 Try.underlying33 n (by omega)
    have hcall : (callFunc 66 #[.int .i64 (n : Int)]).run Try.prog w0 = .ok (.value (.slice (some ⟨w0.heap.size, 0, none⟩) n cs.size)) ((w0.alloc (.cells cs 5)).drewN 2) := by
      rw [run_callFunc_extern Try.func66 (by kernel_rfl) (by kernel_rfl) (by kernel_rfl) (e := Extern.BytealgMakeNoZero.makeNoZero #[3] #[33]) (by kernel_rfl), hrunM]
      rfl
    clear hrunM
    have i0 : (0 : Int) ≤ (n : Int) := by omega
    have i1 : (n : Int) ≤ (cs.size : Int) := by omega
    have hm0 : MemC ((w0.alloc (.cells cs 5)).drewN 2) w0.heap.size n [] := by
      refine ⟨cs, 5, ?_, hle, Nat.zero_le _, by simp [cellsB]⟩
      exact heap_alloc_new w0 _
    have hb1 : Below w0.heap.size w0 ((w0.alloc (.cells cs 5)).drewN 2) := below_drewN (below_alloc w0 _) 2
    have hbb := hb.below hb1
    have hlt1 : w0.heap.size < ((w0.alloc (.cells cs 5)).drewN 2).heap.size := hm0.lt
    go_upto_region 17 with fail
    obtain ⟨w1, hw1⟩ : ∃ w1, (w0.alloc (.cells cs 5)).drewN 2 = w1 := ⟨_, rfl⟩
    rw [hw1] at hm0 hb1 hbb hlt1 ⊢
    clear hcall hw1
    go_upto_region 18 with (refine wpList_wanted (by rfl) fun K hK => wp_copy_mem _ _ rfl (off := 0) rfl rfl hm0 hbb rfl (Nat.zero_le _) (by omega) (fun _ => rfl) ?_; intro w2 hm1 hg; refine hK _ _ ?_; clear hK K)
    have hB := Below.trans hb1 (grown_below hg (Nat.le_of_lt (Nat.lt_of_le_of_lt (Nat.le_refl _) hlt1)) (fun k e => by cases e; exact Nat.le_refl _))
    have hm2 : MemC w2 w0.heap.size n (ffs 1) := by
      have : ([] : List UInt8).take 0 ++ [255].take n ++ ([] : List UInt8).drop (0 + min [(255 : UInt8)].length n) = ffs 1 := by
        rw [List.take_of_length_le (l := [255]) (by simp; omega)]
        simp [ffs]
      rw [this] at hm1
      exact hm1
    have h1n : ((min [(255 : UInt8)].length n : Nat) : Int) = 1 := by simp; omega
    clear hm0 hm1 hb1 hbb hlt1 hg
    go_loopw [10] (fun v10 wr => ∃ bp : Nat, 1 ≤ bp ∧ bp ≤ n ∧ v10 = .int .i64 (bp : Int) ∧ MemC wr w0.heap.size n (ffs bp) ∧ Below w0.heap.size w0 wr) (fun v10 _ => n - (intOf v10).toNat)
    case atStart => exact ⟨1, Nat.le_refl _, h0, by simp; omega, hm2, hB⟩
    case round =>
      clear hm2 hB h1n
      obtain ⟨bp, hbp1, hbpn, rfl, hm, hB⟩ := hrel
      by_cases hlt : bp < n
      · have hlti : (bp : Int) < (n : Int) := by omega
        go_upto_region 19 with fail
        go_cut [11] (fun v11 w' => ∃ k : Nat, v11 = .int .i64 (k : Int) ∧ 0 < k ∧ k ≤ bp ∧ wr = w')
        case first =>
          by_cases hc : (cm : Int) < (bp : Int)
          · go_wp2_with fail
            go_meet
            exact ⟨cm, rfl, hcm0, by omega, rfl⟩
          · go_wp2_with fail
            go_meet
            exact ⟨bp, rfl, by omega, Nat.le_refl _, rfl⟩
        case rest =>
          obtain ⟨k, rfl, hk0, hk1, rfl⟩ := hcut
          have f1 : (0 : Int) ≤ (bp : Int) := by omega
          have f2 : (bp : Int) ≤ (n : Int) := by omega
          have f3 : (0 : Int) ≤ (k : Int) := by omega
          have f4 : (k : Int) ≤ (n : Int) := by omega
          have f5 : ¬ n = bp := by omega
          have hrd := hm.shorter k
          rw [ffs_take _ _ hk1] at hrd
          have hbk := hrd.read
          have hw1 : IntKind.i64.wrap ((bp : Int) + ((min (ffs k).length (n - bp) : Nat) : Int)) = ((bp + min k (n - bp) : Nat) : Int) := by rw [ffs_length, ← Int.natCast_add]; exact IntWalk.i64_in _ (by omega)
          go_upto_region 20 with fail
          have hm' : MemC wr.drew w0.heap.size n (ffs bp) := hm.drewN 1
          have hbk' : Byts wr.drew (some ⟨w0.heap.size, 0, none⟩) (ffs k) := (hrd.drewN 1).read
          obtain ⟨w2, hcp, hm2, hg⟩ := run_copy_mem (c' := n - bp) (n' := n - bp) (c := n) (n := k) (off := bp) 3 hm' hbk' (by rw [ffs_length]) (by rw [ffs_length]; exact Nat.le_refl _) (by omega) (fun _ => rfl)
          go_region_held3 (fun _ => True) (exact True.intro) (first | go_at_call 0)
          go_wp2_with fail
          go_roundw
          case rel => exact ⟨bp + min k (n - bp), by omega, by omega, by rw [← Int.natCast_add], by rw [ffs_step] at hm2; exact hm2, Below.trans (Below.trans hB (below_drewN (Below.refl _ _) 1)) (grown_below hg (Nat.le_of_lt hm'.lt) (fun k e => by cases e; exact Nat.le_refl _))⟩
          case measure => simp [intOf]; omega
      · obtain rfl : bp = n := by omega
        have hlti : ¬ (bp : Int) < (bp : Int) := by omega
        go_wp2_with fail
        go_ret
        exact ⟨_, rfl, w0.heap.size, rfl, Nat.le_refl _, hm.lt, hm, hB⟩
end Go.Proofs.Ytionjddcahgpkaa
