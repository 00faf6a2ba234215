/- The contracts of the helpers over bytes: a copy with spare room behind it, whether it was kept, whether two rows of bytes are alike. -/
import Derived.Test.YtionjddcahgpkaaMem
import Derived.Test.YtionjddcahgpkaaRowsOf
import Derived.Outline
import Derived.Deep.QuietTactic
import Derived.BigQuiet
import Derived.Deep.DeepCutAuto
import Derived.Deep.CutBlock
set_option linter.unusedVariables false
set_option maxRecDepth 100000
namespace Go.Proofs.Ytionjddcahgpkaa
open Go.RowKit

/-! ### a row known to its capacity -/

theorem Own.shorter {w : World} {B g C N M : Nat} {l : List UInt8} (h : Own w B (.slice (some ⟨g, 0, none⟩) N C) l) (hM : M ≤ N) : Own w B (.slice (some ⟨g, 0, none⟩) M C) (l.take M) := by
  have hn := h.len
  obtain ⟨hl, h⟩ := h
  rcases h with ⟨e, _⟩ | ⟨g', cap, cur, e, hB, hg, hc, hm, hs, ht⟩
  · cases e
  cases e
  unfold Own
  rw [List.length_take, Nat.min_eq_left (by omega)]
  refine ⟨by rw [cellsB_length, List.length_take]; omega, Or.inr ⟨g, C, cur, rfl, hB, hg, by omega, hm, hs, ?_⟩⟩
  have : cellsB (l.take M) = (cellsB l).take M := by simp [cellsB]
  rw [this, ← ht, List.take_take]
  congr 1
  omega

/-- make with a capacity: the row is known to its end. -/
theorem wp_make_cap {o : Oper} {a : Act} {w : World} {K : Act → World → Prop} {Q : Exit → Act → World → Prop} (l c : Operand) (hop : o.op = Op.makeSlice 33 l c)
    {B : Nat} {kl kc : IntKind} {L C : Int} {m n : Nat} (hl : a.eval l = .int kl L) (hc : a.eval c = .int kc C) (hL : L = (m : Int)) (hC : C = (n : Int)) (hmn : m ≤ n) (hn : n ≤ 281474976710656) (hB : B ≤ w.heap.size)
    (h : ∀ g w', w.heap.size ≤ g → Own w' B (.slice (some ⟨g, 0, none⟩) n n) (List.replicate n 0) → Below w.heap.size w w' → g < w'.heap.size → K (a.put o.dst (.slice (some ⟨g, 0, none⟩) m n)) w') : o.wp Try.prog a w K Q := by
  obtain ⟨i0, hi, hz0, hz1, hz2⟩ := info_parts info_u8
  have hu := Try.underlying33
  subst hL
  subst hC
  unfold Oper.wp execOp
  simp only [hop, hl, hc, Sem.run_bind]
  have hr := run_make (P := Try.prog) w 33 5 i0 (.int .u8 0) hu hi hz0 kl kc m n (by omega) (by omega) (by rw [hz2]; omega) (by omega)
  simp only [Int.toNat_natCast, hz1] at hr
  rw [hr]
  have e : (madeCells (Value.int .u8 0).cells (n * 1)).toList = cellsB (List.replicate n 0) := by
    unfold cellsB madeCells
    apply List.ext_getElem
    · simp
    · intro i h1 h2
      simp [Value.cells, Nat.mod_one]
  have hsz : (madeCells (Value.int .u8 0).cells (n * 1)).size = n := by simp [size_madeCells]
  refine h _ _ (Nat.le_refl _) ?_ (below_alloc _ _) (by simp)
  unfold Own
  rw [List.length_replicate]
  refine ⟨by rw [cellsB_length, List.length_replicate, Nat.mul_one], Or.inr ⟨w.heap.size, n, _, rfl, hB, heap_alloc_new w _, Nat.le_refl _, by unfold maxLen; omega, by rw [hsz, Nat.mul_one], ?_⟩⟩
  rw [e]
  apply List.take_of_length_le
  rw [cellsB_length, List.length_replicate]; omega

/-- append where there is room, into a row known to its end. -/
theorem wp_append_room {o : Oper} {a : Act} {w : World} {K : Act → World → Prop} {Q : Exit → Act → World → Prop} (s x : Operand)
    (ho : o.op = .call { callee := .builtin .append, args := #[s, x], argTypes := #[33, 33] })
    {B g k N : Nat} {l m : List UInt8} {A : Option Addr} {n c : Nat} (hs : a.eval s = .slice (some ⟨g, 0, none⟩) k N) (hx : a.eval x = .slice A n c)
    (hown : Own w B (.slice (some ⟨g, 0, none⟩) N N) l) (hm : Byts w A m) (hn : n = m.length) (hfit : k + m.length ≤ N)
    (h : ∀ w', Own w' B (.slice (some ⟨g, 0, none⟩) N N) (l.take k ++ m ++ l.drop (k + m.length)) → w.grownBy w' (some g) → K (a.put o.dst (.slice (some ⟨g, 0, none⟩) (k + m.length) N)) w') : o.wp Try.prog a w K Q := by
  subst hn
  obtain ⟨i0, hi, hz0, hz1, hz2⟩ := info_parts info_u8
  have hu := Try.underlying33
  have hNl := hown.len
  have key : ∃ w', (Builtin.append_ #[33, 33] o.type #[.slice (some ⟨g, 0, none⟩) k N, .slice A m.length c]).run Try.prog w = .ok (.slice (some ⟨g, 0, none⟩) (k + m.length) N) w' ∧
      Own w' B (.slice (some ⟨g, 0, none⟩) N N) (l.take k ++ m ++ l.drop (k + m.length)) ∧ w.grownBy w' (some g) := by
    rcases hm with rfl | ⟨b, off, rfl, hc⟩
    · refine ⟨w, ?_, by simpa using hown, ⟨rfl, rfl, rfl, Nat.le_refl _, fun _ _ _ => rfl⟩⟩
      simp only [List.length_nil] at hfit
      cases A <;> simp [Builtin.append_, run_underlying Try.underlying33, sizeOf, typeInfo, hi, Builtin.lenOf, Builtin.firstCells, loadCells, loadCellsFrom, storeCells, show k ≤ N from by omega]
    · obtain ⟨hlen, hf⟩ := hown
      rcases hf with ⟨e, _⟩ | ⟨g', cap, cur, e, hB, hg, hcap, hmx, hcs, ht⟩
      · cases e
      cases e
      have hl2 : (cellsB m).length = m.length * i0.size := by rw [cellsB_length, hz1, Nat.mul_one]
      have hr := run_append_room (P := Try.prog) w 33 o.type 5 i0 hu hi g k _ cur hg ⟨b, off, none⟩ m.length c (cellsB m) hl2
        (fun j v hv => by obtain ⟨hj, rfl⟩ := cellsB_get _ j v hv; rw [add_none]; exact hc j hj)
        (fun u hu => by unfold cellsB at hu; obtain ⟨x, _, rfl⟩ := List.mem_map.1 hu; rfl) hfit (by rw [hz1, cellsB_length]; omega)
      rw [hz1, Nat.mul_one] at hr
      refine ⟨w.setRow g (cur.toList.take k ++ cellsB m ++ cur.toList.drop (k + (cellsB m).length)).toArray, hr, ?_, ⟨rfl, rfl, rfl, by simp, fun k _ hk => setRow_other w g k _ (fun e => hk (by rw [e]))⟩⟩
      have hlen2 : (l.take k ++ m ++ l.drop (k + m.length)).length = l.length := by simp; omega
      unfold Own
      rw [hlen2]
      refine ⟨by rw [cellsB_length, hlen2, Nat.mul_one], Or.inr ⟨g, _, _, rfl, hB, setRow_heap w g cur _ _ _ hg, hcap, hmx, ?_, ?_⟩⟩
      · simp only [List.size_toArray, List.length_append, List.length_take, List.length_drop, Array.length_toList, cellsB_length]; omega
      · have hcell : cellsB (l.take k ++ m ++ l.drop (k + m.length)) = (cellsB l).take k ++ cellsB m ++ (cellsB l).drop (k + (cellsB m).length) := by
          rw [cellsB_append, cellsB_append, cellsB_length]
          simp only [cellsB, List.map_take, List.map_drop]
        rw [hcell, ← ht]
        simp only [Nat.mul_one]
        exact splice_take _ _ _ _ (by rw [cellsB_length]; omega) (by have := Array.length_toList (xs := cur); omega)
  obtain ⟨w', hr, h1, h2⟩ := key
  unfold Oper.wp execOp
  simp only [ho, resolve, invoke, builtin, Sem.run_bind, Sem.run_pure, Result.andThen_ok, List.map_toArray, List.map_cons, List.map_nil, hs, hx]
  rw [hr]
  exact h w' h1 h2

/-! ### garrethelp -/

theorem ret_bool {a b : Bool} (h : a = b) : Ending.returned (.bool a) = .returned (.bool b) := by rw [h]

theorem drewN_add (w : World) (a b : Nat) : (w.drewN a).drewN b = w.drewN (a + b) := World.drewN_drewN _ _ _
theorem Byts.drewN {w : World} {A : Option Addr} {l : List UInt8} (h : Byts w A l) (n : Nat) : Byts (w.drewN n) A l := h.below (below_drewN (Below.refl _ _) n)


set_option maxRecDepth 100000 in
set_option maxHeartbeats 400000 in
theorem help_bytes (A : Option Addr) (n c : Nat) (l : List UInt8) (A' : Option Addr) (n' c' : Nat) (l' : List UInt8) (w : World) (hb : Byts w A l) (hn : n = l.length) (hb' : Byts w A' l') (hn' : n' = l'.length) :
    Calls Try.prog 16 #[.slice A n c, .slice A' n' c'] w fun e w' => e = .returned (.bool (l == l')) ∧ w = w' := by
  subst hn
  subst hn'
  go_enter Try.func16, Try.ntmps16
  go_wp2_with (first
    | (refine wpList_wanted (by rfl) fun K hK => wp_convert_to_string _ rfl rfl hb rfl (hK _ _ ?_))
    | (refine wpList_wanted (by rfl) fun K hK => wp_convert_to_string _ rfl rfl hb' rfl (hK _ _ ?_)))
  go_ret
  exact ⟨by simp [strOf], rfl⟩

set_option maxHeartbeats 400000 in
theorem plain_byte_1 (x y : UInt8) (w : World) :
    Calls Try.prog 63 #[.int .u8 (x.toNat : Int), .int .u8 (y.toNat : Int)] w fun e w' => e = .returned (.bool (x == y)) ∧ w' = w := by
  go_enter Try.func63, Try.ntmps63
  go_wp2_with fail
  go_ret
  exact ⟨ret_bool (by rw [Bool.eq_iff_iff, beq_iff_eq, beq_iff_eq, ← UInt8.toNat_inj]; omega), rfl⟩

set_option maxHeartbeats 400000 in
theorem same_byte (A : Option Addr) (n c : Nat) (l : List UInt8) (A' : Option Addr) (n' c' : Nat) (l' : List UInt8) (w : World) (hb : Byts w A l) (hn : n = l.length) (hb' : Byts w A' l') (hn' : n' = l'.length) (hl : l.length ≤ maxLen) (hl' : l'.length ≤ maxLen) :
    Calls Try.prog 62 #[.slice A n c, .slice A' n' c', .func (.func 63) #[] #[]] w fun e w' => e = .returned (.bool (l == l')) ∧ ∃ m, w' = w.drewN m := by
  subst hn
  subst hn'
  unfold maxLen at hl hl'
  by_cases hne : l.length = l'.length
  · have hne1 : ((l.length : Int) != (l'.length : Int)) = false := by simp [hne]
    have Hne := Lib.hid hne
    have hle : l.length ≤ l'.length := by omega
    clear hne
    go_enter Try.func62, Try.ntmps62
    obtain ⟨w0, rfl⟩ : ∃ w0 : World, w0 = w := ⟨_, rfl⟩
    go_upto_region 4 with fail
    go_loopw [7] (fun v7 wr => ∃ k : Nat, k ≤ l.length ∧ v7 = .int .i64 k ∧ Hid (l.take k = l'.take k) ∧ Hid (∃ m, wr = w0.drewN m) ∧ Byts wr A l ∧ Byts wr A' l') (fun v7 _ => l.length - (intOf v7).toNat)
    case atStart => exact ⟨0, Nat.zero_le _, rfl, (rfl : ([] : List UInt8) = []), ⟨0, rfl⟩, hb, hb'⟩
    case round =>
      clear hb hb'
      obtain ⟨k, hk, rfl, hpre, hw, hb, hb'⟩ := hrel
      by_cases hlt : k < l.length
      · obtain ⟨b, off, rfl, hc⟩ := hb.at hlt
        obtain ⟨b', off', rfl, hc'⟩ := hb'.at (show k < l'.length by omega)
        have hk2 : (k : Int) < (l'.length : Int) := by omega
        have hk1 : (k : Int) < (l.length : Int) := by omega
        by_cases hxy : l[k] = l'[k]'(by omega)
        · have Hpre : Hid (l.take (k + 1) = l'.take (k + 1)) := by
            show _ = _
            rw [List.take_succ_eq_append_getElem hlt, List.take_succ_eq_append_getElem (by omega), hpre.out, hxy]
          have hxx : (l[k] == l'[k]'(by omega)) = true := by simpa using hxy
          have hbn := fun n => hb.drewN n
          have hbn' := fun n => hb'.drewN n
          have Hbn := Lib.hid hbn
          have Hbn' := Lib.hid hbn'
          clear hxy hpre hb hb' hbn hbn'
          generalize l[k] = x at *
          generalize l'[k]'(by omega) = y at *
          go_upto_region 6 with fail
          go_quiet ((go_at_call 63; exact Calls.quiet_of_same (plain_byte_1 _ _ _)))
          go_wp2_with fail
          go_roundw
          case rel => exact ⟨k + 1, by omega, by go_num, Hpre, (by obtain ⟨m, hm⟩ := hw.out; exact ⟨m + nq, by rw [hm, drewN_add]⟩), Hbn.out nq, Hbn'.out nq⟩
          case measure => simp [intOf]; omega
        · have hll : (l == l') = false := by
            rw [beq_eq_false_iff_ne]; rintro rfl; exact hxy rfl
          have Hll := Lib.hid hll
          clear hll
          have hxx : (l[k] == l'[k]'(by omega)) = false := by simpa using hxy
          have hbn := fun n => hb.drewN n
          have hbn' := fun n => hb'.drewN n
          have Hbn := Lib.hid hbn
          have Hbn' := Lib.hid hbn'
          clear hxy hpre hb hb' hbn hbn'
          generalize l[k] = x at *
          generalize l'[k]'(by omega) = y at *
          go_upto_region 6 with fail
          go_quiet ((go_at_call 63; exact Calls.quiet_of_same (plain_byte_1 _ _ _)))
          go_wp2_with fail
          go_ret
          exact ⟨ret_bool Hll.out.symm, (by obtain ⟨m, hm⟩ := hw.out; exact ⟨m + nq, by rw [hm, drewN_add]⟩)⟩
      · have hll : (l == l') = true := by
          have h1 := hpre.out
          have h2 := Hne.out
          rw [List.take_of_length_le (by omega), List.take_of_length_le (by omega)] at h1
          rw [h1]; simp
        have Hll := Lib.hid hll
        clear hll hpre
        go_wp2_with fail
        go_ret
        exact ⟨ret_bool Hll.out.symm, hw.out⟩
  · have hne1 : ((l.length : Int) != (l'.length : Int)) = true := by simp; omega
    have hll : (l == l') = false := by
      rw [beq_eq_false_iff_ne]; intro e; exact hne (by rw [e])
    rw [hll]
    go_enter Try.func62, Try.ntmps62
    go_wp2_with fail
    go_ret
    exact ⟨rfl, 0, rfl⟩

set_option maxHeartbeats 400000 in
theorem plain_byte (A : Option Addr) (n c : Nat) (l : List UInt8) (A' : Option Addr) (n' c' : Nat) (l' : List UInt8) (w : World) (hb : Byts w A l) (hn : n = l.length) (hb' : Byts w A' l') (hn' : n' = l'.length) (hl : l.length ≤ maxLen) (hl' : l'.length ≤ maxLen) :
    Calls Try.prog 55 #[.slice A n c, .slice A' n' c'] w fun e w' => e = .returned (.bool (l == l')) ∧ ∃ m, w' = w.drewN m := by
  have H := Lib.hid (same_byte A n c l A' n' c' l' w hb hn hb' hn' hl hl')
  clear hn hn' hb hb'
  go_enter Try.func55, Try.ntmps55
  go_wp2_with (go_at_call 62; refine H.out.mono ?_; rintro e w' ⟨rfl, hw⟩)
  go_ret
  exact ⟨rfl, hw⟩

/-- The spare room, filled so far. -/
def fills (f : UInt8) (k : Nat) : List UInt8 := List.replicate k f ++ List.replicate (3 - k) 0

theorem fills_length (f : UInt8) (k : Nat) (h : k ≤ 3) : (fills f k).length = 3 := by simp [fills]; omega

theorem fills_set (l : List UInt8) (f : UInt8) (k : Nat) (h : k < 3) : (l ++ fills f k).set (l.length + k) f = l ++ fills f (k + 1) := by
  rw [List.set_append_right _ _ (by omega), Nat.add_sub_cancel_left]
  congr 1
  have : k = 0 ∨ k = 1 ∨ k = 2 := by omega
  rcases this with rfl | rfl | rfl <;> rfl

set_option maxRecDepth 100000 in
set_option maxHeartbeats 1000000 in
theorem own_byte (A : Option Addr) (n c : Nat) (l : List UInt8) (f : UInt8) (w : World) (hb : Byts w A l) (hn : n = l.length) (hl : l.length ≤ 140737488355328) :
    Calls Try.prog 30 #[.slice A n c, .int .u8 (f.toNat : Int)] w
      (Ret fun v w' => ∃ g, v = .slice (some ⟨g, 0, none⟩) l.length (l.length + 3) ∧ Byts w' (some ⟨g, 0, none⟩) (l ++ [f, f, f]) ∧ Below w.heap.size w w' ∧ w.heap.size ≤ g) := by
  subst hn
  obtain ⟨w0, rfl⟩ : ∃ w0 : World, w0 = w := ⟨_, rfl⟩
  have hs0 := Nat.le_refl w0.heap.size
  go_enter Try.func30, Try.ntmps30
  go_upto_region 2 with (refine wpList_wanted (by rfl) fun K hK => wp_make_cap (B := w0.heap.size) (m := 0) (n := l.length + 3) _ _ rfl rfl rfl rfl rfl ?_ ?_ hs0 ?_; omega; omega; intro g w1 hg hown hbel1 hlt; refine hK _ _ ?_; clear hK K)
  have hb1 := hb.below hbel1
  clear hb
  go_upto_region 3 with (at_builtin; go_must (refine wpList_wanted (by rfl) fun K hK => wp_append_room _ _ rfl rfl rfl hown hb1 rfl ?_ ?_; omega; intro w2 hown2 hg2; refine hK _ _ ?_; clear hK K))
  have hbel2 := hbel1.grown hg2 hbel1.size (fun k e => by cases e; exact hg)
  have ef : (List.replicate (l.length + 3) (0 : UInt8)).take 0 ++ l ++ (List.replicate (l.length + 3) 0).drop (0 + l.length) = l ++ fills f 0 := by
    simp [fills]
  rw [ef] at hown2
  clear hown hg2 hbel1 hb1 hlt ef
  go_upto_region 5 with (refine wpList_wanted (by rfl) fun K hK => wp_slice_byts _ _ _ rfl 0 (l.length + 3) rfl (Or.inl ⟨rfl, rfl⟩) (Or.inr ⟨_, _, rfl, rfl⟩) ?_ ?_ ?_; omega; omega; intro A' h1 h2 h3; refine hK _ _ ?_; obtain rfl := h2 _ _ rfl (by omega); clear h1 h2 h3 hK K; (try simp only [Nat.sub_zero]))
  obtain ⟨wl, rfl⟩ : ∃ wl : World, wl = w2 := ⟨_, rfl⟩
  go_loopw [7] (fun v7 wr => ∃ k : Nat, k ≤ 3 ∧ v7 = .int .i64 ((l.length + k : Nat) : Int) ∧ Own wr w0.heap.size (.slice (some ⟨g, 0, none⟩) (l.length + 3) (l.length + 3)) (l ++ fills f k) ∧ Below w0.heap.size w0 wr)
    (fun v7 _ => l.length + 3 - (intOf v7).toNat)
  case atStart => exact ⟨0, by omega, rfl, hown2, hbel2⟩
  case round =>
    clear hown2 hbel2
    obtain ⟨k, hk, rfl, hown, hbel⟩ := hrel
    by_cases hlt : k < 3
    · have hc := hown.cell (i := l.length + k) (by rw [List.length_append, fills_length f k (by omega)]; omega)
      have hf := hown.frz (l.length + k)
      have hset := hown.set (l.length + k) f
      rw [fills_set l f k hlt] at hset
      have hbel' := hbel.setCell (p := ⟨g, l.length + k, none⟩) hg (.int .u8 (f.toNat : Int))
      clear hown hbel
      generalize (l ++ fills f k)[l.length + k]'(by rw [List.length_append, fills_length f k (by omega)]; omega) = old at *
      go_wp2_with fail
      go_roundw
      case rel => exact ⟨k + 1, by omega, by simp only [Value.int.injEq, true_and]; omega, hset, hbel'⟩
      case measure => simp [intOf]; omega
    · have hk3 : k = 3 := by omega
      subst hk3
      go_wp2_with fail
      go_ret
      refine Ret.mk ⟨g, rfl, ?_, hbel, hg⟩
      have := hown.read
      simpa [fills] using this

set_option maxRecDepth 100000 in
set_option maxHeartbeats 1000000 in
theorem kept_byte (A : Option Addr) (n c : Nat) (A' : Option Addr) (n' c' : Nat) (l : List UInt8) (f : UInt8) (w : World) (hb : Byts w A (l ++ [f, f, f])) (hn : n = l.length) (hc : l.length + 3 ≤ c) (hc' : c ≤ 9223372036854775807) (hb' : Byts w A' l) (hn' : n' = l.length) (hl : l.length ≤ 140737488355328) :
    Calls Try.prog 32 #[.slice A n c, .slice A' n' c', .int .u8 (f.toNat : Int)] w fun e w' => e = .returned (.bool true) ∧ ∃ m, w' = w.drewN m := by
  subst hn
  subst hn'
  have hb0 : Byts w A l := by have := hb.take l.length; simpa using this
  have hm : l.length ≤ maxLen := by unfold maxLen; omega
  have hll : (l == l) = true := by simp
  obtain ⟨w0, rfl⟩ : ∃ w0 : World, w0 = w := ⟨_, rfl⟩
  go_enter Try.func32, Try.ntmps32
  go_upto_region 3 with (go_at_call 55; refine (plain_byte A l.length c l A' l.length c' l w0 hb0 rfl hb' rfl hm hm).mono ?_; rintro e w1 ⟨rfl, hw1⟩; have Hw1 := Lib.hid hw1; clear hw1)
  have hb1 : Byts w1 A (l ++ [f, f, f]) := by obtain ⟨m, rfl⟩ := Hw1.out; exact hb.drewN m
  clear hb hb' hb0 hm
  go_upto_region 5 with (refine wpList_wanted (by rfl) fun K hK => wp_slice_byts _ _ _ rfl 0 (l.length + 3) rfl (Or.inl ⟨rfl, rfl⟩) (Or.inr ⟨_, _, rfl, rfl⟩) ?_ ?_ ?_; omega; omega; intro A2 h1 h2 h3; refine hK _ _ ?_; clear hK K; (try simp only [Nat.sub_zero]))
  have hb2 : Byts w1 A2 (l ++ [f, f, f]) := by
    have := h1 w1 _ hb1 (by simp) (by simp; omega)
    rwa [List.drop_zero, List.take_of_length_le (by simp)] at this
  clear h1 h2 h3 hb1
  go_loop [8] (fun v8 => ∃ k : Nat, k ≤ 3 ∧ v8 = .int .i64 ((l.length + k : Nat) : Int)) (fun v8 => l.length + 3 - (intOf v8).toNat)
  case atStart => exact ⟨0, by omega, rfl⟩
  case round =>
    obtain ⟨k, hk, rfl⟩ := hrel
    by_cases hlt : k < 3
    · obtain ⟨b, off, rfl, hcell⟩ := hb2.at (k := l.length + k) (by simp; omega)
      have hg : (l ++ [f, f, f])[l.length + k]'(by simp; omega) = f := by
        rw [List.getElem_append_right (by omega)]
        simp only [Nat.add_sub_cancel_left]
        have : k = 0 ∨ k = 1 ∨ k = 2 := by omega
        rcases this with rfl | rfl | rfl <;> rfl
      rw [hg] at hcell
      clear hg hb2
      go_wp2_with fail
      go_round
      case rel => exact ⟨k + 1, by omega, by simp only [Value.int.injEq, true_and]; omega⟩
      case measure => simp [intOf]; omega
    · go_wp2_with fail
      go_ret
      exact ⟨rfl, Hw1.out⟩
end Go.Proofs.Ytionjddcahgpkaa
