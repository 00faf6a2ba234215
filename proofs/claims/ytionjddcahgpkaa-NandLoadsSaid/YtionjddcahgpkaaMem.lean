/- Laws on slices of bytes, for every operation of the walk that meets them: slicing, copying, conversions between bytes and texts. -/
import Derived.Test.YtionjddcahgpkaaOwn
import Derived.Laws.CopyOwn
import Derived.Laws.CopyRow
import Derived.Laws.IdiomStrings
import Derived.Laws.BytesArg
import Derived.Lib.ConvBytes
import Derived.Lib.SlBytesConst
set_option linter.unusedVariables false
set_option maxRecDepth 100000
namespace Go.Proofs.Ytionjddcahgpkaa
open Go.RowKit

theorem step_by {P : Program} {ops : Array Oper} {o : Oper} {a : Act} {w : World} {K : Act → World → Prop} {Q : Exit → Act → World → Prop} {E : Prop} (hw : Region.wanted o (yielded ops a.tmps) = true) (h : o.wp P a w K Q) :
    if Region.wanted o (yielded ops a.tmps) = true then Oper.wp P o a w K Q else E := by
  rw [if_pos hw]; exact h

/-! ### slicing -/

theorem run_slice_byts {w : World} {A : Option Addr} {n c L H : Nat} (lo hi : Option Value) (hlo : (lo = none ∧ L = 0) ∨ ∃ k, lo = some (.int k (L : Int))) (hhi : (hi = none ∧ H = n) ∨ ∃ k, hi = some (.int k (H : Int)))
    (hLH : L ≤ H) (hHc : H ≤ c) :
    (Instr.sliceAt 33 (.slice A n c) lo hi none).run Try.prog w = .ok (.slice (if c = L then A else A.map (·.add (L * 1))) (H - L) (c - L)) w := by
  obtain ⟨i0, hi0, hz0, hz1, hz2⟩ := info_parts info_u8
  rcases hlo with ⟨rfl, rfl⟩ | ⟨k, rfl⟩ <;> rcases hhi with ⟨rfl, rfl⟩ | ⟨k', rfl⟩ <;>
    simp [Instr.sliceAt, Instr.slice, run_underlying Try.underlying33, Instr.sliceBounds, Instr.sliceBound, sizeOf, typeInfo, hi0, hz1, asIntOf, hLH, hHc]

theorem Byts.sliced {w : World} {A : Option Addr} {l : List UInt8} (h : Byts w A l) {c L H : Nat} (hH : H ≤ l.length) (hc : l.length ≤ c) :
    Byts w (if c = L then A else A.map (·.add (L * 1))) ((l.take H).drop L) := by
  by_cases e : c = L
  · left
    apply List.eq_nil_of_length_eq_zero
    simp; omega
  · rw [if_neg e]
    rcases h with rfl | ⟨b, off, rfl, hc⟩
    · left; simp
    · simp only [Option.map_some, Nat.mul_one, add_none]
      exact Byts.drop (Byts.take (Or.inr ⟨b, off, rfl, hc⟩) H) L

/-- A slice expression x[lo:hi], either bound left out or not. -/
theorem wp_slice_byts {o : Oper} {a : Act} {w : World} {K : Act → World → Prop} {Q : Exit → Act → World → Prop} (x : Operand) (lo hi : Option Operand) (ho : o.op = .slice 33 x lo hi none)
    {A : Option Addr} {n c : Nat} (L H : Nat) (hx : a.eval x = .slice A n c) (hlo : (lo = none ∧ L = 0) ∨ ∃ y k, lo = some y ∧ a.eval y = .int k (L : Int)) (hhi : (hi = none ∧ H = n) ∨ ∃ y k, hi = some y ∧ a.eval y = .int k (H : Int))
    (hLH : L ≤ H) (hHc : H ≤ c)
    (h : ∀ A', (∀ w l, Byts w A l → H ≤ l.length → l.length ≤ c → Byts w A' ((l.take H).drop L)) → (∀ g off, A = some ⟨g, off, none⟩ → L < c → A' = some ⟨g, off + L, none⟩) → (A = none → A' = none) →
      K (a.put o.dst (.slice A' (H - L) (c - L))) w) : o.wp Try.prog a w K Q := by
  have hr := run_slice_byts (w := w) (A := A) (n := n) (c := c) (L := L) (H := H) (lo.map a.eval) (hi.map a.eval)
    (hlo.imp (fun ⟨h1, h2⟩ => ⟨by rw [h1]; rfl, h2⟩) (fun ⟨y, k, h1, h2⟩ => ⟨k, by rw [h1, Option.map_some, h2]⟩))
    (hhi.imp (fun ⟨h1, h2⟩ => ⟨by rw [h1]; rfl, h2⟩) (fun ⟨y, k, h1, h2⟩ => ⟨k, by rw [h1, Option.map_some, h2]⟩)) hLH hHc
  unfold Oper.wp execOp
  simp only [ho, hx, Sem.run_bind, Option.map_none]
  rw [hr]
  refine h _ (fun w l hb h1 h2 => hb.sliced h1 h2) (fun g off e h1 => ?_) (fun e => ?_)
  · rw [if_neg (by omega), e, Option.map_some, Nat.mul_one, add_none]
  · rw [e]; split <;> rfl

/-! ### copying -/

theorem splice_take {α : Type} (cur x : List α) (off N : Nat) (h1 : off + x.length ≤ N) (h2 : N ≤ cur.length) :
    (cur.take off ++ x ++ cur.drop (off + x.length)).take N = (cur.take N).take off ++ x ++ (cur.take N).drop (off + x.length) := by
  have e1 : (cur.take off ++ x).length = off + x.length := by simp; omega
  rw [List.take_append, e1, List.take_of_length_le (l := cur.take off ++ x) (by omega), List.take_take, List.drop_take, Nat.min_eq_left (by omega)]

/-- copy into a row of the call's own. -/
theorem wp_copy_byts {o : Oper} {a : Act} {w : World} {K : Act → World → Prop} {Q : Exit → Act → World → Prop} (d s : Operand)
    (ho : o.op = .call { callee := .builtin .copy, args := #[d, s], argTypes := #[33, 33] })
    {B : Nat} {v : Value} {l m : List UInt8} {A' A : Option Addr} {n c n' c' : Nat} (off : Nat) (hd : a.eval d = .slice A' n' c') (hs : a.eval s = .slice A n c)
    (hown : Own w B v l) (hm : Byts w A m) (hn : n = m.length) (hA' : 0 < n' → ∃ g N C, v = .slice (some ⟨g, 0, none⟩) N C ∧ A' = some ⟨g, off, none⟩) (hfit : off + n' ≤ l.length)
    (h : ∀ w', Own w' B v (l.take off ++ m.take n' ++ l.drop (off + min m.length n')) → w.grownBy w' v.ownBlock → K (a.put o.dst (.int .i64 (min m.length n' : Nat))) w') : o.wp Try.prog a w K Q := by
  subst hn
  have hu := Try.underlying33
  have hsz : (Try.prog.info? 5).map (·.size) = some 1 := by
    obtain ⟨i0, hi0, hz0, hz1, hz2⟩ := info_parts info_u8
    rw [hi0, Option.map_some, hz1]
  have key : ∃ w', (Builtin.copy_ #[33, 33] o.type #[.slice A' n' c', .slice A m.length c]).run Try.prog w = .ok (goInt ((min m.length n' : Nat) : Int)) w' ∧
      Own w' B v (l.take off ++ m.take n' ++ l.drop (off + min m.length n')) ∧ w.grownBy w' v.ownBlock := by
    by_cases h0 : Nat.min m.length n' = 0
    · refine ⟨w, ?_, ?_, ⟨rfl, rfl, rfl, Nat.le_refl _, fun _ _ _ => rfl⟩⟩
      · rw [run_copy_none (P := Try.prog) w _ _ _ _ A' A n' c' m.length c hu hsz h0]
        have : min m.length n' = 0 := h0
        rw [this]; rfl
      · have h0 : min m.length n' = 0 := h0
        rw [h0, Nat.add_zero]
        have e : m.take n' = [] := by apply List.eq_nil_of_length_eq_zero; rw [List.length_take, Nat.min_comm]; exact h0
        rw [e, List.append_nil, List.take_append_drop]
        exact hown
    · have h0 : 0 < min m.length n' := Nat.pos_of_ne_zero h0
      obtain ⟨g, N, C, rfl, rfl⟩ := hA' (Nat.lt_of_lt_of_le h0 (Nat.min_le_right _ _))
      rcases hm with rfl | ⟨b, o', rfl, hc⟩
      · simp at h0
      obtain ⟨hlen, hf⟩ := hown
      rcases hf with ⟨e, _⟩ | ⟨g', cap, cur, e, hB, hg, hcap, hmx, hcs, ht⟩
      · cases e
      cases e
      have hl2 : (cellsB (m.take n')).length = Nat.min m.length n' := by rw [cellsB_length, List.length_take]; exact Nat.min_comm _ _
      have hone : ∀ v ∈ cellsB (m.take n'), v.oneCell' = true := fun u hu => by unfold cellsB at hu; obtain ⟨x, _, rfl⟩ := List.mem_map.1 hu; rfl
      have hm2 : min m.length n' = Nat.min m.length n' := rfl
      have hfit2 : off + (cellsB (m.take n')).length ≤ cur.size := by rw [hl2, hcs, ← hm2]; omega
      have hr := run_copy_row (P := Try.prog) w 33 33 o.type 5 g off n' c' ⟨b, o', none⟩ m.length c cur 5 (cellsB (m.take n')) hu hsz hg hl2
        (fun j v hv => by
          obtain ⟨hj, rfl⟩ := cellsB_get _ j v hv
          rw [add_none]
          simp only [List.length_take] at hj
          rw [hc j (by omega), List.getElem_take]) hfit2 hone
      refine ⟨w.setRow g (cur.toList.take off ++ cellsB (m.take n') ++ cur.toList.drop (off + (cellsB (m.take n')).length)).toArray, hr.trans (by rw [hl2]), ?_, ⟨rfl, rfl, rfl, by simp, fun k _ hk => setRow_other w g k _ (fun e => hk (by rw [e]; rfl))⟩⟩
      have hlen2 : (l.take off ++ m.take n' ++ l.drop (off + min m.length n')).length = l.length := by simp; omega
      unfold Own
      rw [hlen2]
      refine ⟨by rw [cellsB_length, hlen2, Nat.mul_one], Or.inr ⟨g, C, _, rfl, hB, setRow_heap w g cur _ _ _ hg, hcap, hmx, ?_, ?_⟩⟩
      · simp only [List.size_toArray, List.length_append, List.length_take, List.length_drop, Array.length_toList]; omega
      · have hcell : cellsB (l.take off ++ m.take n' ++ l.drop (off + min m.length n')) = (cellsB l).take off ++ cellsB (m.take n') ++ (cellsB l).drop (off + (cellsB (m.take n')).length) := by
          rw [cellsB_append, cellsB_append, hl2, ← hm2]
          simp only [cellsB, List.map_take, List.map_drop]
        rw [hcell, ← ht]
        simp only [Nat.mul_one]
        exact splice_take _ _ _ _ (by rw [hl2, ← hm2]; omega) (by have := Array.length_toList (xs := cur); omega)
  obtain ⟨w', hr, h1, h2⟩ := key
  unfold Oper.wp execOp
  simp only [ho, resolve, invoke, builtin, Sem.run_bind, Sem.run_pure, Result.andThen_ok, List.map_toArray, List.map_cons, List.map_nil, hd, hs]
  rw [hr]
  exact h w' h1 h2

/-! ### conversions -/

/-- A text out of bytes. -/
def strOf (l : List UInt8) : ByteArray := ⟨l.toArray⟩

theorem strOf_toList (l : List UInt8) : (strOf l).data.toList = l := rfl

theorem wp_convert_to_string {o : Oper} {a : Act} {w : World} {K : Act → World → Prop} {Q : Exit → Act → World → Prop} (x : Operand) (ho : o.op = .convert 33 9 x)
    {A : Option Addr} {n c : Nat} {l : List UInt8} (hx : a.eval x = .slice A n c) (hb : Byts w A l) (hn : n = l.length)
    (h : K (a.put o.dst (.string (strOf l))) w) : o.wp Try.prog a w K Q := by
  subst hn
  have hr : (convert 33 9 (.slice A l.length c)).run Try.prog w = .ok (.string (strOf l)) w := by
    rcases hb with rfl | ⟨b, off, rfl, hc⟩
    · cases A with
      | none => exact run_convert_bytes_nil (P := Try.prog) (w := w) _ _ Try.underlying33 Try.underlying5 _ _ _ Try.underlying9
      | some ad => exact run_convert_bytes_back w _ _ _ ad c [] Try.underlying33 Try.underlying5 Try.underlying9 (fun j hj => by simp at hj)
    · exact run_convert_bytes_back w _ _ _ ⟨b, off, none⟩ c l Try.underlying33 Try.underlying5 Try.underlying9 (fun j hj => by rw [add_none]; exact hc j hj)
  unfold Oper.wp execOp
  simp only [ho, hx, Sem.run_bind]
  rw [hr]
  exact h

/-- []byte of a constant text: behind one block, behind two. -/
theorem bytes_const (w : World) (C : Array Value) (n c : Nat) :
    (convert 33 33 (.slice (some ⟨w.heap.size, 0, none⟩) n c)).run Try.prog (w.alloc (.cells C 5)) = .ok (.slice (some ⟨w.heap.size, 0, none⟩) n c) (w.alloc (.cells C 5 (C.size, C.size + 1))) :=
  Lib.run_convert_bytes_const w 33 5 C n c Try.underlying33 Try.underlying5
theorem bytes_const2 (w : World) (o : Obj) (C : Array Value) (n c : Nat) :
    (convert 33 33 (.slice (some ⟨w.heap.size + 1, 0, none⟩) n c)).run Try.prog ((w.alloc o).alloc (.cells C 5)) = .ok (.slice (some ⟨w.heap.size + 1, 0, none⟩) n c) ((w.alloc o).alloc (.cells C 5 (C.size, C.size + 1))) := by
  have h := bytes_const (w.alloc o) C n c
  have e : (w.alloc o).heap.size = w.heap.size + 1 := by simp
  rw [e] at h
  exact h

theorem wp_convert_to_bytes {o : Oper} {a : Act} {w : World} {K : Act → World → Prop} {Q : Exit → Act → World → Prop} (x : Operand) (ho : o.op = .convert 9 33 x)
    {s : ByteArray} (hx : a.eval x = .string s)
    (h : ∀ g c w', w.heap.size ≤ g → s.size ≤ c → Byts w' (some ⟨g, 0, none⟩) s.data.toList → Below w.heap.size w w' → g < w'.heap.size → K (a.put o.dst (.slice (some ⟨g, 0, none⟩) s.size c)) w') : o.wp Try.prog a w K Q := by
  have hr := Lib.run_convert_string_bytes (P := Try.prog) w 9 33 5 s Try.underlying9 Try.underlying33 Try.underlying5
  unfold Oper.wp execOp
  simp only [ho, hx, Sem.run_bind]
  rw [hr]
  refine h _ _ _ (Nat.le_refl _) (grownCap_ge _ _ _ _) (Or.inr ⟨_, _, rfl, fun i hi => ?_⟩) ⟨?_, ?_, ?_, ?_, fun k hk => Lib.bytesWorld_at_old w _ s k hk⟩ ?_
  · have hi' : i < s.size := by simpa using hi
    rw [Nat.zero_add, Lib.bytesWorld_cell w _ s i hi', List.getD_eq_getElem?_getD, List.getElem?_eq_getElem hi]
    rfl
  · rfl
  · rfl
  · rfl
  · rw [Lib.bytesWorld_size]; omega
  · rw [Lib.bytesWorld_size]; omega

end Go.Proofs.Ytionjddcahgpkaa
