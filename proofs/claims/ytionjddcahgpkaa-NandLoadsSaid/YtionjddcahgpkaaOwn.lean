/- Words on slices of bytes that a call has made itself: append and store, with what they leave as it was. -/
import Derived.Test.YtionjddcahgpkaaBase
import Derived.Test.YtionjddcahgpkaaProg
import Derived.Laws.AppendOwnNone
import Derived.Deep.AppendLies
import Derived.Maps.AppendAt
import Derived.Laws.BitsAllLaws
set_option linter.unusedVariables false
set_option maxRecDepth 100000
namespace Go.Proofs.Ytionjddcahgpkaa
open Go.RowKit

theorem info_u8 : (Try.prog.info? 5).map (fun i => (i.zero, i.size, i.bytes)) = some (some (.int .u8 0), 1, 1) := by kernel_rfl

/-- The cells of a list of bytes. -/
def cellsB (l : List UInt8) : List Value := l.map fun x => .int .u8 (x.toNat : Int)

theorem cellsB_length (l : List UInt8) : (cellsB l).length = l.length := by simp [cellsB]
theorem cellsB_append (l m : List UInt8) : cellsB (l ++ m) = cellsB l ++ cellsB m := by simp [cellsB]
theorem cellsB_get (l : List UInt8) (j : Nat) (u : Value) (h : (cellsB l)[j]? = some u) : ∃ hj : j < l.length, u = .int .u8 (l[j].toNat : Int) := by
  unfold cellsB at h
  rw [List.getElem?_map] at h
  cases hx : l[j]? with
  | none => rw [hx] at h; cases h
  | some x =>
    rw [hx] at h
    obtain ⟨hj, hv⟩ := List.getElem?_eq_some_iff.1 hx
    refine ⟨hj, ?_⟩
    cases h
    rw [hv]

/-- The value owns, from block B on, a row that holds just these bytes at its head. -/
def Own (w : World) (B : Nat) (v : Value) (l : List UInt8) : Prop := w.ownsRow B 5 1 v l.length (cellsB l)

theorem Own.nil (w : World) (B : Nat) : Own w B (.slice none 0 0) [] := World.ownsRow_nil _ _ _ _

theorem Own.byts {w : World} {B : Nat} {v : Value} {l : List UInt8} (h : Own w B v l) :
    ∃ A c, v = .slice A l.length c ∧ (l.length ≤ c ∧ c ≤ maxLen) ∧ Byts w A l ∧ ∀ x, A = some x → B ≤ x.block ∧ x = ⟨x.block, 0, none⟩ ∧ w.frozen? ⟨x.block, 0, none⟩ = false := by
  obtain ⟨hl, h⟩ := h
  rcases h with ⟨rfl, hn⟩ | ⟨g, cap, cur, rfl, hB, hg, hc, hm, hs, ht⟩
  · have : l = [] := List.eq_nil_of_length_eq_zero hn
    subst this
    exact ⟨none, 0, rfl, by simp, Or.inl rfl, fun x hx => by cases hx⟩
  · refine ⟨_, _, rfl, ⟨hc, hm⟩, ?_, fun x hx => ?_⟩
    · refine Or.inr ⟨g, 0, rfl, fun i hi => ?_⟩
      have h1 : (cellsB l)[i]? = some (.int .u8 (l[i].toNat : Int)) := by unfold cellsB; simp [hi]
      rw [← ht, List.getElem?_take] at h1
      split at h1
      · unfold World.cell?
        simp only [hg]
        simpa using h1
      · cases h1
    · cases hx
      exact ⟨hB, rfl, by unfold World.frozen?; simp [hg]⟩

theorem Own.grown {w w' : World} {B : Nat} {v : Value} {l : List UInt8} {row : Option Nat} (h : Own w B v l) (hg : w.grownBy w' row) (hne : v.ownBlock = none ∨ v.ownBlock ≠ row) : Own w' B v l :=
  World.ownsRow.kept h hg hne

theorem Own.mono {w : World} {B B' : Nat} {v : Value} {l : List UInt8} (h : Own w B v l) (hB : B' ≤ B) : Own w B' v l := by
  obtain ⟨h1, h2⟩ := h
  refine ⟨h1, h2.imp id ?_⟩
  rintro ⟨g, cap, cur, h1, h2, h3⟩
  exact ⟨g, cap, cur, h1, Nat.le_trans hB h2, h3⟩

theorem Own.below {w w' : World} {B : Nat} {v : Value} {l : List UInt8} (h : Own w B v l) (hb : Below w.heap.size w w') : Own w' B v l :=
  World.ownsRow.kept (row := none) h ⟨hb.os, hb.tape, hb.output, hb.size, fun k hk _ => hb.block k hk⟩ (by cases hv : v.ownBlock <;> simp)

theorem Own.lt {w : World} {B : Nat} {v : Value} {l : List UInt8} (h : Own w B v l) {k : Nat} (hk : v.ownBlock = some k) : B ≤ k ∧ k < w.heap.size := World.ownsRow.lt h k hk

/-- A row that is not empty: where it lies, and that it may be read and written. -/
theorem Own.form {w : World} {B : Nat} {v : Value} {l : List UInt8} (h : Own w B v l) (hl : 0 < l.length) :
    ∃ g c, v = .slice (some ⟨g, 0, none⟩) l.length c ∧ (l.length ≤ c ∧ c ≤ maxLen) ∧ B ≤ g ∧ g < w.heap.size ∧ (∀ i, (hi : i < l.length) → w.cell? ⟨g, i, none⟩ = some (.int .u8 (l[i].toNat : Int))) ∧ (∀ i, w.frozen? ⟨g, i, none⟩ = false) := by
  obtain ⟨g, c, rfl, h1, h2⟩ := World.ownsRow.form h hl
  obtain ⟨A, c', e, hc, hb, hf⟩ := h.byts
  cases e
  refine ⟨g, c, rfl, hc, h1, h2, fun i hi => ?_, fun i => ?_⟩
  · obtain ⟨b, off, e, hc⟩ := hb.at hi
    cases e
    simpa using hc
  · obtain ⟨_, h⟩ := h
    rcases h with ⟨e, _⟩ | ⟨g', cap, cur, e, hB, hg, _⟩
    · cases e
    · cases e
      unfold World.frozen?
      simp [hg]

theorem Own.len {w : World} {B : Nat} {A : Option Addr} {n c : Nat} {l : List UInt8} (h : Own w B (.slice A n c) l) : n = l.length := by
  obtain ⟨A, c', e, _⟩ := h.byts
  cases e; rfl

theorem Own.read {w : World} {B : Nat} {A : Option Addr} {n c : Nat} {l : List UInt8} (h : Own w B (.slice A n c) l) : Byts w A l := by
  obtain ⟨A, c', e, _, hb, _⟩ := h.byts
  cases e; exact hb

theorem Own.cell {w : World} {B g n c : Nat} {l : List UInt8} (h : Own w B (.slice (some ⟨g, 0, none⟩) n c) l) {i : Nat} (hi : i < l.length) :
    w.cell? ⟨g, i, none⟩ = some (.int .u8 (l[i].toNat : Int)) := by
  simpa using h.read.cell hi

theorem Own.frz {w : World} {B g n c : Nat} {l : List UInt8} (h : Own w B (.slice (some ⟨g, 0, none⟩) n c) l) (i : Nat) : w.frozen? ⟨g, i, none⟩ = false := by
  obtain ⟨_, h⟩ := h
  rcases h with ⟨e, _⟩ | ⟨g', cap, cur, e, hB, hg, _⟩
  · cases e
  · cases e
    unfold World.frozen?
    simp [hg]

/-- A store into it. -/
theorem Own.set {w : World} {B g n c : Nat} {l : List UInt8} (h : Own w B (.slice (some ⟨g, 0, none⟩) n c) l) (i : Nat) (x : UInt8) :
    Own (w.setCell ⟨g, i, none⟩ (.int .u8 (x.toNat : Int))) B (.slice (some ⟨g, 0, none⟩) n c) (l.set i x) := by
  have hn : n = l.length := by
    obtain ⟨A, c', e, _⟩ := h.byts
    cases e; rfl
  subst hn
  have := (World.ownsRow.stored (w := w) h i (.int .u8 (x.toNat : Int))).1
  unfold Own
  rw [List.length_set]
  have e : cellsB (l.set i x) = (cellsB l).set i (.int .u8 (x.toNat : Int)) := by unfold cellsB; rw [List.map_set]
  rw [e]
  exact this

/-- A store elsewhere. -/
theorem Own.far {w : World} {B : Nat} {v : Value} {l : List UInt8} (h : Own w B v l) (a : Addr) (u : Value) (hne : v.ownBlock ≠ some a.block) : Own (w.setCell a u) B v l :=
  h.grown (row := some a.block) ⟨rfl, rfl, rfl, by simp [World.setCell], fun k _ hk => heap_setCell_other w a k u (fun e => hk (by rw [e]))⟩ (Or.inr hne)

theorem Byts.far {w : World} {A : Option Addr} {l : List UInt8} (h : Byts w A l) (a : Addr) (u : Value) (hne : ∀ x, A = some x → x.block ≠ a.block) : Byts (w.setCell a u) A l := by
  rcases h with h | ⟨b, off, hx, hc⟩
  · exact Or.inl h
  · refine Or.inr ⟨b, off, hx, fun i hi => ?_⟩
    rw [← hc i hi]
    exact World.cell?_of_block (a := ⟨b, off + i, none⟩) (heap_setCell_other w a b u (hne ⟨b, off, none⟩ hx))

theorem xor_u8 (a b : UInt8) : bits .xor .u8 (a.toNat : Int) (b.toNat : Int) = ((a ^^^ b).toNat : Int) := by
  rw [u8_xor_nat _ _ a.toNat_lt b.toNat_lt, UInt8.toNat_xor]
theorem or_u8 (a b : UInt8) : bits .or .u8 (a.toNat : Int) (b.toNat : Int) = ((a ||| b).toNat : Int) := by
  rw [u8_or_nat _ _ a.toNat_lt b.toNat_lt, UInt8.toNat_or]
theorem and_u8 (a b : UInt8) : bits .and .u8 (a.toNat : Int) (b.toNat : Int) = ((a &&& b).toNat : Int) := by
  rw [u8_and_nat _ _ a.toNat_lt b.toNat_lt, UInt8.toNat_and]

theorem below_alloc (w : World) (o : Obj) : Below w.heap.size w (w.alloc o) := (Below.refl _ _).alloc (Nat.le_refl _) o
theorem Byts.alloc {w : World} {A : Option Addr} {l : List UInt8} (h : Byts w A l) (o : Obj) : Byts (w.alloc o) A l := h.below (below_alloc w o)
theorem Own.alloc {w : World} {B : Nat} {v : Value} {l : List UInt8} (h : Own w B v l) (o : Obj) : Own (w.alloc o) B v l := h.below (below_alloc w o)
theorem byts_one (w : World) (x : UInt8) : Byts (w.alloc (.cells #[.int .u8 (x.toNat : Int)] 5)) (some ⟨w.heap.size, 0, none⟩) [x] := by
  refine Or.inr ⟨_, _, rfl, fun i hi => ?_⟩
  obtain rfl : i = 0 := by simp at hi; omega
  exact cell_one_new _ _ _ 0 _ rfl

theorem Byts.grown {w w' : World} {A : Option Addr} {l : List UInt8} {row : Option Nat} (h : Byts w A l) (hg : w.grownBy w' row) (hne : ∀ x, A = some x → some x.block ≠ row) : Byts w' A l := by
  rcases h with h | ⟨b, off, hx, hc⟩
  · exact Or.inl h
  · refine Or.inr ⟨b, off, hx, fun i hi => ?_⟩
    exact hg.cell (hc i hi) (hne ⟨b, off, none⟩ hx)

/-- append: bytes behind bytes of the call's own. -/
theorem run_append_byts {w : World} {B : Nat} {v : Value} {l m : List UInt8} {A : Option Addr} {n c : Nat} (ty : TypeId) (hown : Own w B v l) (hm : Byts w A m) (hn : n = m.length)
    (hlen : l.length + m.length ≤ 140737488355328) (hB : B ≤ w.heap.size) :
    ∃ v' w', (Builtin.append_ #[33, 33] ty #[v, .slice A n c]).run Try.prog w = .ok v' w' ∧ Own w' B v' (l ++ m) ∧ w.grownBy w' v.ownBlock ∧ (v'.ownBlock = v.ownBlock ∨ v'.ownBlock = some w.heap.size) := by
  obtain ⟨i0, hi, hz0, hz1, hz2⟩ := info_parts info_u8
  subst hn
  rcases hm with rfl | ⟨b, off, rfl, hc⟩
  · have hr : (Builtin.append_ #[33, 33] ty #[v, .slice A 0 c]).run Try.prog w = .ok v w := by
      obtain ⟨_, h⟩ := hown
      rcases h with ⟨rfl, hn⟩ | ⟨g, cap, cur, rfl, hB, hg, hc, hm, hs, ht⟩
      · cases A <;> simp [Builtin.append_, run_underlying Try.underlying33, sizeOf, typeInfo, hi, Builtin.lenOf, Builtin.firstCells, loadCells, loadCellsFrom]
      · cases A <;> simp [Builtin.append_, run_underlying Try.underlying33, sizeOf, typeInfo, hi, Builtin.lenOf, Builtin.firstCells, loadCells, loadCellsFrom, hc, storeCells]
    exact ⟨v, w, hr, by simpa using hown, ⟨rfl, rfl, rfl, Nat.le_refl _, fun _ _ _ => rfl⟩, Or.inl rfl⟩
  · obtain ⟨v', w', hr, h1, h2, _, h3⟩ := run_append_own_at (P := Try.prog) w B 33 ty 5 i0 (.int .u8 0) 1 1 Try.underlying33 hi hz0 hz1 hz2 rfl (by omega) v l.length (cellsB l) hown ⟨b, off, none⟩ m.length c (cellsB m)
      (by rw [cellsB_length]; omega) (fun j u hu => by obtain ⟨hj, rfl⟩ := cellsB_get m j u hu; rw [add_none]; exact hc j hj)
      (fun u hu => by unfold cellsB at hu; obtain ⟨x, _, rfl⟩ := List.mem_map.1 hu; rfl) (by unfold maxLen; omega) (by omega) hB
    refine ⟨v', w', hr, ?_, h2, ?_⟩
    · unfold Own; rw [cellsB_append, List.length_append]; exact h1
    · exact h3

theorem grown_below {w w' : World} {row : Option Nat} {B : Nat} (hg : w.grownBy w' row) (hB : B ≤ w.heap.size) (hr : ∀ k, row = some k → B ≤ k) : Below B w w' :=
  (Below.refl B w).grown hg hB hr

theorem wp_append_byts {o : Oper} {a : Act} {w : World} {K : Act → World → Prop} {Q : Exit → Act → World → Prop} (s x : Operand)
    (ho : o.op = .call { callee := .builtin .append, args := #[s, x], argTypes := #[33, 33] })
    {B : Nat} {v : Value} {l m : List UInt8} {A : Option Addr} {n c : Nat} (hs : a.eval s = v) (hx : a.eval x = .slice A n c) (hown : Own w B v l) (hm : Byts w A m) (hn : n = m.length)
    (hlen : l.length + m.length ≤ 140737488355328) (hB : B ≤ w.heap.size)
    (h : ∀ v' w', Own w' B v' (l ++ m) → w.grownBy w' v.ownBlock → (v'.ownBlock = v.ownBlock ∨ v'.ownBlock = some w.heap.size) → K (a.put o.dst v') w') : o.wp Try.prog a w K Q := by
  obtain ⟨v', w', hr, h1, h2, h3⟩ := run_append_byts o.type hown hm hn hlen hB
  unfold Oper.wp execOp
  simp only [ho, resolve, invoke, builtin, Sem.run_bind, Sem.run_pure, Result.andThen_ok, List.map_toArray, List.map_cons, List.map_nil, hs, hx]
  rw [hr]
  exact h v' w' h1 h2 h3

theorem wpList_wanted {P : Program} {ops : Array Oper} {rest : List Oper} {o : Oper} {a : Act} {w : World} {Q : Exit → Act → World → Prop} (hw : Region.wanted o (yielded ops a.tmps) = true)
    (h : ∀ K : Act → World → Prop, (∀ a w, wpList P ops Q rest a w → K a w) → o.wp P a w K Q) : wpList P ops Q (o :: rest) a w :=
  wpList_step fun K hK => by rw [if_pos hw]; exact h K hK

theorem wpList_append_byts {ops : Array Oper} {rest : List Oper} {o : Oper} {a : Act} {w : World} {Q : Exit → Act → World → Prop} (hw : Region.wanted o (yielded ops a.tmps) = true) (s x : Operand)
    (ho : o.op = .call { callee := .builtin .append, args := #[s, x], argTypes := #[33, 33] })
    {B : Nat} {v : Value} {l m : List UInt8} {A : Option Addr} {n c : Nat} (hs : a.eval s = v) (hx : a.eval x = .slice A n c) (hown : Own w B v l) (hm : Byts w A m) (hn : n = m.length)
    (hlen : l.length + m.length ≤ 140737488355328) (hB : B ≤ w.heap.size)
    (h : ∀ v' w', Own w' B v' (l ++ m) → w.grownBy w' v.ownBlock → (v'.ownBlock = v.ownBlock ∨ v'.ownBlock = some w.heap.size) → wpList Try.prog ops Q rest (a.put o.dst v') w') : wpList Try.prog ops Q (o :: rest) a w :=
  wpList_wanted hw fun _ hK => wp_append_byts s x ho hs hx hown hm hn hlen hB fun v' w' h1 h2 h3 => hK _ _ (h v' w' h1 h2 h3)

/-- append to nil: a copy. -/
theorem wp_clone_byts {o : Oper} {a : Act} {w : World} {K : Act → World → Prop} {Q : Exit → Act → World → Prop} (x : Operand)
    (ho : o.op = .call { callee := .builtin .append, args := #[.const (.slice none 0 0), x], argTypes := #[33, 33] })
    {B : Nat} {m : List UInt8} {A : Option Addr} {n c : Nat} (hx : a.eval x = .slice A n c) (hm : Byts w A m) (hn : n = m.length)
    (hlen : m.length ≤ 140737488355328) (hB : B ≤ w.heap.size)
    (h : ∀ v' w', Own w' B v' m → Below w.heap.size w w' → (∀ g, v'.ownBlock = some g → g = w.heap.size) → K (a.put o.dst v') w') : o.wp Try.prog a w K Q :=
  wp_append_byts (.const (.slice none 0 0)) x ho (v := .slice none 0 0) (l := []) rfl hx (Own.nil _ _) hm hn (by simpa using hlen) hB fun v' w' h1 h2 h3 =>
    h v' w' (by simpa using h1) (grown_below h2 (Nat.le_refl _) (fun k e => by cases e)) (fun g hg => by rw [hg] at h3; simpa [Value.ownBlock] using h3)

theorem wpList_clone_byts {ops : Array Oper} {rest : List Oper} {o : Oper} {a : Act} {w : World} {Q : Exit → Act → World → Prop} (hw : Region.wanted o (yielded ops a.tmps) = true) (x : Operand)
    (ho : o.op = .call { callee := .builtin .append, args := #[.const (.slice none 0 0), x], argTypes := #[33, 33] })
    {B : Nat} {m : List UInt8} {A : Option Addr} {n c : Nat} (hx : a.eval x = .slice A n c) (hm : Byts w A m) (hn : n = m.length)
    (hlen : m.length ≤ 140737488355328) (hB : B ≤ w.heap.size)
    (h : ∀ v' w', Own w' B v' m → Below w.heap.size w w' → (∀ g, v'.ownBlock = some g → g = w.heap.size) → wpList Try.prog ops Q rest (a.put o.dst v') w') : wpList Try.prog ops Q (o :: rest) a w :=
  wpList_wanted hw fun _ hK => wp_clone_byts x ho hx hm hn hlen hB fun v' w' h1 h2 h3 => hK _ _ (h v' w' h1 h2 h3)

/-- The same two at a step of a region that draws its order. -/
theorem step_append_byts {ops : Array Oper} {o : Oper} {a : Act} {w : World} {K : Act → World → Prop} {Q : Exit → Act → World → Prop} {E : Prop} (hw : Region.wanted o (yielded ops a.tmps) = true) (s x : Operand)
    (ho : o.op = .call { callee := .builtin .append, args := #[s, x], argTypes := #[33, 33] })
    {B : Nat} {v : Value} {l m : List UInt8} {A : Option Addr} {n c : Nat} (hs : a.eval s = v) (hx : a.eval x = .slice A n c) (hown : Own w B v l) (hm : Byts w A m) (hn : n = m.length)
    (hlen : l.length + m.length ≤ 140737488355328) (hB : B ≤ w.heap.size)
    (h : ∀ v' w', Own w' B v' (l ++ m) → w.grownBy w' v.ownBlock → (v'.ownBlock = v.ownBlock ∨ v'.ownBlock = some w.heap.size) → K (a.put o.dst v') w') :
    if Region.wanted o (yielded ops a.tmps) = true then Oper.wp Try.prog o a w K Q else E := by
  rw [if_pos hw]
  exact wp_append_byts s x ho hs hx hown hm hn hlen hB h

theorem step_clone_byts {ops : Array Oper} {o : Oper} {a : Act} {w : World} {K : Act → World → Prop} {Q : Exit → Act → World → Prop} {E : Prop} (hw : Region.wanted o (yielded ops a.tmps) = true) (x : Operand)
    (ho : o.op = .call { callee := .builtin .append, args := #[.const (.slice none 0 0), x], argTypes := #[33, 33] })
    {B : Nat} {m : List UInt8} {A : Option Addr} {n c : Nat} (hx : a.eval x = .slice A n c) (hm : Byts w A m) (hn : n = m.length)
    (hlen : m.length ≤ 140737488355328) (hB : B ≤ w.heap.size)
    (h : ∀ v' w', Own w' B v' m → Below w.heap.size w w' → (∀ g, v'.ownBlock = some g → g = w.heap.size) → K (a.put o.dst v') w') :
    if Region.wanted o (yielded ops a.tmps) = true then Oper.wp Try.prog o a w K Q else E := by
  rw [if_pos hw]
  exact wp_clone_byts x ho hx hm hn hlen hB h

/-- make: so many bytes 0. -/
theorem wp_make_byts {o : Oper} {a : Act} {w : World} {K : Act → World → Prop} {Q : Exit → Act → World → Prop} (l c : Operand) (hop : o.op = Op.makeSlice 33 l c)
    {B : Nat} {kl kc : IntKind} {L C : Int} {n : Nat} (hl : a.eval l = .int kl L) (hc : a.eval c = .int kc C) (hL : L = (n : Int)) (hC : C = (n : Int)) (hn : n ≤ 281474976710656) (hB : B ≤ w.heap.size)
    (h : ∀ g w', w.heap.size ≤ g → Own w' B (.slice (some ⟨g, 0, none⟩) n n) (List.replicate n 0) → Below w.heap.size w w' → g < w'.heap.size → K (a.put o.dst (.slice (some ⟨g, 0, none⟩) n n)) w') : o.wp Try.prog a w K Q := by
  obtain ⟨i0, hi, hz0, hz1, hz2⟩ := info_parts info_u8
  obtain ⟨w', hrun, r1, r2⟩ := run_make_full (P := Try.prog) w B 33 5 i0 (.int .u8 0) 1 Try.underlying33 hi hz0 hz1 kl kc n (by rw [hz2]; omega) (by unfold maxLen; omega) hB
  subst hL
  subst hC
  unfold Oper.wp execOp
  simp only [hop, hl, hc, Sem.run_bind]
  rw [hrun]
  have e : (madeCells (Value.int .u8 0).cells (n * 1)).toList = cellsB (List.replicate n 0) := by
    unfold cellsB madeCells
    apply List.ext_getElem
    · simp
    · intro i h1 h2
      simp [Value.cells, Nat.mod_one]
  have hown : Own w' B (.slice (some ⟨w.heap.size, 0, none⟩) n n) (List.replicate n 0) := by
    unfold Own; rw [← e, List.length_replicate]; exact r1
  exact h _ w' (Nat.le_refl _) hown (grown_below r2 (Nat.le_refl _) (fun k e => by cases e)) ((hown.lt (k := w.heap.size) rfl).2)

theorem wpList_make_byts {ops : Array Oper} {rest : List Oper} {o : Oper} {a : Act} {w : World} {Q : Exit → Act → World → Prop} (hw : Region.wanted o (yielded ops a.tmps) = true) (l c : Operand) (hop : o.op = Op.makeSlice 33 l c)
    {B : Nat} {kl kc : IntKind} {L C : Int} {n : Nat} (hl : a.eval l = .int kl L) (hc : a.eval c = .int kc C) (hL : L = (n : Int)) (hC : C = (n : Int)) (hn : n ≤ 281474976710656) (hB : B ≤ w.heap.size)
    (h : ∀ g w', w.heap.size ≤ g → Own w' B (.slice (some ⟨g, 0, none⟩) n n) (List.replicate n 0) → Below w.heap.size w w' → g < w'.heap.size → wpList Try.prog ops Q rest (a.put o.dst (.slice (some ⟨g, 0, none⟩) n n)) w') : wpList Try.prog ops Q (o :: rest) a w :=
  wpList_wanted hw fun _ hK => wp_make_byts l c hop hl hc hL hC hn hB fun g w' h0 h1 h2 h3 => hK _ _ (h g w' h0 h1 h2 h3)

theorem step_make_byts {ops : Array Oper} {o : Oper} {a : Act} {w : World} {K : Act → World → Prop} {Q : Exit → Act → World → Prop} {E : Prop} (hw : Region.wanted o (yielded ops a.tmps) = true) (l c : Operand) (hop : o.op = Op.makeSlice 33 l c)
    {B : Nat} {kl kc : IntKind} {L C : Int} {n : Nat} (hl : a.eval l = .int kl L) (hc : a.eval c = .int kc C) (hL : L = (n : Int)) (hC : C = (n : Int)) (hn : n ≤ 281474976710656) (hB : B ≤ w.heap.size)
    (h : ∀ g w', w.heap.size ≤ g → Own w' B (.slice (some ⟨g, 0, none⟩) n n) (List.replicate n 0) → Below w.heap.size w w' → g < w'.heap.size → K (a.put o.dst (.slice (some ⟨g, 0, none⟩) n n)) w') :
    if Region.wanted o (yielded ops a.tmps) = true then Oper.wp Try.prog o a w K Q else E := by
  rw [if_pos hw]
  exact wp_make_byts l c hop hl hc hL hC hn hB h

end Go.Proofs.Ytionjddcahgpkaa
