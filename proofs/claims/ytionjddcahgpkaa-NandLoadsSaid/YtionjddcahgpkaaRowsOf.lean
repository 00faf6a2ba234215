/- Rows of elements of one kind that a call has made itself, whatever the element: append of one element, reading one. -/
import Derived.Test.YtionjddcahgpkaaMem
set_option linter.unusedVariables false
set_option maxRecDepth 100000
namespace Go.Proofs.Ytionjddcahgpkaa
open Go.RowKit

/-- What a call hands back, and the world behind it. -/
def Ret (R : Value → World → Prop) : Ending → World → Prop := fun e w' => ∃ v, e = .returned v ∧ R v w'

theorem Ret.mk {R : Value → World → Prop} {v : Value} {w : World} (h : R v w) : Ret R (.returned v) w := ⟨v, rfl, h⟩

/-- An element's kind: its type, its slices' type, its cells. -/
structure Kind (P : Program) (α : Type) where
  E : TypeId
  T : TypeId
  size : Nat
  bytes : Nat
  zero : Value
  enc : α → List Value
  hT : P.underlying T = some (.slice E)
  hinfo : (P.info? E).map (fun i => (i.zero, i.size, i.bytes)) = some (some zero, size, bytes)
  hz : zero.cells.size = size
  hpos : 0 < size
  hlen : ∀ x, (enc x).length = size
  hone : ∀ x, ∀ u ∈ enc x, u.oneCell' = true

section
variable {P : Program} {α : Type} (k : Kind P α)

def Kind.cells (l : List α) : List Value := l.flatMap k.enc

theorem Kind.cells_append (l m : List α) : k.cells (l ++ m) = k.cells l ++ k.cells m := by simp [Kind.cells]
theorem Kind.cells_one (x : α) : k.cells [x] = k.enc x := by simp [Kind.cells]
theorem Kind.cells_length (l : List α) : (k.cells l).length = l.length * k.size := by
  induction l with
  | nil => simp [Kind.cells]
  | cons x l ih =>
    have : k.cells (x :: l) = k.enc x ++ k.cells l := by simp [Kind.cells]
    rw [this, List.length_append, ih, k.hlen, List.length_cons, Nat.add_mul]; omega
theorem Kind.cells_one' (l : List α) : ∀ u ∈ k.cells l, u.oneCell' = true := fun u hu => by
  obtain ⟨x, _, h⟩ := List.mem_flatMap.1 hu
  exact k.hone x u h
theorem Kind.cells_get (l : List α) (i j : Nat) (hi : i < l.length) (hj : j < k.size) : (k.cells l)[i * k.size + j]? = (k.enc l[i])[j]? := by
  induction l generalizing i with
  | nil => simp at hi
  | cons x l ih =>
    have e : k.cells (x :: l) = k.enc x ++ k.cells l := by simp [Kind.cells]
    rw [e]
    cases i with
    | zero =>
      rw [List.getElem?_append_left (by rw [k.hlen]; omega)]
      simp
    | succ i =>
      have : (i + 1) * k.size + j = k.size + (i * k.size + j) := by rw [Nat.add_mul]; omega
      rw [this, List.getElem?_append_right (by rw [k.hlen]; omega), k.hlen, Nat.add_sub_cancel_left]
      simpa using ih i (by simpa using hi)

/-- The value owns, from block B on, a row that holds just these elements at its head. -/
def Kind.Own (w : World) (B : Nat) (v : Value) (l : List α) : Prop := w.ownsRow B k.E k.size v l.length (k.cells l)

/-- From that address on the elements' cells lie. -/
def Kind.At (w : World) (A : Option Addr) (l : List α) : Prop :=
  l = [] ∨ ∃ b off, A = some ⟨b, off, none⟩ ∧ ∀ j u, (k.cells l)[j]? = some u → w.cell? ⟨b, off + j, none⟩ = some u

theorem Kind.At.nil (w : World) (A : Option Addr) : k.At w A [] := Or.inl rfl

variable {k}

theorem Kind.At.below {w w' : World} {A : Option Addr} {l : List α} (h : k.At w A l) (hb : Below w.heap.size w w') : k.At w' A l := by
  rcases h with h | ⟨b, off, hx, hc⟩
  · exact Or.inl h
  · refine Or.inr ⟨b, off, hx, fun j u hu => ?_⟩
    have h1 := hc j u hu
    have h2 := World.block_lt_of_cell? w _ h1
    rw [hb.cell h2, h1]

theorem Kind.At.at {w : World} {A : Option Addr} {l : List α} (h : k.At w A l) {i : Nat} (hi : i < l.length) :
    ∃ b off, A = some ⟨b, off, none⟩ ∧ b < w.heap.size ∧ ∀ j u, (k.enc l[i])[j]? = some u → w.cell? ⟨b, off + i * k.size + j, none⟩ = some u := by
  rcases h with rfl | ⟨b, off, hx, hc⟩
  · simp at hi
  · have key : ∀ j u, (k.enc l[i])[j]? = some u → w.cell? ⟨b, off + i * k.size + j, none⟩ = some u := fun j u hu => by
      have hj : j < k.size := by
        have := (List.getElem?_eq_some_iff.1 hu).1
        rwa [k.hlen] at this
      rw [Nat.add_assoc]
      exact hc _ u (by rw [k.cells_get l i j hi hj]; exact hu)
    refine ⟨b, off, hx, ?_, key⟩
    have h0 : 0 < (k.enc l[i]).length := by rw [k.hlen]; exact k.hpos
    exact World.block_lt_of_cell? w _ (key 0 _ (List.getElem?_eq_getElem h0))

theorem Kind.Own.nil (w : World) (B : Nat) : k.Own w B (.slice none 0 0) [] := World.ownsRow_nil _ _ _ _

theorem Kind.Own.below {w w' : World} {B : Nat} {v : Value} {l : List α} (h : k.Own w B v l) (hb : Below w.heap.size w w') : k.Own w' B v l :=
  World.ownsRow.kept (row := none) h ⟨hb.os, hb.tape, hb.output, hb.size, fun k hk _ => hb.block k hk⟩ (by cases hv : v.ownBlock <;> simp)

theorem Kind.Own.grown {w w' : World} {B : Nat} {v : Value} {l : List α} {row : Option Nat} (h : k.Own w B v l) (hg : w.grownBy w' row) (hne : v.ownBlock = none ∨ v.ownBlock ≠ row) : k.Own w' B v l :=
  World.ownsRow.kept h hg hne

theorem Kind.Own.alloc {w : World} {B : Nat} {v : Value} {l : List α} (h : k.Own w B v l) (o : Obj) : k.Own (w.alloc o) B v l := h.below (below_alloc w o)
theorem Kind.At.alloc {w : World} {A : Option Addr} {l : List α} (h : k.At w A l) (o : Obj) : k.At (w.alloc o) A l := h.below (below_alloc w o)

theorem Kind.Own.lt {w : World} {B : Nat} {v : Value} {l : List α} (h : k.Own w B v l) {b : Nat} (hk : v.ownBlock = some b) : B ≤ b ∧ b < w.heap.size := World.ownsRow.lt h b hk

theorem Kind.Own.read {w : World} {B : Nat} {v : Value} {l : List α} (h : k.Own w B v l) : ∃ A c, v = .slice A l.length c ∧ (l.length ≤ c ∧ c ≤ maxLen) ∧ k.At w A l ∧ ∀ x, A = some x → B ≤ x.block ∧ x = ⟨x.block, 0, none⟩ := by
  obtain ⟨hl, h⟩ := h
  rcases h with ⟨rfl, hn⟩ | ⟨g, cap, cur, rfl, hB, hg, hc, hm, hs, ht⟩
  · have : l = [] := List.eq_nil_of_length_eq_zero hn
    subst this
    exact ⟨none, 0, rfl, by simp, Or.inl rfl, fun x hx => by cases hx⟩
  · refine ⟨_, _, rfl, ⟨hc, hm⟩, ?_, fun x hx => by cases hx; exact ⟨hB, rfl⟩⟩
    refine Or.inr ⟨g, 0, rfl, fun j u hu => ?_⟩
    rw [← ht, List.getElem?_take] at hu
    split at hu
    · unfold World.cell?
      simp only [hg]
      simpa using hu
    · cases hu

variable (k)

/-- append of one element that lies somewhere. -/
theorem wp_append_el {o : Oper} {a : Act} {w : World} {K : Act → World → Prop} {Q : Exit → Act → World → Prop} (s x : Operand)
    (ho : o.op = .call { callee := .builtin .append, args := #[s, x], argTypes := #[k.T, k.T] })
    {B : Nat} {v : Value} {l : List α} {y : α} {b off c : Nat} (hs : a.eval s = v) (hx : a.eval x = .slice (some ⟨b, off, none⟩) 1 c) (hown : k.Own w B v l)
    (hy : ∀ j u, (k.enc y)[j]? = some u → w.cell? ⟨b, off + j, none⟩ = some u)
    (hlen : (l.length + 1) * k.bytes ≤ 140737488355328) (h63 : l.length + 1 ≤ 9223372036854775807) (hB : B ≤ w.heap.size)
    (h : ∀ v' w', k.Own w' B v' (l ++ [y]) → w.grownBy w' v.ownBlock → (v'.ownBlock = v.ownBlock ∨ v'.ownBlock = some w.heap.size) → K (a.put o.dst v') w') : o.wp P a w K Q := by
  obtain ⟨i0, hi, hz0, hz1, hz2⟩ := info_parts k.hinfo
  obtain ⟨v', w', hr, h1, h2, _, h3⟩ := run_append_own_at (P := P) w B k.T o.type k.E i0 k.zero k.size k.bytes k.hT hi hz0 hz1 hz2 k.hz k.hpos v l.length (k.cells l) hown ⟨b, off, none⟩ 1 c (k.enc y)
    (by rw [k.hlen]; omega) (fun j u hu => by rw [add_none]; exact hy j u hu) (k.hone y) (by unfold maxLen; omega) hlen hB
  unfold Oper.wp execOp
  simp only [ho, resolve, invoke, builtin, Sem.run_bind, Sem.run_pure, Result.andThen_ok, List.map_toArray, List.map_cons, List.map_nil, hs, hx]
  rw [hr]
  refine h v' w' ?_ h2 h3
  unfold Kind.Own
  rw [k.cells_append, k.cells_one, List.length_append]
  exact h1

end

theorem new_cell (w : World) (cs : List Value) (E : TypeId) (fr : Nat × Nat) (j : Nat) (u : Value) (hu : cs[j]? = some u) : (w.alloc (.cells cs.toArray E fr)).cell? ⟨w.heap.size, j, none⟩ = some u := by
  unfold World.cell?
  rw [heap_alloc_new]
  simpa using hu

theorem cells_alloc (w : World) (cs : List Value) (E : TypeId) (fr : Nat × Nat) : ∀ j u, cs[j]? = some u → (w.alloc (.cells cs.toArray E fr)).cell? ⟨w.heap.size, 0 + j, none⟩ = some u := fun j u hu => by
  unfold World.cell?
  rw [heap_alloc_new]
  simpa using hu

end Go.Proofs.Ytionjddcahgpkaa
