/- Rows of elements of any kind: append of many elements, a copy by append to nil; rows of whole numbers. -/
import Derived.Test.YtionjddcahgpkaaOnly
import Derived.Test.YtionjddcahgpkaaRowsOf
set_option linter.unusedVariables false
set_option maxRecDepth 100000
namespace Go.Proofs.Ytionjddcahgpkaa
open Go.RowKit

section
variable {P : Program} {α : Type} (k : Kind P α)

theorem Kind.cells_get' (l : List α) (j : Nat) (u : Value) (h : (k.cells l)[j]? = some u) : j < l.length * k.size := by
  have := (List.getElem?_eq_some_iff.1 h).1
  rwa [k.cells_length] at this

theorem Kind.At.only {w w' : World} {A : Option Addr} {l : List α} {S : List Nat} {k : Kind P α} (h : k.At w A l) (ho : Only S w w') (hn : ∀ x, A = some x → 0 < l.length → x.block ∉ S) : k.At w' A l := by
  rcases h with h | ⟨b, off, hx, hc⟩
  · exact Or.inl h
  · by_cases hl : 0 < l.length
    · refine Or.inr ⟨b, off, hx, fun j u hu => ?_⟩
      have h1 := hc j u hu
      rw [ho.cell (World.block_lt_of_cell? w _ h1) (hn _ hx hl : b ∉ S), h1]
    · exact Or.inl (List.eq_nil_of_length_eq_zero (by omega))

theorem Kind.Own.only {w w' : World} {B : Nat} {v : Value} {l : List α} {S : List Nat} {k : Kind P α} (h : k.Own w B v l) (ho : Only S w w') (hn : ∀ x, v.ownBlock = some x → x ∉ S) : k.Own w' B v l := by
  obtain ⟨h1, h2⟩ := h
  refine ⟨h1, ?_⟩
  rcases h2 with h2 | ⟨g, cap, cur, hv, hg, hh, r⟩
  · exact Or.inl h2
  · refine Or.inr ⟨g, cap, cur, hv, hg, ?_, r⟩
    rw [ho.block g (Array.getElem?_eq_some_iff.1 hh).1 (hn g (by rw [hv]; rfl))]
    exact hh

theorem run_append_els {w : World} {B : Nat} {v : Value} {l m : List α} {A : Option Addr} {n c : Nat} (ty : TypeId) (hown : k.Own w B v l) (hm : k.At w A m) (hn : n = m.length)
    (hlen : (l.length + m.length) * k.bytes ≤ 140737488355328) (h63 : l.length + m.length ≤ 9223372036854775807) (hB : B ≤ w.heap.size) :
    ∃ v' w', (Builtin.append_ #[k.T, k.T] ty #[v, .slice A n c]).run P w = .ok v' w' ∧ k.Own w' B v' (l ++ m) ∧ w.grownBy w' v.ownBlock ∧ (v'.ownBlock = v.ownBlock ∨ v'.ownBlock = some w.heap.size) := by
  obtain ⟨i0, hi, hz0, hz1, hz2⟩ := info_parts k.hinfo
  have hT := k.hT
  subst hn
  rcases hm with rfl | ⟨b, off, rfl, hc⟩
  · have hr : (Builtin.append_ #[k.T, k.T] ty #[v, .slice A 0 c]).run P w = .ok v w := by
      obtain ⟨_, h⟩ := hown
      rcases h with ⟨rfl, hn⟩ | ⟨g, cap, cur, rfl, hB, hg, hc, hm, hs, ht⟩
      · cases A <;> simp [Builtin.append_, run_underlying hT, sizeOf, typeInfo, hi, Builtin.lenOf, Builtin.firstCells, loadCells, loadCellsFrom]
      · cases A <;> simp [Builtin.append_, run_underlying hT, sizeOf, typeInfo, hi, Builtin.lenOf, Builtin.firstCells, loadCells, loadCellsFrom, hc, storeCells]
    exact ⟨v, w, hr, by simpa using hown, ⟨rfl, rfl, rfl, Nat.le_refl _, fun _ _ _ => rfl⟩, Or.inl rfl⟩
  · obtain ⟨v', w', hr, h1, h2, _, h3⟩ := run_append_own_at (P := P) w B k.T ty k.E i0 k.zero k.size k.bytes hT hi hz0 hz1 hz2 k.hz k.hpos v l.length (k.cells l) hown ⟨b, off, none⟩ m.length c (k.cells m)
      (by rw [k.cells_length]) (fun j u hu => by rw [add_none]; exact hc j u hu) (k.cells_one' m) (by unfold maxLen; omega) hlen hB
    refine ⟨v', w', hr, ?_, h2, h3⟩
    unfold Kind.Own
    rw [k.cells_append, List.length_append]
    exact h1

theorem wp_append_els {o : Oper} {a : Act} {w : World} {K : Act → World → Prop} {Q : Exit → Act → World → Prop} (s x : Operand)
    (ho : o.op = .call { callee := .builtin .append, args := #[s, x], argTypes := #[k.T, k.T] })
    {B : Nat} {v : Value} {l m : List α} {A : Option Addr} {n c : Nat} (hs : a.eval s = v) (hx : a.eval x = .slice A n c) (hown : k.Own w B v l) (hm : k.At w A m) (hn : n = m.length)
    (hlen : (l.length + m.length) * k.bytes ≤ 140737488355328) (h63 : l.length + m.length ≤ 9223372036854775807) (hB : B ≤ w.heap.size)
    (h : ∀ v' w', k.Own w' B v' (l ++ m) → w.grownBy w' v.ownBlock → (v'.ownBlock = v.ownBlock ∨ v'.ownBlock = some w.heap.size) → K (a.put o.dst v') w') : o.wp P a w K Q := by
  obtain ⟨v', w', hr, h1, h2, h3⟩ := run_append_els k o.type hown hm hn hlen h63 hB
  unfold Oper.wp execOp
  simp only [ho, resolve, invoke, builtin, Sem.run_bind, Sem.run_pure, Result.andThen_ok, List.map_toArray, List.map_cons, List.map_nil, hs, hx]
  rw [hr]
  exact h v' w' h1 h2 h3

theorem below_of_grown {w w' : World} {row : Option Nat} {B : Nat} (hg : w.grownBy w' row) (hB : B ≤ w.heap.size) (hr : ∀ k, row = some k → B ≤ k) : Below B w w' :=
  (Below.refl B w).grown hg hB hr

/-- append to nil: a copy. -/
theorem wp_clone_els {o : Oper} {a : Act} {w : World} {K : Act → World → Prop} {Q : Exit → Act → World → Prop} (x : Operand)
    (ho : o.op = .call { callee := .builtin .append, args := #[.const (.slice none 0 0), x], argTypes := #[k.T, k.T] })
    {B : Nat} {m : List α} {A : Option Addr} {n c : Nat} (hx : a.eval x = .slice A n c) (hm : k.At w A m) (hn : n = m.length)
    (hlen : m.length * k.bytes ≤ 140737488355328) (h63 : m.length ≤ 9223372036854775807) (hB : B ≤ w.heap.size)
    (h : ∀ v' w', k.Own w' B v' m → Below w.heap.size w w' → (∀ g, v'.ownBlock = some g → g = w.heap.size) → K (a.put o.dst v') w') : o.wp P a w K Q :=
  wp_append_els k (.const (.slice none 0 0)) x ho (v := .slice none 0 0) (l := []) rfl hx (Kind.Own.nil _ _) hm hn (by simpa using hlen) (by simpa using h63) hB fun v' w' h1 h2 h3 =>
    h v' w' (by simpa using h1) (below_of_grown h2 (Nat.le_refl _) (fun k e => by cases e)) (fun g hg => by rw [hg] at h3; simpa [Value.ownBlock] using h3)

end

theorem Ints.only {w w' : World} {A : Option Addr} {l : List Int} {S : List Nat} (h : Ints w A l) (ho : Only S w w') (hn : ∀ x, A = some x → 0 < l.length → x.block ∉ S) : Ints w' A l := by
  rcases h with h | ⟨b, off, hx, hc⟩
  · exact Or.inl h
  · refine Or.inr ⟨b, off, hx, fun i hi => ?_⟩
    have h1 := hc i hi
    rw [ho.cell (World.block_lt_of_cell? w _ h1) (hn _ hx (by omega) : b ∉ S), h1]

theorem Byts.only {w w' : World} {A : Option Addr} {l : List UInt8} {S : List Nat} (h : Byts w A l) (ho : Only S w w') (hn : ∀ x, A = some x → 0 < l.length → x.block ∉ S) : Byts w' A l := by
  rcases h with h | ⟨b, off, hx, hc⟩
  · exact Or.inl h
  · refine Or.inr ⟨b, off, hx, fun i hi => ?_⟩
    have h1 := hc i hi
    rw [ho.cell (World.block_lt_of_cell? w _ h1) (hn _ hx (by omega) : b ∉ S), h1]

theorem Own.only {w w' : World} {B : Nat} {v : Value} {l : List UInt8} {S : List Nat} (h : Own w B v l) (ho : Only S w w') (hn : ∀ x, v.ownBlock = some x → x ∉ S) : Own w' B v l := by
  obtain ⟨h1, h2⟩ := h
  refine ⟨h1, ?_⟩
  rcases h2 with h2 | ⟨g, cap, cur, hv, hg, hh, r⟩
  · exact Or.inl h2
  · refine Or.inr ⟨g, cap, cur, hv, hg, ?_, r⟩
    rw [ho.block g (Array.getElem?_eq_some_iff.1 hh).1 (hn g (by rw [hv]; rfl))]
    exact hh

/-- Rows of whole numbers. -/
noncomputable def kInt : Kind Try.prog Int where
  E := 3
  T := 46
  size := 1
  bytes := 8
  zero := .int .i64 0
  enc := fun x => [.int .i64 x]
  hT := Try.underlying46
  hinfo := by kernel_rfl
  hz := rfl
  hpos := by decide
  hlen := fun _ => rfl
  hone := fun x u hu => by simp at hu; subst hu; rfl

theorem kInt_cells (l : List Int) : kInt.cells l = l.map (Value.int .i64) := by
  unfold Kind.cells
  show l.flatMap (fun x => [Value.int .i64 x]) = _
  induction l with
  | nil => rfl
  | cons x l ih => simp [ih]

theorem kInt_at {w : World} {A : Option Addr} {l : List Int} (h : Ints w A l) : kInt.At w A l := by
  rcases h with h | ⟨b, off, hx, hc⟩
  · exact Or.inl h
  · refine Or.inr ⟨b, off, hx, fun j u hu => ?_⟩
    rw [kInt_cells, List.getElem?_map] at hu
    cases hj : l[j]? with
    | none => rw [hj] at hu; cases hu
    | some y =>
      rw [hj] at hu
      obtain ⟨h1, h2⟩ := List.getElem?_eq_some_iff.1 hj
      cases hu
      rw [hc j h1, h2]

theorem kInt_ints {w : World} {A : Option Addr} {l : List Int} (h : kInt.At w A l) : Ints w A l := by
  rcases h with h | ⟨b, off, hx, hc⟩
  · exact Or.inl h
  · refine Or.inr ⟨b, off, hx, fun i hi => hc i _ ?_⟩
    rw [kInt_cells, List.getElem?_map, List.getElem?_eq_getElem hi]
    rfl

theorem quiet_left {P : Program} {f : FuncId} {args : Array Value} {w : World} {n : Nat} {v : Value}
    (h : Calls P f args (w.drewN n) fun e w' => e = .returned v ∧ w.drewN n = w') : Calls P f args (w.drewN n) fun e w'' => e = .returned v ∧ ∃ m, w'' = w.drewN m :=
  h.mono fun _ _ ⟨he, hm⟩ => ⟨he, n, hm.symm⟩

end Go.Proofs.Ytionjddcahgpkaa
