/- A row of slices of bytes that the call makes by appending. -/
import Derived.Test.YtcdgpioljilgeaaConcat
import Derived.Test.YtcdgpioljilgeaaKinds
set_option linter.unusedVariables false
set_option maxRecDepth 100000
namespace Go.Proofs.Ytcdgpioljilgeaa
open Go.RowKit

/-- A slice as it stands in a cell. -/
structure SV where
  A : Option Addr
  n : Nat
  c : Nat

noncomputable def kSl : Kind Try.prog SV where
  E := 24
  T := 65
  size := 1
  bytes := 24
  zero := .slice none 0 0
  enc := fun s => [.slice s.A s.n s.c]
  hT := Try.underlying65
  hinfo := by kernel_rfl
  hz := rfl
  hpos := by decide
  hlen := fun _ => rfl
  hone := fun x u hu => by simp at hu; subst hu; rfl

theorem kSl_cells (l : List SV) : kSl.cells l = l.map fun s => Value.slice s.A s.n s.c := by
  unfold Kind.cells
  show l.flatMap (fun s => [Value.slice s.A s.n s.c]) = _
  induction l with
  | nil => rfl
  | cons x l ih => simp [ih]

/-- The value owns a row of slices that read as these bytes. -/
def OwnRows (w : World) (B : Nat) (v : Value) (xs : List (List UInt8)) : Prop :=
  ∃ svs : List SV, kSl.Own w B v svs ∧ svs.length = xs.length ∧ ∀ i (h : i < xs.length) (h' : i < svs.length), svs[i].n = xs[i].length ∧ Byts w svs[i].A xs[i] ∧
    (0 < xs[i].length → ∀ y, svs[i].A = some y → v.ownBlock ≠ some y.block)

theorem OwnRows.nil (w : World) (B : Nat) : OwnRows w B (.slice none 0 0) [] := ⟨[], Kind.Own.nil _ _, rfl, fun i h => by simp at h⟩
theorem OwnRows.below {w w' : World} {B : Nat} {v : Value} {xs : List (List UInt8)} (h : OwnRows w B v xs) (hb : Below w.heap.size w w') : OwnRows w' B v xs := by
  obtain ⟨svs, h1, h2, h3⟩ := h
  exact ⟨svs, h1.below hb, h2, fun i hi hi' => ⟨(h3 i hi hi').1, (h3 i hi hi').2.1.below hb, (h3 i hi hi').2.2⟩⟩
theorem OwnRows.lt {w : World} {B : Nat} {v : Value} {xs : List (List UInt8)} (h : OwnRows w B v xs) {g : Nat} (hg : v.ownBlock = some g) : B ≤ g ∧ g < w.heap.size := by
  obtain ⟨svs, h1, h2, h3⟩ := h
  exact h1.lt hg
theorem OwnRows.form {w : World} {B : Nat} {v : Value} {xs : List (List UInt8)} (h : OwnRows w B v xs) : ∃ A c, v = .slice A xs.length c ∧ (xs.length ≤ c ∧ c ≤ maxLen) ∧ Rows w A xs ∧ (∀ y, A = some y → B ≤ y.block) := by
  obtain ⟨svs, h1, h2, h3⟩ := h
  obtain ⟨A, c, rfl, hc, hat, hA⟩ := h1.read
  refine ⟨A, c, by rw [h2], by rw [← h2]; exact hc, fun i hi => ?_, fun y e => (hA y e).1⟩
  have hi' : i < svs.length := by omega
  obtain ⟨a1, a3, _⟩ := h3 i hi hi'
  rcases hat with rfl | ⟨b, off, rfl, hcell⟩
  · simp at hi'
  · have h4 := hcell i (.slice svs[i].A svs[i].n svs[i].c) (by rw [kSl_cells, List.getElem?_map, List.getElem?_eq_getElem hi']; rfl)
    rw [a1] at h4
    exact ⟨b, off, svs[i].A, svs[i].c, rfl, h4, a3⟩

/-- append of one. -/
theorem wp_append_row {o : Oper} {a : Act} {w : World} {K : Act → World → Prop} {Q : Exit → Act → World → Prop} (s x : Operand)
    (ho : o.op = .call { callee := .builtin .append, args := #[s, x], argTypes := #[65, 65] })
    {B : Nat} {v : Value} {xs : List (List UInt8)} {y : List UInt8} {b off c n cc : Nat} {A : Option Addr} (hs : a.eval s = v) (hx : a.eval x = .slice (some ⟨b, off, none⟩) 1 c) (hown : OwnRows w B v xs)
    (hc : w.cell? ⟨b, off, none⟩ = some (.slice A n cc)) (hy : Byts w A y) (hn : y.length = n) (hcc : n ≤ cc) (hne : 0 < y.length → ∀ z, A = some z → v.ownBlock ≠ some z.block)
    (hlen : xs.length + 1 ≤ 1000000000) (hB : B ≤ w.heap.size)
    (h : ∀ v' w', OwnRows w' B v' (xs ++ [y]) → w.grownBy w' v.ownBlock → (v'.ownBlock = v.ownBlock ∨ v'.ownBlock = some w.heap.size) → K (a.put o.dst v') w') : o.wp Try.prog a w K Q := by
  obtain ⟨svs, h1, h2, h3⟩ := hown
  refine wp_append_el kSl s x ho (y := ⟨A, n, cc⟩) hs hx h1 (fun j u hu => ?_) (by rw [h2]; show (xs.length + 1) * 24 ≤ _; omega) (by rw [h2]; omega) hB (fun v' w' hown' hg hv' => h v' w' ?_ hg hv')
  · have hj : j = 0 := by
      have : ([Value.slice A n cc] : List Value)[j]? = some u := hu
      have := (List.getElem?_eq_some_iff.1 this).1
      simp at this
      exact this
    subst hj
    have : u = .slice A n cc := by
      have : ([Value.slice A n cc] : List Value)[0]? = some u := hu
      simpa using this.symm
    rw [this]
    exact hc
  · have key : ∀ (l : List UInt8) (A0 : Option Addr), Byts w A0 l → (0 < l.length → ∀ z, A0 = some z → v.ownBlock ≠ some z.block) → Byts w' A0 l ∧ (0 < l.length → ∀ z, A0 = some z → v'.ownBlock ≠ some z.block) := by
      intro l A0 hl hd
      by_cases h0 : 0 < l.length
      · refine ⟨hl.grown hg (fun z e e2 => hd h0 z e e2.symm), fun _ z e => ?_⟩
        rcases hv' with hv | hv
        · rw [hv]; exact hd h0 z e
        · rw [hv]
          obtain ⟨bb, oo, e1, hcc'⟩ := hl.at h0
          rw [e] at e1
          cases e1
          have := World.block_lt_of_cell? w _ hcc'
          intro e2
          cases e2
          simp at this
      · have : l = [] := List.eq_nil_of_length_eq_zero (by omega)
        subst this
        exact ⟨Byts.nil _ _, fun h => absurd h h0⟩
    refine ⟨svs ++ [⟨A, n, cc⟩], hown', by rw [List.length_append, List.length_append, h2]; rfl, fun i hi hi' => ?_⟩
    by_cases e : i < xs.length
    · have e' : i < svs.length := by omega
      obtain ⟨a1, a3, a4⟩ := h3 i e e'
      obtain ⟨k1, k2⟩ := key _ _ a3 a4
      rw [List.getElem_append_left e', List.getElem_append_left e]
      exact ⟨a1, k1, k2⟩
    · have ei : i = xs.length := by simp at hi; omega
      subst ei
      obtain ⟨k1, k2⟩ := key _ _ hy hne
      have g1 : (svs ++ [(⟨A, n, cc⟩ : SV)])[xs.length]'hi' = ⟨A, n, cc⟩ := by rw [List.getElem_append_right (by omega)]; simp
      have g2 : (xs ++ [y])[xs.length]'hi = y := by rw [List.getElem_append_right (Nat.le_refl _)]; simp
      rw [g1, g2]
      exact ⟨hn.symm, k1, k2⟩

/-- A row that is read, as the cells of its slices. -/
theorem Rows.svs {w : World} {A : Option Addr} {ys : List (List UInt8)} (h : Rows w A ys) : ∃ svs : List SV, svs.length = ys.length ∧ kSl.At w A svs ∧ ∀ i (hi : i < ys.length) (hi' : i < svs.length), svs[i].n = ys[i].length ∧ Byts w svs[i].A ys[i] ∧
    ∃ b off, A = some ⟨b, off, none⟩ ∧ w.cell? ⟨b, off + i, none⟩ = some (.slice svs[i].A svs[i].n svs[i].c) := by
  classical
  have hx : ∀ i, i < ys.length → ∃ s : SV, ∀ hi : i < ys.length, s.n = ys[i].length ∧ Byts w s.A ys[i] ∧ ∃ b off, A = some ⟨b, off, none⟩ ∧ w.cell? ⟨b, off + i, none⟩ = some (.slice s.A s.n s.c) := fun i hi => by
    obtain ⟨b, off, B', c', e, hc, hy⟩ := h i hi
    exact ⟨⟨B', ys[i].length, c'⟩, fun _ => ⟨rfl, hy, b, off, e, hc⟩⟩
  let f : Nat → SV := fun i => if hi : i < ys.length then Classical.choose (hx i hi) else ⟨none, 0, 0⟩
  have hf : ∀ i (hi : i < ys.length), (f i).n = ys[i].length ∧ Byts w (f i).A ys[i] ∧ ∃ b off, A = some ⟨b, off, none⟩ ∧ w.cell? ⟨b, off + i, none⟩ = some (.slice (f i).A (f i).n (f i).c) := fun i hi => by
    have h1 := Classical.choose_spec (hx i hi) hi
    have e : f i = Classical.choose (hx i hi) := dif_pos hi
    rw [e]
    exact h1
  refine ⟨(List.range ys.length).map f, by simp, ?_, fun i hi hi' => ?_⟩
  · cases hl : ys.length with
    | zero => left; simp
    | succ n =>
      obtain ⟨_, _, b, off, e, _⟩ := hf 0 (by omega)
      right
      refine ⟨b, off, e, fun j u hu => ?_⟩
      rw [kSl_cells, List.getElem?_map] at hu
      by_cases hj : j < ys.length
      · obtain ⟨_, _, b', off', e', hc⟩ := hf j hj
        rw [e] at e'
        cases e'
        rw [List.getElem?_map, List.getElem?_range (by omega)] at hu
        have hu' : u = .slice (f j).A (f j).n (f j).c := by simpa using hu.symm
        rw [hu']
        exact hc
      · rw [List.getElem?_eq_none (by simp; omega)] at hu
        simp at hu
  · have e : ((List.range ys.length).map f)[i]'hi' = f i := by simp
    rw [e]
    exact hf i hi

/-- append of all of another row. -/
theorem wp_append_rows {o : Oper} {a : Act} {w : World} {K : Act → World → Prop} {Q : Exit → Act → World → Prop} (s x : Operand)
    (ho : o.op = .call { callee := .builtin .append, args := #[s, x], argTypes := #[65, 65] })
    {B : Nat} {v : Value} {xs ys : List (List UInt8)} {A : Option Addr} {n c : Nat} (hs : a.eval s = v) (hx : a.eval x = .slice A n c) (hown : OwnRows w B v xs) (hr : Rows w A ys) (hn : n = ys.length)
    (hold : ∀ g, v.ownBlock = some g → ∃ w0, Rows w0 A ys ∧ w0.heap.size ≤ g ∧ Below w0.heap.size w0 w) (hlen : xs.length + ys.length ≤ 1000000000) (hB : B ≤ w.heap.size)
    (h : ∀ v' w', OwnRows w' B v' (xs ++ ys) → w.grownBy w' v.ownBlock → (v'.ownBlock = v.ownBlock ∨ v'.ownBlock = some w.heap.size) → K (a.put o.dst v') w') : o.wp Try.prog a w K Q := by
  obtain ⟨svs, h1, h2, h3⟩ := hown
  obtain ⟨tv, t1, t2, t3⟩ := hr.svs
  refine wp_append_els kSl s x ho hs hx h1 t2 (by rw [hn, t1]) (by rw [h2, t1]; show (xs.length + ys.length) * 24 ≤ _; omega) (by omega) hB (fun v' w' hown' hg hv' => h v' w' ?_ hg hv')
  have key : ∀ (l : List UInt8) (A0 : Option Addr), Byts w A0 l → (0 < l.length → ∀ z, A0 = some z → v.ownBlock ≠ some z.block) → Byts w' A0 l ∧ (0 < l.length → ∀ z, A0 = some z → v'.ownBlock ≠ some z.block) := by
    intro l A0 hl hd
    by_cases h0 : 0 < l.length
    · refine ⟨hl.grown hg (fun z e e2 => hd h0 z e e2.symm), fun _ z e => ?_⟩
      rcases hv' with hv | hv
      · rw [hv]; exact hd h0 z e
      · rw [hv]
        obtain ⟨bb, oo, e1, hcc'⟩ := hl.at h0
        rw [e] at e1
        cases e1
        have := World.block_lt_of_cell? w _ hcc'
        intro e2
        cases e2
        simp at this
    · have : l = [] := List.eq_nil_of_length_eq_zero (by omega)
      subst this
      exact ⟨Byts.nil _ _, fun h => absurd h h0⟩
  refine ⟨svs ++ tv, hown', by rw [List.length_append, List.length_append, h2, t1], fun i hi hi' => ?_⟩
  by_cases e : i < xs.length
  · have e' : i < svs.length := by omega
    obtain ⟨a1, a3, a4⟩ := h3 i e e'
    obtain ⟨k1, k2⟩ := key _ _ a3 a4
    rw [List.getElem_append_left e', List.getElem_append_left e]
    exact ⟨a1, k1, k2⟩
  · have hi2 : i < xs.length + ys.length := by simpa using hi
    have ej : i - xs.length < ys.length := by omega
    have ej' : i - svs.length < tv.length := by omega
    obtain ⟨a1, a3, b, off, e1, hc⟩ := t3 (i - xs.length) ej (by omega)
    obtain ⟨k1, k2⟩ := key _ _ a3 (fun h0 z ez ev => by
      obtain ⟨w0, r0, hg0, hb0⟩ := hold _ ev
      obtain ⟨b', off', B', c', e2, hc2, hy2⟩ := r0 (i - xs.length) ej
      rw [e1] at e2
      cases e2
      have h5 := (hb0.cell (World.block_lt_of_cell? w0 _ hc2)).trans hc2
      rw [hc] at h5
      have h6 : (tv[i - xs.length]'(by omega)).A = B' := by
        injection h5 with h7
        injection h7
      rw [h6] at ez
      obtain ⟨bb, oo, e3, hcc'⟩ := hy2.at h0
      rw [ez] at e3
      cases e3
      have h8 := World.block_lt_of_cell? w0 _ hcc'
      have h9 : w0.heap.size ≤ bb := hg0
      have h8' : bb < w0.heap.size := h8
      omega)
    have g1 : (svs ++ tv)[i]'hi' = tv[i - xs.length]'(by omega) := by
      rw [List.getElem_append_right (by omega)]
      congr 1
      omega
    have g2 : (xs ++ ys)[i]'hi = ys[i - xs.length] := List.getElem_append_right (by omega)
    rw [g1, g2]
    exact ⟨a1, k1, k2⟩
end Go.Proofs.Ytcdgpioljilgeaa
