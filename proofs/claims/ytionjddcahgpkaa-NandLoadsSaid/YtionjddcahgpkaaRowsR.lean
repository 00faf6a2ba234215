/- Rows of slices of bytes: as they come in, and as a call makes them by appending. -/
import Derived.Test.YtionjddcahgpkaaReads
import Derived.Test.YtionjddcahgpkaaKinds
set_option linter.unusedVariables false
set_option maxRecDepth 100000
set_option linter.unusedSimpArgs false
namespace Go.Proofs.Ytionjddcahgpkaa
open Go.RowKit

/-- A row of slices of bytes that is read. -/
def Rows (w : World) (A : Option Addr) (xs : List (List UInt8)) : Prop :=
  ∀ i (hi : i < xs.length), ∃ b off B' c', A = some ⟨b, off, none⟩ ∧ w.cell? ⟨b, off + i, none⟩ = some (.slice B' xs[i].length c') ∧ Byts w B' xs[i]

theorem cell_lt {w : World} {p : Addr} {v : Value} (h : w.cell? p = some v) : p.block < w.heap.size := by
  by_cases hp : p.block < w.heap.size
  · exact hp
  · unfold World.cell? at h
    rw [Array.getElem?_eq_none (by omega)] at h
    simp at h

theorem Rows.below {w w' : World} {A : Option Addr} {xs : List (List UInt8)} (h : Rows w A xs) (hb : Below w.heap.size w w') : Rows w' A xs := fun i hi => by
  obtain ⟨b, off, B', c', e, hc, hr⟩ := h i hi
  exact ⟨b, off, B', c', e, (hb.cell (cell_lt hc)).trans hc, hr.below hb⟩

/-- A slice of slices of bytes that came in. -/
theorem rowsB_of {w : World} {cs : List Value} (h : Rd Try.prog w 24 cs) : ∃ A c, ∃ xs : List (List UInt8), cs = [.slice A xs.length c] ∧ (xs.length ≤ c ∧ c ≤ maxLen) ∧ Rows w A xs := by
  obtain ⟨A, len, cap, rfl, h1, h2, _, h3⟩ := h.slice Try.underlying24 (sz := 1) (by kernel_rfl) (by omega)
  rcases h3 with rfl | ⟨b, off, rfl, hel⟩
  · exact ⟨A, cap, [], rfl, ⟨h1, h2⟩, fun i hi => by simp at hi⟩
  · have hx : ∀ i, i < len → ∃ x : List UInt8, ∃ B' c', w.cell? ⟨b, off + i, none⟩ = some (.slice B' x.length c') ∧ Byts w B' x := fun i hi => by
      obtain ⟨cs', hl, hc, hr⟩ := hel i hi
      obtain ⟨B', c', x, rfl, _, hy⟩ := hr.byts Try.underlying33 Try.underlying5 (by kernel_rfl)
      exact ⟨x, B', c', by have := hc 0 _ rfl; simpa using this, hy⟩
    classical
    let f : Nat → List UInt8 := fun i => if hi : i < len then Classical.choose (hx i hi) else []
    have hf : ∀ i, (hi : i < len) → f i = Classical.choose (hx i hi) := fun i hi => dif_pos hi
    refine ⟨some ⟨b, off, none⟩, cap, (List.range len).map f, by simp, by simpa using ⟨h1, h2⟩, fun i hi => ?_⟩
    have hi' : i < len := by simpa using hi
    obtain ⟨B', c', hc, hy⟩ := Classical.choose_spec (hx i hi')
    refine ⟨b, off, B', c', rfl, ?_, ?_⟩
    · simpa [hf i hi'] using hc
    · simpa [hf i hi'] using hy

/-- A slice as it stands in a cell. -/
structure SV where
  A : Option Addr
  n : Nat
  c : Nat

noncomputable def kSl : Kind Try.prog SV where
  E := 33
  T := 24
  size := 1
  bytes := 24
  zero := .slice none 0 0
  enc := fun s => [.slice s.A s.n s.c]
  hT := Try.underlying24
  hinfo := by kernel_rfl
  hz := rfl
  hpos := by decide
  hlen := fun _ => rfl
  hone := fun x u hu => by simp at hu; subst hu; rfl

theorem kSl_cells (l : List SV) : kSl.cells l = l.map fun s => Value.slice s.A s.n s.c := by
  unfold Kind.cells
  show l.flatMap (fun s => [Value.slice s.A s.n s.c]) = _
  induction l with
  | nil => rfl
  | cons x l ih => simp [ih]


/-- The value owns, from block L on, a row of slices that read as these bytes (none of them empty), and lie from L on themselves, each at the head of its block. -/
def Want (w : World) (L : Nat) (v : Value) (xs : List (List UInt8)) : Prop :=
  ∃ svs : List SV, kSl.Own w L v svs ∧ svs.length = xs.length ∧ (∀ i (h : i < xs.length) (h' : i < svs.length), ∃ q, svs[i].A = some ⟨q, 0, none⟩ ∧ svs[i].n = xs[i].length ∧ Byts w svs[i].A xs[i] ∧ L ≤ q ∧ 0 < xs[i].length) ∧ (xs = [] → v = .slice none 0 0)
theorem Want.nil (w : World) (L : Nat) : Want w L (.slice none 0 0) [] := ⟨[], Kind.Own.nil _ _, rfl, (fun i h => by simp at h), fun _ => rfl⟩
theorem Want.below {w w' : World} {L : Nat} {v : Value} {xs : List (List UInt8)} (h : Want w L v xs) (hb : Below w.heap.size w w') : Want w' L v xs := by
  obtain ⟨svs, h1, h2, h3, h4⟩ := h
  refine ⟨svs, h1.below hb, h2, fun i hi hi' => ?_, h4⟩
  obtain ⟨q, a1, a2, a3, a4, a5⟩ := h3 i hi hi'
  exact ⟨q, a1, a2, a3.below hb, a4, a5⟩
theorem Kind.Own.only' {P : Program} {α : Type} {k : Kind P α} {w w' : World} {B : Nat} {v : Value} {l : List α} {S : List Nat} (h : k.Own w B v l) (ho : Only S w w') (hS : ∀ x ∈ S, x < B) : k.Own w' B v l :=
  h.only ho (fun x hx hm => by have := hS x hm; have := (h.lt hx).1; omega)
theorem Want.only {w w' : World} {L : Nat} {v : Value} {xs : List (List UInt8)} {S : List Nat} (h : Want w L v xs) (ho : Only S w w') (hS : ∀ x ∈ S, x < L) : Want w' L v xs := by
  obtain ⟨svs, h1, h2, h3, h4⟩ := h
  refine ⟨svs, h1.only' ho hS, h2, fun i hi hi' => ?_, h4⟩
  obtain ⟨q, a1, a2, a3, a4, a5⟩ := h3 i hi hi'
  exact ⟨q, a1, a2, a3.only ho (fun x e _ hm => by rw [a1] at e; cases e; have := hS _ hm; simp only at this; omega), a4, a5⟩
/-- Where its block begins there is a slice. -/
theorem Want.head {w : World} {L : Nat} {v : Value} {xs : List (List UInt8)} (h : Want w L v xs) {g : Nat} (hg : v.ownBlock = some g) (h0 : 0 < xs.length) : ∃ A n c, w.cell? ⟨g, 0, none⟩ = some (.slice A n c) := by
  obtain ⟨svs, h1, h2, h3, h4'⟩ := h
  obtain ⟨A, c, rfl, hc, hat, hA⟩ := h1.read
  have h0' : 0 < svs.length := by omega
  obtain ⟨b, off, e, _, hcell⟩ := hat.at (i := 0) h0'
  subst e
  have e2 := (hA _ rfl).2
  cases hg
  have e3 : off = 0 := congrArg Addr.off e2
  subst e3
  exact ⟨_, _, _, hcell 0 _ rfl⟩
theorem Want.at {w : World} {L : Nat} {v : Value} {xs : List (List UInt8)} (h : Want w L v xs) : ∃ A c, v = .slice A xs.length c ∧ ∀ i (hi : i < xs.length), ∃ b off q c', A = some ⟨b, off, none⟩ ∧ w.cell? ⟨b, off + i, none⟩ = some (.slice (some ⟨q, 0, none⟩) xs[i].length c') ∧ Byts w (some ⟨q, 0, none⟩) xs[i] ∧ L ≤ q ∧ L ≤ b := by
  obtain ⟨svs, h1, h2, h3, h4'⟩ := h
  obtain ⟨A, c, rfl, hc, hat, hA⟩ := h1.read
  refine ⟨A, c, by rw [h2], fun i hi => ?_⟩
  have hi' : i < svs.length := by omega
  obtain ⟨q, a1, a2, a3, a4, a5⟩ := h3 i hi hi'
  obtain ⟨b, off, e, _, hcell⟩ := hat.at hi'
  have h4 := hcell 0 _ rfl
  rw [a1, a2] at h4
  have e1 : off + i * kSl.size + 0 = off + i := by show off + i * 1 + 0 = off + i; omega
  rw [e1] at h4
  rw [a1] at a3
  exact ⟨b, off, q, _, e, h4, a3, a4, (hA _ e).1⟩
/-- Bytes that are there stay while the row grows. -/
theorem byts_far {w : World} {q : Nat} {l : List UInt8} {g : Nat} (h : Byts w (some ⟨q, 0, none⟩) l) (h0 : 0 < l.length) (hs : ∃ A n c, w.cell? ⟨g, 0, none⟩ = some (.slice A n c)) : q ≠ g := by
  rintro rfl
  obtain ⟨A, n, c, hs⟩ := hs
  have := h.cell (k := 0) h0
  rw [Nat.zero_add, hs] at this
  cases this
theorem wp_append_want {o : Oper} {a : Act} {w : World} {K : Act → World → Prop} {Q : Exit → Act → World → Prop} (s x : Operand)
    (ho : o.op = .call { callee := .builtin .append, args := #[s, x], argTypes := #[24, 24] })
    {L : Nat} {v : Value} {xs : List (List UInt8)} {q n c b cap : Nat} {l : List UInt8} (hs : a.eval s = v) (hx : a.eval x = .slice (some ⟨b, 0, none⟩) 1 cap) (hown : Want w L v xs)
    (hc : w.cell? ⟨b, 0, none⟩ = some (.slice (some ⟨q, 0, none⟩) n c)) (hn : n = l.length) (hl : Byts w (some ⟨q, 0, none⟩) l) (hq : L ≤ q) (h0 : 0 < l.length) (hlen : xs.length + 1 ≤ 100000000) (hL : L ≤ w.heap.size)
    (h : ∀ v' w', Want w' L v' (xs ++ [l]) → w.grownBy w' v.ownBlock → (∀ g, v.ownBlock = some g → ∃ A n c, w.cell? ⟨g, 0, none⟩ = some (.slice A n c)) → K (a.put o.dst v') w') : o.wp Try.prog a w K Q := by
  subst hn
  have hhead : ∀ g, v.ownBlock = some g → ∃ A n c, w.cell? ⟨g, 0, none⟩ = some (.slice A n c) := fun g hg => by
    by_cases hx0 : 0 < xs.length
    · exact hown.head hg hx0
    · obtain ⟨svs, h1, h2, h3, h4⟩ := hown
      have hz : xs = [] := List.eq_nil_of_length_eq_zero (by omega)
      rw [h4 hz] at hg
      cases hg
  obtain ⟨svs, h1, h2, h3, h4⟩ := hown
  refine wp_append_el kSl s x ho (y := ⟨some ⟨q, 0, none⟩, l.length, c⟩) hs hx h1 (fun j u hu => by
      match j, hu with
      | 0, hu => cases hu; exact hc) (by show (svs.length + 1) * 24 ≤ _; omega) (by omega) hL (fun v' w' hown' hg hv' => h v' w' ?_ hg hhead)
  have key : ∀ q' (l' : List UInt8), Byts w (some ⟨q', 0, none⟩) l' → 0 < l'.length → Byts w' (some ⟨q', 0, none⟩) l' := fun q' l' hb h0' => by
    refine hb.grown hg (fun y e hy => ?_)
    cases e
    have hy2 : v.ownBlock = some q' := hy.symm
    exact byts_far hb h0' (hhead q' hy2) rfl
  refine ⟨svs ++ [⟨some ⟨q, 0, none⟩, l.length, c⟩], hown', by simp [h2], fun i hi hi' => ?_, fun e => by simp at e⟩
  by_cases hlt : i < xs.length
  · have hlt' : i < svs.length := by omega
    obtain ⟨q', a1, a2, a3, a4, a5⟩ := h3 i hlt hlt'
    rw [List.getElem_append_left hlt, List.getElem_append_left hlt']
    refine ⟨q', a1, a2, ?_, a4, a5⟩
    rw [a1] at a3 ⊢
    exact key q' _ a3 a5
  · have e1 : i = xs.length := by simp at hi; omega
    subst e1
    have e2 : (xs ++ [l])[xs.length]'hi = l := by simp
    have e3 : (svs ++ [(⟨some ⟨q, 0, none⟩, l.length, c⟩ : SV)])[xs.length]'hi' = ⟨some ⟨q, 0, none⟩, l.length, c⟩ := by
      rw [List.getElem_append_right (by omega)]
      simp [h2]
    rw [e2, e3]
    exact ⟨q, rfl, rfl, key q l hl h0, hq, h0⟩
end Go.Proofs.Ytionjddcahgpkaa
