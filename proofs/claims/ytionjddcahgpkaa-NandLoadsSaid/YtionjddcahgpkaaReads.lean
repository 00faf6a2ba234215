/- What the reading of a row's argument gives, whatever its type: cells in memory, field by field, element by element. -/
import Derived.Test.YtionjddcahgpkaaBase
import Derived.Deep.Slices
import Derived.OpenShut
set_option linter.unusedVariables false
set_option maxRecDepth 100000
namespace Go.Proofs.Ytionjddcahgpkaa
open Go.RowKit
open Go.ChangeShapes Go.WideShapes

/-- These cells read as something of that type. -/
def Rd (P : Program) (w : World) (t : TypeId) (cs : List Value) : Prop :=
  ∃ (H : Type) (enc : TypeId × Value → H) (base : Nat) (spare : Nat → Bool) (held : Bool) (n : Nat) (x : DataW H × List MemPlace), DataW.trod enc P w base spare held n t cs = some x

theorem Rd.of {H : Type} {enc : TypeId × Value → H} {P : Program} {W : World} {base : Nat} {spare : Nat → Bool} {held : Bool} {t : TypeId} {v : Value} {d : DataW H} {ps : List MemPlace}
    (h : DataW.Trod enc P W base spare held t v d ps) : Rd P W t v.cells.toList := by
  obtain ⟨n, h⟩ := h
  exact ⟨H, enc, base, spare, held, n, _, h⟩

theorem Rd.int {P : Program} {w : World} {t : TypeId} {cs : List Value} {k : IntKind} (h : Rd P w t cs) (ht : P.underlying t = some (.int k)) : ∃ n, cs = [.int k n] ∧ (Lit.int k n).wf = true := by
  obtain ⟨H, enc, base, spare, held, n, x, h⟩ := h
  obtain ⟨m, h1, _, h2⟩ := DataW.trod_int ht h
  exact ⟨m, h1, h2⟩
theorem Rd.str {P : Program} {w : World} {t : TypeId} {cs : List Value} (h : Rd P w t cs) (ht : P.underlying t = some .string) : ∃ s : ByteArray, cs = [.string s] ∧ s.size ≤ maxLen := by
  obtain ⟨H, enc, base, spare, held, n, x, h⟩ := h
  obtain ⟨m, h1, _, h2⟩ := DataW.trod_string ht h
  exact ⟨m, h1, h2⟩
theorem Rd.bool {P : Program} {w : World} {t : TypeId} {cs : List Value} (h : Rd P w t cs) (ht : P.underlying t = some .bool) : ∃ b, cs = [.bool b] := by
  obtain ⟨H, enc, base, spare, held, n, x, h⟩ := h
  obtain ⟨m, h1, _⟩ := DataW.trod_bool ht h
  exact ⟨m, h1⟩
theorem Rd.struct {P : Program} {w : World} {t : TypeId} {cs : List Value} {fs : Array Field} (h : Rd P w t cs) (ht : P.underlying t = some (.struct fs)) :
    cs.length = P.cellsOf t ∧ ∀ (i : Nat) (f : Field), fs[i]? = some f → Rd P w f.type ((cs.drop f.offset).take (P.cellsOf f.type)) := by
  obtain ⟨H, enc, base, spare, held, n, x, h⟩ := h
  obtain ⟨xs, k, _, _, hl, hxl, hf⟩ := DataW.trod_struct ht h
  refine ⟨hl, fun i f hi => ?_⟩
  have h1 := hf i f hi
  have h2 : i < fs.size := (Array.getElem?_eq_some_iff.1 hi).1
  rw [List.getElem?_eq_getElem (by omega)] at h1
  exact ⟨H, enc, base, spare, held, k, _, h1⟩

theorem Rd.slice {P : Program} {w : World} {t e : TypeId} {cs : List Value} {sz : Nat} (h : Rd P w t cs) (ht : P.underlying t = some (.slice e)) (hs : P.cellsOf e = sz) (h0 : 0 < sz) :
    ∃ A len cap, cs = [.slice A len cap] ∧ len ≤ cap ∧ cap ≤ maxLen ∧ (A = none → len = 0 ∧ cap = 0) ∧
      (len = 0 ∨ ∃ b off, A = some ⟨b, off, none⟩ ∧ ∀ i, i < len → ∃ cs', cs'.length = sz ∧ (∀ j u, cs'[j]? = some u → w.cell? ⟨b, off + i * sz + j, none⟩ = some u) ∧ Rd P w e cs') := by
  obtain ⟨H, enc, base, spare, held, n, x, h⟩ := h
  rcases Go.Deep.open_slice ht h with ⟨rfl, _⟩ | ⟨a, len, cap, m, k, D, Pl, rfl, hb, hl, hm, hmm, _, hel⟩
  · exact ⟨none, 0, 0, rfl, Nat.le_refl _, Nat.zero_le _, fun _ => ⟨rfl, rfl⟩, Or.inl rfl⟩
  · refine ⟨some a, len, cap, rfl, hl, hm, (fun e => nomatch e), ?_⟩
    by_cases hz : len = 0
    · exact Or.inl hz
    right
    have hlm : len ≤ m := by rw [hmm]; split <;> omega
    rw [hs] at hel
    have hsp : a = ⟨a.block, a.off, none⟩ := by
      obtain ⟨cs', h1, _⟩ := hel 0 (by omega)
      obtain ⟨_, hlen, hc⟩ := World.cells?_some h1
      have h2 := hc 0 h0
      rw [List.getElem?_eq_getElem (by omega)] at h2
      have := spot_none h2
      rcases a with ⟨b, o, sp⟩
      simp [Addr.add] at this ⊢
      exact this
    refine ⟨a.block, a.off, by rw [← hsp], fun i hi => ?_⟩
    obtain ⟨cs', h1, h2⟩ := hel i (by omega)
    obtain ⟨_, hlen, hc⟩ := World.cells?_some h1
    refine ⟨cs', hlen, fun j u hu => ?_, H, enc, base, spare, held, k, _, h2⟩
    have hj : j < sz := by have := (List.getElem?_eq_some_iff.1 hu).1; omega
    have h3 := hc j hj
    rw [hsp, add_none, add_none] at h3
    rw [h3, hu]

/-- A struct's fields, all of one cell: two, three, four, five. -/
theorem Rd.int1 {P : Program} {w : World} {t : TypeId} {cs : List Value} {k : IntKind} {i : Nat} (h : Rd P w t ((cs.drop i).take 1)) (ht : P.underlying t = some (.int k)) : ∃ n, cs[i]? = some (.int k n) ∧ (Lit.int k n).wf = true := by
  obtain ⟨n, h1, h2⟩ := h.int ht
  refine ⟨n, ?_, h2⟩
  have : ((cs.drop i).take 1)[0]? = some (.int k n) := by rw [h1]; rfl
  rw [List.getElem?_take_of_lt (by omega), List.getElem?_drop] at this
  simpa using this

theorem Rd.byts {P : Program} {w : World} {t e : TypeId} {cs : List Value} (h : Rd P w t cs) (ht : P.underlying t = some (.slice e)) (he : P.underlying e = some (.int .u8)) (hs : P.cellsOf e = 1) :
    ∃ A c, ∃ l : List UInt8, cs = [.slice A l.length c] ∧ (l.length ≤ c ∧ c ≤ maxLen) ∧ Byts w A l := by
  obtain ⟨A, len, cap, rfl, h1, h2, _, h3⟩ := h.slice ht hs (by omega)
  rcases h3 with rfl | ⟨b, off, rfl, hel⟩
  · exact ⟨A, cap, [], rfl, ⟨h1, h2⟩, Or.inl rfl⟩
  · have hx : ∀ i, i < len → ∃ x : UInt8, w.cell? ⟨b, off + i, none⟩ = some (.int .u8 (x.toNat : Int)) := fun i hi => by
      obtain ⟨cs', hl, hc, hr⟩ := hel i hi
      obtain ⟨n, rfl, hw⟩ := hr.int he
      obtain ⟨y, rfl⟩ := byte_of (wf_u8 hw)
      exact ⟨y, by have := hc 0 _ rfl; simpa using this⟩
    obtain ⟨f, hf⟩ := Go.Deep.choose_lt (α := UInt8) hx
    refine ⟨_, cap, (List.range len).map f, by simp, by simpa using ⟨h1, h2⟩, Or.inr ⟨b, off, rfl, fun i hi => ?_⟩⟩
    have hi' : i < len := by simpa using hi
    rw [hf i hi']
    simp

theorem Rd.ints {P : Program} {w : World} {t e : TypeId} {cs : List Value} (h : Rd P w t cs) (ht : P.underlying t = some (.slice e)) (he : P.underlying e = some (.int .i64)) (hs : P.cellsOf e = 1) :
    ∃ A c, ∃ l : List Int, cs = [.slice A l.length c] ∧ (l.length ≤ c ∧ c ≤ maxLen) ∧ Ints w A l ∧ ∀ x ∈ l, (Lit.int .i64 x).wf = true := by
  obtain ⟨A, len, cap, rfl, h1, h2, _, h3⟩ := h.slice ht hs (by omega)
  rcases h3 with rfl | ⟨b, off, rfl, hel⟩
  · exact ⟨A, cap, [], rfl, ⟨h1, h2⟩, Or.inl rfl, by simp⟩
  · have hx : ∀ i, i < len → ∃ x : Int, w.cell? ⟨b, off + i, none⟩ = some (.int .i64 x) ∧ (Lit.int .i64 x).wf = true := fun i hi => by
      obtain ⟨cs', hl, hc, hr⟩ := hel i hi
      obtain ⟨n, rfl, hw⟩ := hr.int he
      exact ⟨n, by have := hc 0 _ rfl; simpa using this, hw⟩
    obtain ⟨f, hf⟩ := Go.Deep.choose_lt (α := Int) hx
    refine ⟨_, cap, (List.range len).map f, by simp, by simpa using ⟨h1, h2⟩, Or.inr ⟨b, off, rfl, fun i hi => ?_⟩, fun x hx => ?_⟩
    · have hi' : i < len := by simpa using hi
      rw [(hf i hi').1]
      simp
    · obtain ⟨i, hi, rfl⟩ := List.mem_map.1 hx
      exact (hf i (List.mem_range.1 hi)).2

end Go.Proofs.Ytionjddcahgpkaa
