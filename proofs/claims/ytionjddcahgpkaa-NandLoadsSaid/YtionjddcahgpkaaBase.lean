/- Words on memory that all proofs of this seat use: a slice that reads as a list of bytes. Nothing here speaks of the program. -/
import Derived.WalkKit
import Derived.WalkSpells
import Derived.WalkLawsBesides
import Derived.Laws.BitsLemmas
import Derived.Lib.Hide
import Derived.SizedLaws
import Derived.ChangeSlices
namespace Go.Proofs.Ytionjddcahgpkaa
open Go.RowKit

/-- A byte as a value. -/
def u8v (x : UInt8) : Value := .int .u8 (x.toNat : Int)

/-- From that address on the bytes of the list lie. -/
def Byts (w : World) (A : Option Addr) (l : List UInt8) : Prop :=
  l = [] ∨ ∃ b off, A = some ⟨b, off, none⟩ ∧ ∀ i, (h : i < l.length) → w.cell? ⟨b, off + i, none⟩ = some (.int .u8 (l[i].toNat : Int))

theorem Byts.nil (w : World) (A : Option Addr) : Byts w A [] := Or.inl rfl

/-- Reading at a place. -/
theorem Byts.at {w : World} {A : Option Addr} {l : List UInt8} (h : Byts w A l) {k : Nat} (hk : k < l.length) :
    ∃ b off, A = some ⟨b, off, none⟩ ∧ w.cell? ⟨b, off + k, none⟩ = some (.int .u8 (l[k].toNat : Int)) := by
  rcases h with h | ⟨b, off, hx, hc⟩
  · subst h; simp at hk
  · exact ⟨b, off, hx, hc k hk⟩

theorem Byts.cell {w : World} {b off : Nat} {l : List UInt8} (h : Byts w (some ⟨b, off, none⟩) l) {k : Nat} (hk : k < l.length) :
    w.cell? ⟨b, off + k, none⟩ = some (.int .u8 (l[k].toNat : Int)) := by
  obtain ⟨b', off', e, hc⟩ := h.at hk
  cases e
  exact hc

/-- What was there stays. -/
theorem Byts.below {w w' : World} {A : Option Addr} {l : List UInt8} (h : Byts w A l) (hb : Below w.heap.size w w') : Byts w' A l := by
  rcases h with h | ⟨b, off, hx, hc⟩
  · exact Or.inl h
  · refine Or.inr ⟨b, off, hx, fun i hi => ?_⟩
    have h1 := hc i hi
    have h2 := World.block_lt_of_cell? w _ h1
    rw [hb.cell h2, h1]

theorem Byts.take {w : World} {A : Option Addr} {l : List UInt8} (h : Byts w A l) (k : Nat) : Byts w A (l.take k) := by
  rcases h with h | ⟨b, off, hx, hc⟩
  · exact Or.inl (by simp [h])
  · exact Or.inr ⟨b, off, hx, fun i hi => by simp only [List.length_take] at hi; rw [List.getElem_take]; exact hc i (by omega)⟩

theorem add_none (b o i : Nat) : (⟨b, o, none⟩ : Addr).add i = ⟨b, o + i, none⟩ := by
  unfold Addr.add; split <;> simp_all

theorem Byts.drop {w : World} {b off : Nat} {l : List UInt8} (h : Byts w (some ⟨b, off, none⟩) l) (k : Nat) : Byts w (some ⟨b, off + k, none⟩) (l.drop k) := by
  rcases h with h | ⟨b', off', hx, hc⟩
  · exact Or.inl (by simp [h])
  · cases hx
    refine Or.inr ⟨_, _, rfl, fun i hi => ?_⟩
    simp only [List.length_drop] at hi
    rw [Nat.add_assoc, List.getElem_drop]
    exact hc (k + i) (by omega)

/-! ### Arguments as they come in -/

/-- A slice of whole numbers, as the row's reading gives it. -/
def IsRow (k : IntKind) (w : World) (a : Option Addr) (len cap : Nat) (zs : List Int) : Prop :=
  (a = none ∧ len = 0 ∧ cap = 0 ∧ zs = []) ∨
  ∃ x, a = some x ∧ len ≤ cap ∧ cap ≤ maxLen ∧ zs.length = cap ∧ (∀ i, i < zs.length → w.cell? (x.add i) = some (.int k (zs.getD i 0))) ∧ ∀ n ∈ zs, (Lit.int k n).wf = true

open Go.ChangeShapes Go.WideShapes in
theorem rowOf {H : Type} {enc : TypeId × Value → H} {P : Program} {W : World} {base : Nat} {t e : TypeId} {k : IntKind} {a : Option Addr} {len cap : Nat} {d : DataW H} {ps : List MemPlace}
    (hu : P.underlying t = some (.slice e)) (he : P.underlying e = some (.int k)) (hc : P.cellsOf e = 1)
    (h : DataW.Trod enc P W base (fun _ => true) true t (.slice a len cap) d ps) : ∃ zs, IsRow k W a len cap zs := by
  obtain ⟨fuel, hf⟩ := h
  rcases open_ints hu he hc hf with ⟨hcs, _⟩ | ⟨x, l, c, zs, hcs, _, hl, hm, hz, _, hcell, hwz⟩
  · simp [Value.cells] at hcs
    obtain ⟨rfl, rfl, rfl⟩ := hcs
    exact ⟨[], .inl ⟨rfl, rfl, rfl, rfl⟩⟩
  · simp [Value.cells] at hcs
    obtain ⟨rfl, rfl, rfl⟩ := hcs
    exact ⟨zs, .inr ⟨_, rfl, hl, hm, by simpa using hz, hcell, hwz⟩⟩

open Go.ChangeShapes Go.WideShapes in
/-- A row's slice of whole numbers is no longer than its weight allows. -/
theorem sizedInts {H : Type} {enc : TypeId × Value → H} {P : Program} {W : World} {base : Nat} {spare : Nat → Bool} {held : Bool} {t e : TypeId} {k : IntKind} {a : Option Addr} {len cap : Nat} {d : DataW H} {ps : List MemPlace} {ts : List TypeId} {ds : List (DataW H)} {j : Nat}
    (hsz : (DataW.weightsEach P ts ds).all (· ≤ reachBytes) = true) (ht : ts[j]? = some t) (hd : ds[j]? = some d) (hu : P.underlying t = some (.slice e)) (he : P.underlying e = some (.int k)) (hc : P.cellsOf e = 1) {B : Nat} (hB : P.bytesOf e = B)
    (h : DataW.Trod enc P W base spare held t (.slice a len cap) d ps) : len * B ≤ 140737488351232 := by
  obtain ⟨fuel, hf⟩ := h
  rcases open_ints hu he hc hf with ⟨hcs, _⟩ | ⟨x, l, c, zs, hcs, _, hl, _, hz, hx, _, _⟩
  · simp [Value.cells] at hcs
    obtain ⟨rfl, rfl, rfl⟩ := hcs
    simp
  · simp [Value.cells] at hcs
    obtain ⟨rfl, rfl, rfl⟩ := hcs
    obtain ⟨hx, _⟩ := Prod.mk.inj hx
    subst hx
    have z := sized_slice hsz ht hd hu
    rw [hB] at z
    have hl2 : len ≤ zs.length := by
      rw [hz]
      split
      · exact hl
      · exact Nat.le_refl _
    have h1 : (lits (H := H) k (zs.take len)).length + (lits (H := H) k (zs.drop len)).length = zs.length := by
      simp [lits]
      omega
    rw [h1] at z
    exact Nat.le_trans (Nat.mul_le_mul_right _ hl2) z

theorem wf_u8 {x : Int} (h : (Lit.int .u8 x).wf = true) : 0 ≤ x ∧ x < 256 := by
  simp [Lit.wf, IntKind.min, IntKind.max, IntKind.signed, IntKind.bits] at h; omega

theorem wf_i64 {x : Int} (h : (Lit.int .i64 x).wf = true) : -9223372036854775808 ≤ x ∧ x ≤ 9223372036854775807 := by
  simp [Lit.wf, IntKind.min, IntKind.max, IntKind.signed, IntKind.bits] at h; omega

theorem byte_of {x : Int} (h : 0 ≤ x ∧ x < 256) : ∃ y : UInt8, x = (y.toNat : Int) :=
  ⟨UInt8.ofNat x.toNat, by simp; omega⟩

/-- int(uint(x) % uint(n)): a place below n. -/
theorem mod_len (x : Int) (n : Nat) (h0 : 0 < n) (hn : n ≤ 9223372036854775807) : ∃ i : Nat, wrap64 ((IntKind.u64.wrap x).tmod (n : Int)) = (i : Int) ∧ i < n := by
  have e : IntKind.u64.wrap x = x % 18446744073709551616 := by simp [IntKind.wrap, IntKind.bits, IntKind.signed]
  rw [e, Int.tmod_eq_emod_of_nonneg (by omega)]
  have h1 := Int.emod_nonneg (x % 18446744073709551616) (b := (n : Int)) (by omega)
  have h2 := Int.emod_lt_of_pos (x % 18446744073709551616) (b := (n : Int)) (by omega)
  generalize x % 18446744073709551616 % (n : Int) = r at *
  refine ⟨r.toNat, ?_, by omega⟩
  unfold wrap64
  omega

theorem spot_none {w : World} {x : Addr} {v : Value} (h : w.cell? x = some v) : x = ⟨x.block, x.off, none⟩ := by
  rcases x with ⟨b, o, s⟩
  cases s with
  | none => rfl
  | some q =>
    exfalso
    unfold World.cell? at h
    split at h <;> simp at h

/-- A slice of bytes that came in. -/
theorem bytsOf {w : World} {a : Option Addr} {len cap : Nat} (h : ∃ zs, IsRow .u8 w a len cap zs) :
    ∃ l : List UInt8, len = l.length ∧ (len ≤ cap ∧ cap ≤ maxLen) ∧ Byts w a l := by
  obtain ⟨zs, h⟩ := h
  rcases h with ⟨rfl, rfl, rfl, rfl⟩ | ⟨x, rfl, hl, hm, hz, hc, hw⟩
  · exact ⟨[], rfl, ⟨Nat.le_refl _, Nat.zero_le _⟩, Or.inl rfl⟩
  · refine ⟨(zs.take len).map fun z => UInt8.ofNat z.toNat, by simp; omega, ⟨hl, hm⟩, ?_⟩
    by_cases h0 : len = 0
    · subst h0; exact Or.inl (by simp)
    · have hx := spot_none (hc 0 (by omega))
      have hx : x = ⟨x.block, x.off, none⟩ := by
        rcases x with ⟨b, o, sp⟩
        simp [Addr.add] at hx ⊢
        exact hx
      refine Or.inr ⟨x.block, x.off, by rw [← hx], fun i hi => ?_⟩
      simp only [List.length_map, List.length_take] at hi
      have h1 := hc i (by omega)
      rw [hx, add_none] at h1
      rw [h1]
      have hb := wf_u8 (hw (zs.getD i 0) (by rw [List.getD_eq_getElem?_getD, List.getElem?_eq_getElem (by omega)]; exact List.getElem_mem _))
      simp only [List.getElem_map, List.getElem_take]
      rw [List.getD_eq_getElem?_getD, List.getElem?_eq_getElem (by omega)] at hb ⊢
      simp only [Option.getD_some] at hb ⊢
      congr 2
      simp
      omega

/-- Numbers that lie in a row. -/
def Ints (w : World) (A : Option Addr) (l : List Int) : Prop :=
  l = [] ∨ ∃ b off, A = some ⟨b, off, none⟩ ∧ ∀ i, (h : i < l.length) → w.cell? ⟨b, off + i, none⟩ = some (.int .i64 l[i])

theorem Ints.at {w : World} {A : Option Addr} {l : List Int} (h : Ints w A l) {k : Nat} (hk : k < l.length) :
    ∃ b off, A = some ⟨b, off, none⟩ ∧ w.cell? ⟨b, off + k, none⟩ = some (.int .i64 l[k]) := by
  rcases h with h | ⟨b, off, hx, hc⟩
  · subst h; simp at hk
  · exact ⟨b, off, hx, hc k hk⟩

theorem Ints.below {w w' : World} {A : Option Addr} {l : List Int} (h : Ints w A l) (hb : Below w.heap.size w w') : Ints w' A l := by
  rcases h with h | ⟨b, off, hx, hc⟩
  · exact Or.inl h
  · refine Or.inr ⟨b, off, hx, fun i hi => ?_⟩
    have h1 := hc i hi
    have h2 := World.block_lt_of_cell? w _ h1
    rw [hb.cell h2, h1]

theorem intsOf {w : World} {a : Option Addr} {len cap : Nat} (h : ∃ zs, IsRow .i64 w a len cap zs) :
    ∃ l : List Int, len = l.length ∧ (len ≤ cap ∧ cap ≤ maxLen) ∧ Ints w a l ∧ ∀ x ∈ l, (Lit.int .i64 x).wf = true := by
  obtain ⟨zs, h⟩ := h
  rcases h with ⟨rfl, rfl, rfl, rfl⟩ | ⟨x, rfl, hl, hm, hz, hc, hw⟩
  · exact ⟨[], rfl, ⟨Nat.le_refl _, Nat.zero_le _⟩, Or.inl rfl, by simp⟩
  · refine ⟨zs.take len, by simp; omega, ⟨hl, hm⟩, ?_, fun x hx => hw x (List.mem_of_mem_take hx)⟩
    by_cases h0 : len = 0
    · subst h0; exact Or.inl (by simp)
    · have hx := spot_none (hc 0 (by omega))
      have hx : x = ⟨x.block, x.off, none⟩ := by
        rcases x with ⟨b, o, sp⟩
        simp [Addr.add] at hx ⊢
        exact hx
      refine Or.inr ⟨x.block, x.off, by rw [← hx], fun i hi => ?_⟩
      simp only [List.length_take] at hi
      have h1 := hc i (by omega)
      rw [hx, add_none] at h1
      rw [h1, List.getElem_take, List.getD_eq_getElem?_getD, List.getElem?_eq_getElem (by omega)]
      rfl

end Go.Proofs.Ytionjddcahgpkaa
