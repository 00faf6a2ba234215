/- The deeds that the law PowerPlays is given, as they come in. -/
import Derived.Test.YtdieeleaaejfhaaKinds
import Derived.Test.YtdieeleaaejfhaaReads
set_option linter.unusedVariables false
namespace Go.Proofs.Ytdieeleaaejfhaa
open Go.RowKit

/-- One thing that is done. -/
structure OpP where
  kind : Int
  n : Int
  mask : UInt8
  l : List Int

/-- The slice of deeds as it came in. -/
def OpsP (w : World) (A : Option Addr) (ops : List OpP) : Prop :=
  ops = [] ∨ ∃ b off, A = some ⟨b, off, none⟩ ∧ ∀ i, (h : i < ops.length) → ∃ AL c,
    (∀ j u, [Value.int .i64 ops[i].kind, .int .i64 ops[i].n, .int .u8 (ops[i].mask.toNat : Int), .slice AL ops[i].l.length c][j]? = some u → w.cell? ⟨b, off + i * 4 + j, none⟩ = some u) ∧
    Ints w AL ops[i].l ∧ (∀ x ∈ ops[i].l, (Lit.int .i64 x).wf = true) ∧ ops[i].n ≤ 9223372036854775807

theorem Ints.lt {w : World} {A : Option Addr} {l : List Int} (h : Ints w A l) : ∀ x, A = some x → 0 < l.length → x.block < w.heap.size := by
  intro x hx h0
  obtain ⟨b, off, e, hc⟩ := h.at h0
  rw [hx] at e
  cases e
  exact World.block_lt_of_cell? w _ hc

set_option maxRecDepth 100000 in
theorem opsP_of {w : World} {cs : List Value} (h : Rd Try.prog w 22 cs) : ∃ A c, ∃ ops : List OpP, cs = [.slice A ops.length c] ∧ (ops.length ≤ c ∧ c ≤ maxLen) ∧ OpsP w A ops := by
  obtain ⟨A, len, cap, rfl, h1, h2, _, h3⟩ := h.slice Try.underlying22 (sz := 4) (by kernel_rfl) (by omega)
  rcases h3 with rfl | ⟨b, off, rfl, hel⟩
  · exact ⟨A, cap, [], rfl, ⟨h1, h2⟩, Or.inl rfl⟩
  · have hx : ∀ i, i < len → ∃ o : OpP, ∃ AL c,
        (∀ j u, [Value.int .i64 o.kind, .int .i64 o.n, .int .u8 (o.mask.toNat : Int), .slice AL o.l.length c][j]? = some u → w.cell? ⟨b, off + i * 4 + j, none⟩ = some u) ∧
        Ints w AL o.l ∧ (∀ x ∈ o.l, (Lit.int .i64 x).wf = true) ∧ o.n ≤ 9223372036854775807 := fun i hi => by
      obtain ⟨cs', hl, hc, hr⟩ := hel i hi
      obtain ⟨_, hf⟩ := hr.struct Try.underlying30
      have c1 : Try.prog.cellsOf 3 = 1 := by kernel_rfl
      have c2 : Try.prog.cellsOf 5 = 1 := by kernel_rfl
      have c3 : Try.prog.cellsOf 28 = 1 := by kernel_rfl
      have f0 : Rd Try.prog w 3 ((cs'.drop 0).take (Try.prog.cellsOf 3)) := hf 0 _ rfl
      have f1 : Rd Try.prog w 3 ((cs'.drop 1).take (Try.prog.cellsOf 3)) := hf 1 _ rfl
      have f2 : Rd Try.prog w 5 ((cs'.drop 2).take (Try.prog.cellsOf 5)) := hf 2 _ rfl
      have f3 : Rd Try.prog w 28 ((cs'.drop 3).take (Try.prog.cellsOf 28)) := hf 3 _ rfl
      rw [c1] at f0 f1
      rw [c2] at f2
      rw [c3] at f3
      obtain ⟨n0, e0, w0⟩ := f0.int Try.underlying3
      obtain ⟨n1, e1, w1⟩ := f1.int Try.underlying3
      obtain ⟨n2, e2, w2⟩ := f2.int Try.underlying5
      obtain ⟨AL, c, l, e3, _, h5, h6⟩ := f3.ints Try.underlying28 Try.underlying3 c1
      obtain ⟨y, rfl⟩ := byte_of (wf_u8 w2)
      match cs', hl with
      | [v0, v1, v2, v3], _ =>
        obtain rfl := (List.cons.inj e0).1
        obtain rfl := (List.cons.inj e1).1
        obtain rfl := (List.cons.inj e2).1
        obtain rfl := (List.cons.inj e3).1
        exact ⟨⟨n0, n1, y, l⟩, AL, c, hc, h5, h6, (wf_i64 w1).2⟩
    classical
    let f : Nat → OpP := fun i => if hi : i < len then Classical.choose (hx i hi) else ⟨0, 0, 0, []⟩
    have hf : ∀ i, (hi : i < len) → f i = Classical.choose (hx i hi) := fun i hi => dif_pos hi
    refine ⟨_, cap, (List.range len).map f, by simp, by simpa using ⟨h1, h2⟩, Or.inr ⟨b, off, rfl, fun i hi => ?_⟩⟩
    have hi' : i < len := by simpa using hi
    have := Classical.choose_spec (hx i hi')
    simpa [hf i hi'] using this

theorem OpsP.below {w w' : World} {A : Option Addr} {ops : List OpP} (h : OpsP w A ops) (hb : Below w.heap.size w w') : OpsP w' A ops := by
  rcases h with h | ⟨b, off, hx, hc⟩
  · exact Or.inl h
  · refine Or.inr ⟨b, off, hx, fun i hi => ?_⟩
    obtain ⟨AL, c, h1, h2, h3⟩ := hc i hi
    exact ⟨AL, c, fun j u hu => (hb.cell (World.block_lt_of_cell? w _ (h1 j u hu))).trans (h1 j u hu), h2.below hb, h3⟩

end Go.Proofs.Ytdieeleaaejfhaa
