/- A struct of five whole numbers, by value: what it is as a value, and as a datum; and back. -/
import Derived.Test.YtionjddcahgpkaaBase
import Derived.Lib.SmallJoins
import Derived.Deep.Fields
import Derived.OpenShut
set_option linter.unusedVariables false
set_option maxRecDepth 100000
namespace Go.Proofs.Ytionjddcahgpkaa
open Go.RowKit Go.ChangeShapes Go.WideShapes Go.Deep

section
variable {H : Type} {enc : TypeId × Value → H} {P : Program} {w : World} {base : Nat} {spare : Nat → Bool} {held : Bool}

theorem open_five {r : Reach} {b0 : Nat} {t e : TypeId} {f0 f1 f2 f3 f4 : Field} {v : Value} {d : DataW H} {p : List MemPlace} (hs : P.underlying t = some (.struct #[f0, f1, f2, f3, f4])) (hone : oneCellFields P #[f0, f1, f2, f3, f4] = true) (hC : P.cellsOf t = 5)
    (he : P.underlying e = some (.int .i64)) (hfe : f0.type = e ∧ f1.type = e ∧ f2.type = e ∧ f3.type = e ∧ f4.type = e)
    (hv : Value.okWide P w r b0 t v) (h : DataW.Trod enc P w base spare held t v d p) :
    ∃ a0 a1 a2 a3 a4 : Int, v = .agg #[.int .i64 a0, .int .i64 a1, .int .i64 a2, .int .i64 a3, .int .i64 a4] ∧ d = .agg [.lit (.int .i64 a0), .lit (.int .i64 a1), .lit (.int .i64 a2), .lit (.int .i64 a3), .lit (.int .i64 a4)] ∧ p = [] ∧
      (Lit.int .i64 a0).wf = true ∧ (Lit.int .i64 a1).wf = true ∧ (Lit.int .i64 a2).wf = true ∧ (Lit.int .i64 a3).wf = true ∧ (Lit.int .i64 a4).wf = true := by
  obtain ⟨⟨cs⟩, rfl, hsz⟩ := okWide_struct hs hv
  obtain ⟨fuel, hf⟩ := h
  obtain ⟨xs, n, _, hx, _, hlen, hg⟩ := DataW.trod_struct hs hf
  have hcl : cs.length = 5 := by have := hsz.trans hC; simpa using this
  have hxl : xs.length = 5 := hlen
  have key : ∀ (i : Nat) (f : Field), (#[f0, f1, f2, f3, f4] : Array Field)[i]? = some f → f.type = e → ∃ a, cs[i]? = some (.int .i64 a) ∧ xs[i]? = some (.lit (.int .i64 a), []) ∧ (Lit.int .i64 a).wf = true := by
    intro i f hi hfe
    have hi5 : i < 5 := (Array.getElem?_eq_some_iff.1 hi).1
    have h1 := hg i f hi
    obtain ⟨o, k⟩ := hone_of hone i f hi
    rw [o, k, hfe, List.getElem?_eq_getElem (by omega)] at h1
    obtain ⟨m, e1, e2, e3⟩ := DataW.trod_int he h1
    refine ⟨m, ?_, ?_, e3⟩
    · have : ((Value.agg ⟨cs⟩).cells.toList.drop i).take 1 = (cs.drop i).take 1 := rfl
      rw [this] at e1
      have h2 : ((cs.drop i).take 1)[0]? = some (.int .i64 m) := by rw [e1]; rfl
      rw [List.getElem?_take_of_lt (by omega), List.getElem?_drop] at h2
      simpa using h2
    · rw [List.getElem?_eq_getElem (by omega), e2]
  obtain ⟨a0, c0, x0, w0⟩ := key 0 f0 rfl hfe.1
  obtain ⟨a1, c1, x1, w1⟩ := key 1 f1 rfl hfe.2.1
  obtain ⟨a2, c2, x2, w2⟩ := key 2 f2 rfl hfe.2.2.1
  obtain ⟨a3, c3, x3, w3⟩ := key 3 f3 rfl hfe.2.2.2.1
  obtain ⟨a4, c4, x4, w4⟩ := key 4 f4 rfl hfe.2.2.2.2
  match cs, hcl, xs, hxl with
  | [_, _, _, _, _], _, [_, _, _, _, _], _ =>
    simp at c0 c1 c2 c3 c4 x0 x1 x2 x3 x4
    subst c0 c1 c2 c3 c4 x0 x1 x2 x3 x4
    simp only [Prod.mk.injEq] at hx
    exact ⟨a0, a1, a2, a3, a4, rfl, by simpa using hx.1, by simpa using hx.2, w0, w1, w2, w3, w4⟩

theorem shut_five {t e : TypeId} {f0 f1 f2 f3 f4 : Field} (hs : P.underlying t = some (.struct #[f0, f1, f2, f3, f4])) (hone : oneCellFields P #[f0, f1, f2, f3, f4] = true) (hC : P.cellsOf t = 5)
    (he : P.underlying e = some (.int .i64)) (hfe : f0.type = e ∧ f1.type = e ∧ f2.type = e ∧ f3.type = e ∧ f4.type = e) {a0 a1 a2 a3 a4 : Int}
    (w0 : (Lit.int .i64 a0).wf = true) (w1 : (Lit.int .i64 a1).wf = true) (w2 : (Lit.int .i64 a2).wf = true) (w3 : (Lit.int .i64 a3).wf = true) (w4 : (Lit.int .i64 a4).wf = true) :
    DataW.Trod enc P w base spare held t (.agg #[.int .i64 a0, .int .i64 a1, .int .i64 a2, .int .i64 a3, .int .i64 a4]) (.agg [.lit (.int .i64 a0), .lit (.int .i64 a1), .lit (.int .i64 a2), .lit (.int .i64 a3), .lit (.int .i64 a4)]) [] := by
  obtain ⟨o0, k0⟩ := hone_of hone 0 f0 rfl
  obtain ⟨o1, k1⟩ := hone_of hone 1 f1 rfl
  obtain ⟨o2, k2⟩ := hone_of hone 2 f2 rfl
  obtain ⟨o3, k3⟩ := hone_of hone 3 f3 rfl
  obtain ⟨o4, k4⟩ := hone_of hone 4 f4 rfl
  have hx : ∀ (a : Int), (Lit.int .i64 a).wf = true → DataW.trod enc P w base spare held 1 e [.int .i64 a] = some (.lit (.int .i64 a), []) := fun a h => trod_int_mk 0 he h
  rw [hfe.1] at k0
  rw [hfe.2.1] at k1
  rw [hfe.2.2.1] at k2
  rw [hfe.2.2.2.1] at k3
  rw [hfe.2.2.2.2] at k4
  have := trod_struct_mk (enc := enc) (w := w) (base := base) (spare := spare) (held := held) (n := 1) (cs := [.int .i64 a0, .int .i64 a1, .int .i64 a2, .int .i64 a3, .int .i64 a4]) (xs := [(.lit (.int .i64 a0), []), (.lit (.int .i64 a1), []), (.lit (.int .i64 a2), []), (.lit (.int .i64 a3), []), (.lit (.int .i64 a4), [])]) hs (by simp [hC])
    (by simp [hfe.1, hfe.2.1, hfe.2.2.1, hfe.2.2.2.1, hfe.2.2.2.2, o0, o1, o2, o3, o4, k0, hx _ w0, hx _ w1, hx _ w2, hx _ w3, hx _ w4])
  exact ⟨2, by simpa [Value.cells] using this⟩
end
end Go.Proofs.Ytionjddcahgpkaa
