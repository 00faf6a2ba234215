/- The law CutTells returns true for every input, and each argument reads afterwards as before. No condition. -/
import Derived.Test.YtcdbndgmfjlmbaaRows
import Derived.Test.YtcdbndgmfjlmbaaLawTells
import Derived.WalkKit
import Derived.ProofKit
import Derived.OpenShut
import Derived.ShutString
import Derived.ChangeOld
import Derived.Below
import Derived.SizedLaws
import Derived.Lib.SmallJoins
namespace Go.Proofs.Ytcdbndgmfjlmbaa.cutTells
open Go.ChangeShapes Go.WideShapes Go.ChangeAt Go.RowKit Go.Joins
open Go.ChangeMaps (open_string shut_string)
set_option linter.unusedVariables false
theorem cells32 : Try.prog.cellsOf 32 = 3 := by kernel_rfl
theorem own : ownKnob Try.prog.godebug = none := by kernel_rfl
theorem laidOut : laidOutB Try.prog = true := by kernel_rfl
set_option maxRecDepth 100000 in
theorem lifted (os : Os) (started : os.Started) (H : Type) (enc : TypeId × Value → H) :
    ReturnsInHanded {} Try.checked os 7 .any (Rows.cutTellsSpec.pre6 enc Try.prog Try.f7 Rows.cutTellsRow.domain false) (Rows.cutTellsSpec.post enc Try.prog Try.f7 false true false false) := by
  refine returnsInHanded_of_change_sized (C := Try.checked) own started (by kernel_rfl) Try.func7
    (ChangeSpec.witness6 (enc := enc) (C := Try.checked) false ⟨#[], #[.int .i64 0, .int .i64 0, .int .i64 0, .slice none 0 0, .agg #[.int .i64 0, .int .i64 0, .int .i64 0], .slice none 0 0], []⟩ 8 (by kernel_rfl) (by kernel_rfl) (by kernel_rfl) (by kernel_rfl)) ?_
  intro W base args ds gs before hval0 hW hcnd hsz0 _
  have hsz : (DataW.weightsEach Try.prog (Try.f7.params.toList ++ Rows.cutTellsSpec.plain.varTypes Try.prog) (ds ++ gs)).all (· ≤ reachBytes) = true := hsz0
  have hval : ∀ (j : Nat) t v, Try.f7.params[j]? = some t → args[j]? = some v → Value.okWide Try.prog W .any base t v := hval0
  have hW' := hW
  obtain ⟨p, q, hA0, hV, rfl, hfz, hnd⟩ := hW
  have hA : DataW.TrodAll enc Try.prog W 0 (fun _ => true) true Try.f7.params.toList args.toList ds p := hA0
  rw [Try.params7] at hA hval hsz
  obtain ⟨v0, vs0, d0, ds0, p0, q0, hargs, rfl, rfl, h0, r0⟩ := trodAll_cons hA
  obtain ⟨v1, vs1, d1, ds1, p1, q1, rfl, rfl, rfl, h1, r1⟩ := trodAll_cons r0
  obtain ⟨v2, vs2, d2, ds2, p2, q2, rfl, rfl, rfl, h2, r2⟩ := trodAll_cons r1
  obtain ⟨v3, vs3, d3, ds3, p3, q3, rfl, rfl, rfl, h3, r3⟩ := trodAll_cons r2
  obtain ⟨v4, vs4, d4, ds4, p4, q4, rfl, rfl, rfl, h4, r4⟩ := trodAll_cons r3
  obtain ⟨v5, vs5, d5, ds5, p5, q5, rfl, rfl, rfl, h5, r5⟩ := trodAll_cons r4
  obtain ⟨rfl, rfl, rfl⟩ := trodAll_nil r5
  obtain rfl : args = #[v0, v1, v2, v3, v4, v5] := by cases args; simp_all
  obtain ⟨rfl, rfl⟩ := trodVars_none hV
  obtain ⟨a0, rfl, rfl, rfl, w0⟩ := open_int Try.underlying3 (hval 0 3 v0 rfl rfl) h0
  obtain ⟨a1, rfl, rfl, rfl, w1⟩ := open_int Try.underlying3 (hval 1 3 v1 rfl rfl) h1
  obtain ⟨a2, rfl, rfl, rfl, w2⟩ := open_int Try.underlying3 (hval 2 3 v2 rfl rfl) h2
  obtain ⟨a3, len3, cap3, rfl⟩ := okWide_slice Try.underlying22 (hval 3 22 v3 rfl rfl)
  have k3 := h3
  have lt3 : ∀ x ∈ p3, x.block < W.heap.size := by obtain ⟨m, hm⟩ := k3; exact DataW.trod_lt m _ _ _ hm
  have z3 := rowOf Try.underlying22 Try.underlying5 (by kernel_rfl) h3
  have y3 : len3 * 1 ≤ 140737488351232 := sizedInts hsz (j := 3) (t := 22) rfl rfl Try.underlying22 Try.underlying5 (by kernel_rfl) (by kernel_rfl) h3
  obtain ⟨l3, rfl, hcap3, hb3⟩ := bytsOf z3
  obtain ⟨c4x0, c4x1, c4x2, y4x0, y4x1, y4x2, m4, rfl, rfl, rfl, hy4x0, hy4x1, hy4x2⟩ := open_agg3 Try.underlying32 (by kernel_rfl) cells32 (hval 4 32 v4 rfl rfl) h4
  obtain ⟨a4x0, e4x0, rfl, w4x0⟩ := DataW.trod_int Try.underlying3 hy4x0
  obtain ⟨a4x1, e4x1, rfl, w4x1⟩ := DataW.trod_int Try.underlying3 hy4x1
  obtain ⟨a4x2, e4x2, rfl, w4x2⟩ := DataW.trod_int Try.underlying3 hy4x2
  simp at e4x0 e4x1 e4x2
  subst e4x0 e4x1 e4x2
  simp only [List.append_nil, List.nil_append] at hW'
  obtain ⟨a5, len5, cap5, rfl⟩ := okWide_slice Try.underlying22 (hval 5 22 v5 rfl rfl)
  have k5 := h5
  have lt5 : ∀ x ∈ p5, x.block < W.heap.size := by obtain ⟨m, hm⟩ := k5; exact DataW.trod_lt m _ _ _ hm
  have z5 := rowOf Try.underlying22 Try.underlying5 (by kernel_rfl) h5
  have y5 : len5 * 1 ≤ 140737488351232 := sizedInts hsz (j := 5) (t := 22) rfl rfl Try.underlying22 Try.underlying5 (by kernel_rfl) (by kernel_rfl) h5
  obtain ⟨l5, rfl, hcap5, hb5⟩ := bytsOf z5
  clear hA0 hval0 hsz0 hsz
  refine (cutTells_walk a0 w0 a1 w1 a2 w2 a3 cap3 l3 hcap3 hb3 (by omega) a4x0 a4x1 a4x2 a5 cap5 l5 hcap5 hb5 (by omega)).mono fun e W' ⟨he, bel⟩ => ?_
  subst he
  exact ⟨_, rfl, _, _, _, [], _, [], hW', trodAll_mk1 (shut_bool Try.underlying4 _), (trodAll_cons_mk (shut_int Try.underlying3 w0) (trodAll_cons_mk (shut_int Try.underlying3 w1) (trodAll_cons_mk (shut_int Try.underlying3 w2) (trodAll_cons_mk (Below.trod laidOut (by kernel_rfl) (of_decide_eq_true (by kernel_rfl)) k3 bel lt3) (trodAll_cons_mk (shut_agg3 (y0 := (.lit (.int .i64 a4x0), [])) (y1 := (.lit (.int .i64 a4x1), [])) (y2 := (.lit (.int .i64 a4x2), [])) Try.underlying32 (by kernel_rfl) cells32 ⟨1, trod_int_mk 0 Try.underlying3 w4x0⟩ ⟨1, trod_int_mk 0 Try.underlying3 w4x1⟩ ⟨1, trod_int_mk 0 Try.underlying3 w4x2⟩) (trodAll_cons_mk (Below.trod laidOut (by kernel_rfl) (of_decide_eq_true (by kernel_rfl)) k5 bel lt5) trodAll_mk0)))))), rfl, bel.frame _, fun h => by cases h⟩
theorem over : Rows.cutTellsRow.holds Try.pinned (OpenSpec.ofChange Rows.cutTellsSpec) :=
  OpenClaim.holds_of_wide 7 Try.f7 rfl rfl rfl rfl rfl rfl rfl ⟨rfl, rfl, rfl, rfl, rfl⟩ rfl rfl rfl rfl rfl (by kernel_rfl) Try.func7 (by kernel_rfl)
    (of_decide_eq_true (by kernel_rfl)) (by unfold Func.isWrapper; first | (rw [if_pos (by decide +kernel)]; kernel_rfl) | (rw [if_neg (by decide +kernel)]; exact ⟨rfl, rfl⟩))
    (fun os started H enc _ => lifted os started H enc)
end Go.Proofs.Ytcdbndgmfjlmbaa.cutTells
namespace Go.Proofs.Ytcdbndgmfjlmbaa
/-- The row, under a short name, for the claim. -/
theorem cutTells_holds : Rows.CutTellsSaid := cutTells.over
#print axioms cutTells_holds
end Go.Proofs.Ytcdbndgmfjlmbaa
