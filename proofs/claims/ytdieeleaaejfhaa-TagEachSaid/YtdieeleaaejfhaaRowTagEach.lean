/- The law TagEach returns true for every input, and each argument reads afterwards as before. No condition. -/
import Derived.Test.YtdieeleaaejfhaaRows
import Derived.Test.YtdieeleaaejfhaaLawTag
import Derived.WalkKit
import Derived.ProofKit
import Derived.OpenShut
import Derived.ShutString
import Derived.ChangeOld
import Derived.Below
import Derived.SizedLaws
import Derived.Lib.SmallJoins
namespace Go.Proofs.Ytdieeleaaejfhaa.tagEach
open Go.ChangeShapes Go.WideShapes Go.ChangeAt Go.RowKit Go.Joins
open Go.ChangeMaps (open_string shut_string)
set_option linter.unusedVariables false
set_option linter.unusedSimpArgs false
theorem cells46 : Try.prog.cellsOf 46 = 3 := by kernel_rfl
theorem own : ownKnob Try.prog.godebug = none := by kernel_rfl
set_option maxRecDepth 100000 in
theorem lifted (os : Os) (started : os.Started) (H : Type) (enc : TypeId × Value → H) :
    ReturnsInHanded {} Try.checked os 9 .any (Rows.tagEachSpec.pre6 enc Try.prog Try.f9 Rows.tagEachRow.domain false) (Rows.tagEachSpec.post enc Try.prog Try.f9 false true false false) := by
  refine returnsInHanded_of_change_sized (C := Try.checked) own started (by kernel_rfl) Try.func9
    (ChangeSpec.witness6 (enc := enc) (C := Try.checked) false ⟨#[], #[.agg #[.int .i64 0, .int .i64 0, .int .u32 0], .agg #[.int .i64 0, .int .i64 0, .int .u32 0]], []⟩ 8 (by kernel_rfl) (by kernel_rfl) (by kernel_rfl) (by kernel_rfl)) ?_
  intro W base args ds gs before hval0 hW hcnd hsz0 _
  have hsz : (DataW.weightsEach Try.prog (Try.f9.params.toList ++ Rows.tagEachSpec.plain.varTypes Try.prog) (ds ++ gs)).all (· ≤ reachBytes) = true := hsz0
  have hval : ∀ (j : Nat) t v, Try.f9.params[j]? = some t → args[j]? = some v → Value.okWide Try.prog W .any base t v := hval0
  have hW' := hW
  obtain ⟨p, q, hA0, hV, rfl, hfz, hnd⟩ := hW
  have hA : DataW.TrodAll enc Try.prog W 0 (fun _ => true) true Try.f9.params.toList args.toList ds p := hA0
  rw [Try.params9] at hA hval hsz
  obtain ⟨v0, vs0, d0, ds0, p0, q0, hargs, rfl, rfl, h0, r0⟩ := trodAll_cons hA
  obtain ⟨v1, vs1, d1, ds1, p1, q1, rfl, rfl, rfl, h1, r1⟩ := trodAll_cons r0
  obtain ⟨rfl, rfl, rfl⟩ := trodAll_nil r1
  obtain rfl : args = #[v0, v1] := by cases args; simp_all
  obtain ⟨rfl, rfl⟩ := trodVars_none hV
  obtain ⟨c0x0, c0x1, c0x2, y0x0, y0x1, y0x2, m0, rfl, rfl, rfl, hy0x0, hy0x1, hy0x2⟩ := open_agg3 Try.underlying46 (by kernel_rfl) cells46 (hval 0 46 v0 rfl rfl) h0
  obtain ⟨a0x0, e0x0, rfl, w0x0⟩ := DataW.trod_int Try.underlying3 hy0x0
  obtain ⟨a0x1, e0x1, rfl, w0x1⟩ := DataW.trod_int Try.underlying3 hy0x1
  obtain ⟨a0x2, e0x2, rfl, w0x2⟩ := DataW.trod_int Try.underlying44 hy0x2
  simp at e0x0 e0x1 e0x2
  subst e0x0 e0x1 e0x2
  simp only [List.append_nil, List.nil_append] at hW'
  obtain ⟨c1x0, c1x1, c1x2, y1x0, y1x1, y1x2, m1, rfl, rfl, rfl, hy1x0, hy1x1, hy1x2⟩ := open_agg3 Try.underlying46 (by kernel_rfl) cells46 (hval 1 46 v1 rfl rfl) h1
  obtain ⟨a1x0, e1x0, rfl, w1x0⟩ := DataW.trod_int Try.underlying3 hy1x0
  obtain ⟨a1x1, e1x1, rfl, w1x1⟩ := DataW.trod_int Try.underlying3 hy1x1
  obtain ⟨a1x2, e1x2, rfl, w1x2⟩ := DataW.trod_int Try.underlying44 hy1x2
  simp at e1x0 e1x1 e1x2
  subst e1x0 e1x1 e1x2
  simp only [List.append_nil, List.nil_append] at hW'
  clear hA0 hval0 hsz0 hsz
  refine (tagEach_walk a0x0 w0x0 a0x1 w0x1 a0x2 w0x2 a1x0 w1x0 a1x1 w1x1 a1x2 w1x2).mono fun e W' ⟨he, bel⟩ => ?_
  subst he
  exact ⟨_, rfl, _, _, _, [], _, [], hW', trodAll_mk1 (shut_bool Try.underlying4 _), (trodAll_cons_mk (shut_agg3 (y0 := (.lit (.int .i64 a0x0), [])) (y1 := (.lit (.int .i64 a0x1), [])) (y2 := (.lit (.int .u32 a0x2), [])) Try.underlying46 (by kernel_rfl) cells46 ⟨1, trod_int_mk 0 Try.underlying3 w0x0⟩ ⟨1, trod_int_mk 0 Try.underlying3 w0x1⟩ ⟨1, trod_int_mk 0 Try.underlying44 w0x2⟩) (trodAll_cons_mk (shut_agg3 (y0 := (.lit (.int .i64 a1x0), [])) (y1 := (.lit (.int .i64 a1x1), [])) (y2 := (.lit (.int .u32 a1x2), [])) Try.underlying46 (by kernel_rfl) cells46 ⟨1, trod_int_mk 0 Try.underlying3 w1x0⟩ ⟨1, trod_int_mk 0 Try.underlying3 w1x1⟩ ⟨1, trod_int_mk 0 Try.underlying44 w1x2⟩) trodAll_mk0)), rfl, bel.frame _, fun h => by cases h⟩
theorem over : Rows.tagEachRow.holds Try.pinned (OpenSpec.ofChange Rows.tagEachSpec) :=
  OpenClaim.holds_of_wide 9 Try.f9 rfl rfl rfl rfl rfl rfl rfl ⟨rfl, rfl, rfl, rfl, rfl⟩ rfl rfl rfl rfl rfl (by kernel_rfl) Try.func9 (by kernel_rfl)
    (of_decide_eq_true (by kernel_rfl)) (by unfold Func.isWrapper; first | (rw [if_pos (by decide +kernel)]; kernel_rfl) | (rw [if_neg (by decide +kernel)]; exact ⟨rfl, rfl⟩))
    (fun os started H enc _ => lifted os started H enc)
end Go.Proofs.Ytdieeleaaejfhaa.tagEach
namespace Go.Proofs.Ytdieeleaaejfhaa
/-- The row, under a short name, for the claim. -/
theorem tagEach_holds : Rows.TagEachSaid := tagEach.over
#print axioms tagEach_holds
end Go.Proofs.Ytdieeleaaejfhaa
