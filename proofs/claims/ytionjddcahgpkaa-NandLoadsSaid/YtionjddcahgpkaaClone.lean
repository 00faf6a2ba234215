/- slices.Clone of bytes. -/
import Derived.Test.YtionjddcahgpkaaHelp
set_option linter.unusedVariables false
set_option maxRecDepth 100000
namespace Go.Proofs.Ytionjddcahgpkaa
open Go.RowKit

/-! ### slices.Clone -/

set_option maxHeartbeats 400000 in
theorem clone_byts (A : Option Addr) (n c : Nat) (l : List UInt8) (w : World) (hb : Byts w A l) (hn : n = l.length) (hl : l.length ≤ 140737488355328) :
    Calls Try.prog 58 #[.slice A n c] w (Ret fun v w' => Own w' w.heap.size v l ∧ Below w.heap.size w w') := by
  subst hn
  cases A with
  | none =>
    have h0 : l = [] := by
      rcases hb with h | ⟨b, off, e, _⟩
      · exact h
      · cases e
    subst h0
    have hnil := Lib.run_eql_slice_nil (P := Try.prog) w 33 5 none 0 c 0 0 Try.underlying33
    go_enter Try.func58, Try.ntmps58
    go_wp2_with fail
    go_ret
    exact Ret.mk ⟨Own.nil _ _, Below.refl _ _⟩
  | some x =>
    have hnil := Lib.run_eql_slice_nil (P := Try.prog) w 33 5 (some x) l.length c 0 0 Try.underlying33
    have hown : ∀ o : Obj, o = .cells #[] 5 → Own (w.alloc o) w.heap.size (.slice (some ⟨w.heap.size, 0, none⟩) 0 0) [] := by
      rintro o rfl
      exact ⟨rfl, Or.inr ⟨w.heap.size, 0, #[], rfl, Nat.le_refl _, heap_alloc_new w _, Nat.le_refl _, by unfold maxLen; omega, rfl, rfl⟩⟩
    have hb1 := hb.alloc (.cells #[] 5)
    go_enter Try.func58, Try.ntmps58
    go_wp2_with (at_builtin; refine wpList_append_byts (by rfl) _ _ rfl rfl rfl (hown _ rfl) hb1 rfl (by simpa using hl) (by simp) ?_; intro v' w' h1 h2 h3)
    go_ret
    exact Ret.mk ⟨by simpa using h1, (below_alloc w _).grown h2 (by simp) (fun k e => by cases e; exact Nat.le_refl _)⟩

end Go.Proofs.Ytionjddcahgpkaa
