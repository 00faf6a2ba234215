/- make of bytes, as an equation for the walk. -/
import Derived.Test.YtionjddcahgpkaaMem
set_option linter.unusedVariables false
set_option maxRecDepth 100000
namespace Go.Proofs.Ytionjddcahgpkaa
open Go.RowKit

/-- So many bytes 0, as cells. -/
def zsN (n : Nat) : List Value := List.replicate n (.int .u8 0)
theorem zsN_length (n : Nat) : (zsN n).length = n := by simp [zsN]

theorem run_make_zs (n : Nat) (hn : n ≤ 100000) (w : World) : (Instr.makeSlice 33 (.int .i64 (n : Int)) (.int .i64 (n : Int))).run Try.prog w = .ok (.slice (some ⟨w.heap.size, 0, none⟩) n n) (w.alloc (.cells (zsN n).toArray 5 (0, 0))) := by
  obtain ⟨i0, hi, hz0, hz1, hz2⟩ := info_parts info_u8
  have hr := run_make (P := Try.prog) w 33 5 i0 (.int .u8 0) Try.underlying33 hi hz0 .i64 .i64 (n : Int) (n : Int) (by omega) (by omega) (by rw [hz2]; omega) (by omega)
  simp only [hz1, Int.toNat_natCast] at hr
  have e : madeCells (Value.int .u8 0).cells (n * 1) = (zsN n).toArray := by
    apply Array.ext'
    unfold zsN madeCells
    apply List.ext_getElem
    · simp
    · intro i h1 h2
      simp [Value.cells, Nat.mod_one]
  rw [e] at hr
  exact hr

theorem own_zs (n : Nat) (hn : n ≤ 100000) (w : World) (B : Nat) (hB : B ≤ w.heap.size) : Own (w.alloc (.cells (zsN n).toArray 5 (0, 0))) B (.slice (some ⟨w.heap.size, 0, none⟩) n n) (List.replicate n 0) := by
  unfold Own
  rw [List.length_replicate]
  refine ⟨by simp [cellsB], Or.inr ⟨w.heap.size, n, _, rfl, hB, heap_alloc_new w _, Nat.le_refl _, by unfold maxLen; omega, by simp [zsN], ?_⟩⟩
  have : cellsB (List.replicate n 0) = zsN n := by unfold cellsB zsN; rw [List.map_replicate]; rfl
  rw [this]
  apply List.take_of_length_le
  simp [zsN]

theorem run_conv_str {w : World} {A : Option Addr} {n c : Nat} {l : List UInt8} (hb : Byts w A l) (hn : n = l.length) :
    (convert 33 9 (.slice A n c)).run Try.prog w = .ok (.string (strOf l)) w := by
  subst hn
  rcases hb with rfl | ⟨b, off, rfl, hc⟩
  · cases A with
    | none => exact run_convert_bytes_nil (P := Try.prog) (w := w) _ _ Try.underlying33 Try.underlying5 _ _ _ Try.underlying9
    | some ad => exact run_convert_bytes_back w _ _ _ ad c [] Try.underlying33 Try.underlying5 Try.underlying9 (fun j hj => by simp at hj)
  · exact run_convert_bytes_back w _ _ _ ⟨b, off, none⟩ c l Try.underlying33 Try.underlying5 Try.underlying9 (fun j hj => by rw [add_none]; exact hc j hj)

end Go.Proofs.Ytionjddcahgpkaa
