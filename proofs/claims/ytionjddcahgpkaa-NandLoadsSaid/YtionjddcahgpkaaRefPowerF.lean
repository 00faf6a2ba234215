/- The reference's power: which steps fail. -/
import Derived.Test.YtionjddcahgpkaaRefPower
import Derived.Test.YtionjddcahgpkaaPowerF
set_option linter.unusedVariables false
set_option maxRecDepth 100000
namespace Go.Proofs.Ytionjddcahgpkaa
open Go.RowKit

theorem retB {a b : Bool} (h : a = b) : Ending.returned (.bool a) = .returned (.bool b) := by rw [h]

theorem in_int (A : Option Addr) (c : Nat) (l : List Int) (x : Int) (w : World) (hi : Ints w A l) (hl : l.length ≤ 140737488351232) :
    Calls Try.prog 61 #[.slice A l.length c, .int .i64 x] w fun e w' => e = .returned (.bool (l.contains x)) ∧ w' = w := by
  obtain ⟨q, hq⟩ : ∃ q, l.contains x = q := ⟨_, rfl⟩
  rw [hq]
  have HQ := Lib.hid hq
  clear hq
  go_enter Try.func61, Try.ntmps61
  go_wp2_with fail
  go_loop [5] (fun v5 => ∃ k : Nat, k ≤ l.length ∧ v5 = .int .i64 (k : Int) ∧ Hid ((l.take k).contains x = false)) (fun v5 => l.length - (intOf v5).toNat)
  case atStart => exact ⟨0, Nat.zero_le _, rfl, (by show _ = _; simp)⟩
  case round =>
    obtain ⟨k, hk, rfl, hno⟩ := hrel
    by_cases hlt : k < l.length
    · obtain ⟨b, off, rfl, hcell⟩ := hi.at hlt
      have hlt' : (k : Int) < (l.length : Int) := by omega
      by_cases hx : l[k] = x
      · have hin : l.contains x = true := by rw [List.contains_iff_mem]; exact hx ▸ List.getElem_mem hlt
        have HIN := Lib.hid hin
        have hxx : (l[k] == x) = true := by simpa using hx
        clear hin hx hi
        generalize l[k] = y at *
        go_wp2_with fail
        go_ret
        exact ⟨retB (HIN.out.symm.trans HQ.out), rfl⟩
      · have HN : Hid ((l.take (k + 1)).contains x = false) := by
          show _ = _
          rw [take_snoc_contains l k hlt, hno.out]
          simpa using fun e => hx e.symm
        have hxx : (l[k] == x) = false := by simpa using hx
        clear hx hi hno
        generalize l[k] = y at *
        go_wp2_with fail
        go_round
        case rel => exact ⟨k + 1, by omega, by go_num, HN⟩
        case measure => simp [intOf]; omega
    · obtain rfl : k = l.length := by omega
      have HN := Lib.hid (show l.contains x = false by have := hno.out; rwa [List.take_length] at this)
      clear hno
      go_wp2_with fail
      go_ret
      exact ⟨retB (HN.out.symm.trans HQ.out), rfl⟩

theorem rpow_fails (b : Nat) (F : List Nat) (s : PS) (w : World) (h : RPow w b F s) (hd : s.done ≤ 1000000000000) :
    Calls Try.prog 54 #[.pointer (some ⟨b, 0, none⟩)] w fun e w' => e = .returned (.bool s.failing) ∧ ∃ n, w' = w.drewN n := by
  obtain ⟨A, c, H, hb, hi, rfl, hnb, hA, hHl, hl1, hl2, hl3⟩ := h
  rcases s with ⟨left, mask, off, fails, done⟩
  simp only at hd hl1 hl2 hl3 hi hb
  have c3 : w.cell? ⟨b, 3, none⟩ = some (.int .i64 (done : Int)) := hb.cell 3 _ rfl
  have c4 : w.cell? ⟨b, 4, none⟩ = some (.slice A fails.length c) := hb.cell 4 _ rfl
  by_cases h0 : done = 0
  · have hfail : PS.failing ⟨left, mask, off, fails, done⟩ = false := by simp [PS.failing, h0]
    rw [hfail]
    have hz : decide (0 < done) = false := by simp; omega
    clear h0 hfail hi hb
    go_enter Try.func54, Try.ntmps54
    go_wp2_with fail
    go_quiet (fail)
    go_wp2_with fail
    go_ret
    exact ⟨rfl, nq, rfl⟩
  · have hfail : PS.failing ⟨left, mask, off, fails, done⟩ = fails.contains ((done : Int) - 1) := by simp [PS.failing, show 0 < done by omega]
    rw [hfail]
    have hz : decide (0 < done) = true := by simp; omega
    have hw : IntKind.i64.wrap ((done : Int) - 1) = (done : Int) - 1 := IntWalk.i64_in _ (by omega)
    have hin := fun n => in_int A c fails ((done : Int) - 1) (w.drewN n) (hi.only ((Only.refl [] w).drewN n) (by simp)) hl3
    have HIN := Lib.hid hin
    clear hin hi hb hfail
    generalize fails.contains ((done : Int) - 1) = q at *
    go_enter Try.func54, Try.ntmps54
    go_wp2_with fail
    go_quiet ((go_at_call 61; exact Calls.quiet_of_same (HIN.out _)))
    go_wp2_with fail
    go_ret
    exact ⟨rfl, nq, rfl⟩
end Go.Proofs.Ytionjddcahgpkaa
