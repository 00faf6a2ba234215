/- The walks of SumParts and SumEach: true for every input. -/
import Derived.Test.YtcdbndgmfjlmbaaLawSum
import Derived.Test.YtcdbndgmfjlmbaaOwn
import Derived.Test.YtcdbndgmfjlmbaaSumP
import Derived.Outline
import Derived.Deep.DeepCutAuto
import Derived.Deep.CutBlock
set_option linter.unusedVariables false
namespace Go.Proofs.Ytcdbndgmfjlmbaa
open Go.RowKit

theorem and_low (n : Nat) (h : n < 4294967296) : bits .and .u32 (n : Int) 65535 = (n : Int) % 65536 := by
  have := u32_and_nat n 65535 h (by decide)
  rw [show ((65535 : Nat) : Int) = 65535 from rfl] at this
  rw [this, show (65535 : Nat) = 2 ^ 16 - 1 from rfl, Nat.and_two_pow_sub_one_eq_mod]
  omega

/-- What SumParts holds against each other. -/
theorem parts_pure (a b : List UInt8) (hb : b.length ≤ 300) :
    (((sumN (a ++ b) : Int) % 65536) == (((sumN a : Int) % 65536 + (sumN b : Int) % 65536 + 65520) % 65521)) = true ∧
    (((sumN (a ++ b) : Int) / 65536) == (((sumN a : Int) / 65536 + (sumN b : Int) / 65536 + (b.length : Int) * ((sumN a : Int) % 65536 + 65520)) % 65521)) = true := by
  have h0 := halves_append a b 1 0
  have ha := halves_lt a 1 0 (by decide) (by decide)
  have h1 := halves_closed b _ _ ha.1 ha.2
  have h2 := halves_closed b 1 0 (by decide) (by decide)
  have e1 : sumN (a ++ b) = ((halves a 1 0).2 + b.length * (halves a 1 0).1 + sW b) % 65521 * 65536 + ((halves a 1 0).1 + sS b) % 65521 := by
    unfold sumN; rw [h0, h1]
  have e2 : sumN b = (b.length + sW b) % 65521 * 65536 + (1 + sS b) % 65521 := by
    unfold sumN; rw [h2]; simp
  have e3 : sumN a = (halves a 1 0).2 * 65536 + (halves a 1 0).1 := rfl
  rw [e1, e2, e3]
  generalize (halves a 1 0).2 = q at *
  generalize (halves a 1 0).1 = p at *
  have e4 : (((q * 65536 + p : Nat) : Int) % 65536 + 65520) = ((p + 65520 : Nat) : Int) := by omega
  rw [e4, ← Int.natCast_mul, Nat.mul_add]
  generalize b.length * p = m at *
  clear h0 h1 h2 e1 e2 e3 e4
  constructor
  · rw [beq_iff_eq]; omega
  · rw [beq_iff_eq]; omega

set_option maxRecDepth 100000 in
set_option maxHeartbeats 1000000 in
theorem sumParts_walk {w : World} (A : Option Addr) (c : Nat) (l : List UInt8) (hcap : l.length ≤ c ∧ c ≤ maxLen) (hb : Byts w A l) (hl : l.length ≤ 140737488351232)
    (A' : Option Addr) (c' : Nat) (l' : List UInt8) (hcap' : l'.length ≤ c' ∧ c' ≤ maxLen) (hb' : Byts w A' l') (hl' : l'.length ≤ 140737488351232) :
    Calls Try.prog 5 #[.slice A l.length c, .slice A' l'.length c'] w fun e w' => e = .returned (.bool true) ∧ Below w.heap.size w w' := by
  clear hcap hcap'
  by_cases h1 : (300 : Int) < l.length
  · go_enter Try.func5, Try.ntmps5
    go_wp2_with (go_at_call 15; refine (awake02 _).mono ?_; rintro e w' ⟨rfl, hbel⟩)
    go_ret
    exact ⟨rfl, hbel⟩
  by_cases h2 : (300 : Int) < l'.length
  · go_enter Try.func5, Try.ntmps5
    go_wp2_with (go_at_call 15; refine (awake02 _).mono ?_; rintro e w' ⟨rfl, hbel⟩)
    go_ret
    exact ⟨rfl, hbel⟩
  have hp := parts_pure l l' (by omega)
  have ea := and_low _ (sumN_lt l)
  have eb := and_low _ (sumN_lt l')
  have ez := and_low _ (sumN_lt (l ++ l'))
  have ta := sumN_lt l
  have tb := sumN_lt l'
  have tz := sumN_lt (l ++ l')
  have hm1 : l.length ≤ maxLen := by unfold maxLen; omega
  have hm2 : l'.length ≤ maxLen := by unfold maxLen; omega
  have hm3 : (l ++ l').length ≤ maxLen := by simp; unfold maxLen; omega
  have hw0 := Nat.le_refl w.heap.size
  have hpr : 0 ≤ (l'.length : Int) * ((sumN l : Int) % 65536 + 65520) ∧ (l'.length : Int) * ((sumN l : Int) % 65536 + 65520) ≤ 300 * 131056 := by
    have h0 : 0 ≤ (sumN l : Int) % 65536 + 65520 ∧ (sumN l : Int) % 65536 + 65520 ≤ 131056 := by omega
    exact ⟨Int.mul_nonneg (by omega) h0.1, Int.mul_le_mul (by omega) h0.2 h0.1 (by omega)⟩
  obtain ⟨hp1, hp2⟩ := hp
  go_enter Try.func5, Try.ntmps5
  go_upto_region 4 with (first
    | (go_at_call 16; refine (sum_of _ _ _ _ _ (by assumption) (by first | rfl | simp) (by assumption)).mono ?_; rintro e w' ⟨rfl, rfl⟩)
    | (at_builtin; refine wpList_clone_byts (by rfl) _ rfl rfl hb rfl (by omega) hw0 ?_; intro vx w1 hx hbel1 hp1; have hb1' := hb'.below hbel1; have hs1 := hbel1.size; clear hp1 hw0 hb)
    | (at_builtin; refine wpList_append_byts (by rfl) _ _ rfl rfl rfl hx hb1' rfl (by omega) hs1 ?_; intro vy w2 hy hg2 hp2; have hbel2 := hbel1.grown hg2 hs1 (fun k e => (hx.lt e).1); obtain ⟨Ay, cy, rfl, hcy, hby, _⟩ := hy.byts; rw [List.length_append] at hcy ⊢; clear hp2 hx hg2))
  go_wp2_with (go_at_call 15; refine (awake02 _).mono ?_; rintro e w3 ⟨rfl, hbel3⟩)
  go_ret
  exact ⟨rfl, hbel2.trans (hbel3.mono hbel2.size)⟩

theorem sumN_one (y : UInt8) : sumN [y] = (1 + y.toNat) * 65536 + (1 + y.toNat) := by
  have := y.toNat_lt
  unfold sumN
  simp only [halves]
  omega

theorem sumN_zeros (n : Nat) (h : n < 500) : sumN (List.replicate n 0) = n * 65536 + 1 := by
  unfold sumN
  rw [halves_closed _ _ _ (by decide) (by decide)]
  have h1 : ∀ n, sS (List.replicate n 0) = 0 := by
    intro n; induction n with
    | zero => rfl
    | succ n ih => simp [List.replicate_succ, sS, ih]
  have h2 : ∀ n, sW (List.replicate n 0) = 0 := by
    intro n; induction n with
    | zero => rfl
    | succ n ih => simp [List.replicate_succ, sW, ih]
  rw [h1, h2, List.length_replicate]
  simp only [Nat.zero_add, Nat.mul_one, Nat.add_zero]
  omega

theorem or_wide {p q : Nat} (hp : p < 65536) (hq : q < 65536) : Go.bits .or .u32 ((q : Int) * 65536) (p : Int) = ((q * 65536 + p : Nat) : Int) := by
  rw [bits_join .u32 32 (by decide) (fun n h0 h1 => by rw [IntKind.wrap_u32]; omega) 16 _ _ (by omega) (by omega) (by omega) (by omega) (by omega) (by omega)]
  omega

set_option maxRecDepth 100000 in
set_option maxHeartbeats 1000000 in
theorem sumEach_walk {w : World} (c : Int) (wc : (Lit.int .u8 c).wf = true) (n : Int) (wn : (Lit.int .i64 n).wf = true) :
    Calls Try.prog 6 #[.int .u8 c, .int .i64 n] w fun e w' => e = .returned (.bool true) ∧ Below w.heap.size w w' := by
  obtain ⟨m, hm, hml⟩ : ∃ i : Nat, wrap64 ((IntKind.u64.wrap n).tmod 500) = (i : Int) ∧ i < 500 := mod_len n 500 (by decide) (by decide)
  obtain ⟨y, rfl⟩ : ∃ y : UInt8, c = (y.toNat : Int) := byte_of (wf_u8 wc)
  clear wc wn
  have hy := y.toNat_lt
  have hy1 : ((sumN [y] : Int) == bits .or .u32 ((1 + (y.toNat : Int)) * 65536) (1 + (y.toNat : Int))) = true := by
    have o1 := or_wide (p := 1 + y.toNat) (q := 1 + y.toNat) (by omega) (by omega)
    rw [sumN_one y, beq_iff_eq, ← o1]
    simp
  have hy2 : ((sumN (List.replicate m 0) : Int) == bits .or .u32 ((m : Int) * 65536) 1) = true := by
    have o2 := or_wide (p := 1) (q := m) (by omega) (by omega)
    rw [sumN_zeros m hml, beq_iff_eq, ← o2]
    rfl
  have hlm : (List.replicate m (0 : UInt8)).length ≤ maxLen := by simp; unfold maxLen; omega
  have hl1 : [y].length ≤ maxLen := by simp [maxLen]
  go_enter Try.func6, Try.ntmps6
  go_upto_region 2 with fail
  rw [hm]
  clear hm
  go_wp2_with (first
    | (go_at_call 15; refine (awake02 _).mono ?_; rintro e w1 ⟨rfl, hbel1⟩; have hs1 := hbel1.size)
    | (go_at_call 16; ((with_reducible refine (sum_of _ _ _ _ _ (byts_one _ _) (by simp) hl1).mono ?_); rintro e w' ⟨rfl, rfl⟩; have hbel2 := hbel1.alloc hs1 (.cells #[.int .u8 (y.toNat : Int)] 5); have hs2 := hbel2.size))
    | (go_at_call 16; ((with_reducible refine (sum_of _ _ _ _ _ hz.read (by simp) hlm).mono ?_); rintro e w' ⟨rfl, rfl⟩))
    | (at_make; refine wpList_make_byts (by rfl) _ _ rfl rfl rfl rfl rfl (by omega) hs2 ?_; intro g3 w3 hg3 hz hbel3 hlt3; clear hg3))
  go_ret
  exact ⟨rfl, hbel2.trans (hbel3.mono hs2)⟩
end Go.Proofs.Ytcdbndgmfjlmbaa
