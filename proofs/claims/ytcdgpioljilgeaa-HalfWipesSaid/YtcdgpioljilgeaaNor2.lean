/- The contracts of a chip's calls. -/
import Derived.Test.YtcdgpioljilgeaaNor
import Derived.Deep.QuietTactic
import Derived.BigQuiet
set_option linter.unusedVariables false
set_option maxRecDepth 100000
set_option linter.unusedSimpArgs false
namespace Go.Proofs.Ytcdgpioljilgeaa
open Go.RowKit
open Go.Maps (Keyed)

section
variable {w : World} {cb bb mb : Nat} {pp : Option Addr} {g : Geo} {l : List UInt8} {N : Nat} {cnt : Int → Int}

theorem Chip.drewN (h : Chip w cb bb mb pp g l N cnt) (n : Nat) : Chip (w.drewN n) cb bb mb pp g l N cnt := h.below (below_drewN (Below.refl _ _) n)
theorem Chip.size (h : Chip w cb bb mb pp g l N cnt) : l.length ≤ 65536 ∧ 0 < l.length := by
  have hok := h.ok
  have hl := h.len
  unfold Geo.ok at hok
  have h1 : g.a * g.b ≤ 16 * 4096 := Int.mul_le_mul (by omega) (by omega) (by omega) (by omega)
  have h2 : 0 < g.a * g.b := Int.mul_pos (by omega) (by omega)
  omega

set_option maxHeartbeats 400000 in
theorem nor_geometry (h : Chip w cb bb mb pp g l N cnt) : Calls Try.prog 31 #[.pointer (some ⟨cb, 0, none⟩)] w fun e w' => e = .returned g.val ∧ Below w.heap.size w w' := by
  have hlt := h.blk.lt
  have c0 := h.blk.cell 0 _ rfl
  have c1 := h.blk.cell 1 _ rfl
  have c2 := h.blk.cell 2 _ rfl
  have c3 := h.blk.cell 3 _ rfl
  have c4 := h.blk.cell 4 _ rfl
  clear h
  rcases g with ⟨a, b, c, d, e⟩
  go_enter Try.func31, Try.ntmps31
  go_wp2_with fail
  refine bodyPost_ret (v := .agg #[.int .i64 a, .int .i64 b, .int .i64 c, .int .i64 d, .int .i64 e]) (by simp [results, Try.results31, go_sem]) rfl ⟨rfl, ?_⟩
  exact (Below.refl _ _).alloc (Nat.le_refl _) _

set_option maxHeartbeats 400000 in
theorem nor_geometry_nil : Calls Try.prog 31 #[.pointer none] w fun e w' => e = .returned (Geo.val ⟨0, 0, 0, 0, 0⟩) ∧ Below w.heap.size w w' := by
  go_enter Try.func31, Try.ntmps31
  go_wp2_with fail
  refine bodyPost_ret (v := .agg #[.int .i64 0, .int .i64 0, .int .i64 0, .int .i64 0, .int .i64 0]) (by simp [results, Try.results31, go_sem]) rfl ⟨rfl, ?_⟩
  exact (Below.refl _ _).alloc (Nat.le_refl _) _

set_option maxHeartbeats 400000 in
theorem nor_power (h : Chip w cb bb mb pp g l N cnt) : Calls Try.prog 30 #[.pointer (some ⟨cb, 0, none⟩)] w fun e w' => e = .returned (.pointer pp) ∧ w = w' := by
  have c5 := h.blk.cell 5 _ rfl
  go_enter Try.func30, Try.ntmps30
  go_wp2_with fail
  go_ret
  exact ⟨rfl, rfl⟩

set_option maxHeartbeats 400000 in
theorem nor_power_nil : Calls Try.prog 30 #[.pointer none] w fun e w' => e = .returned (.pointer none) ∧ w = w' := by
  go_enter Try.func30, Try.ntmps30
  go_wp2_with fail
  go_ret
  exact ⟨rfl, rfl⟩

set_option maxHeartbeats 1000000 in
theorem nor_ask (h : Chip w cb bb mb pp g l N cnt) (x n : Int) (hx : -9223372036854775808 ≤ x ∧ x ≤ 9223372036854775807) (hn : -9223372036854775808 ≤ n ∧ n ≤ 9223372036854775807) :
    Calls Try.prog 62 #[.pointer (some ⟨cb, 0, none⟩), .int .i64 x, .int .i64 n] w fun e w' => e = .returned (.int .i64 (askE l.length x n)) ∧ w = w' := by
  have c6 := h.blk.cell 6 _ rfl
  have hz := h.size
  obtain ⟨L, hL⟩ : ∃ L, l.length = L := ⟨_, rfl⟩
  rw [hL] at c6 hz ⊢
  clear hL
  by_cases h1 : x < 0
  · have HE := Lib.hid (show askE L x n = 1 by unfold askE; rw [if_pos (Or.inl h1)])
    go_enter Try.func62, Try.ntmps62
    go_wp2_with fail
    go_ret
    exact ⟨by rw [HE.out]; rfl, rfl⟩
  · by_cases h2 : n < 0
    · have HE := Lib.hid (show askE L x n = 1 by unfold askE; rw [if_pos (Or.inr (Or.inl h2))])
      go_enter Try.func62, Try.ntmps62
      go_wp2_with fail
      go_ret
      exact ⟨by rw [HE.out]; rfl, rfl⟩
    · by_cases h3 : (L : Int) - n < x
      · have HE := Lib.hid (show askE L x n = 1 by unfold askE; rw [if_pos (Or.inr (Or.inr h3))])
        go_enter Try.func62, Try.ntmps62
        go_wp2_with fail
        go_ret
        exact ⟨by rw [HE.out]; rfl, rfl⟩
      · have HE := Lib.hid (show askE L x n = 0 by unfold askE; rw [if_neg (by omega)])
        go_enter Try.func62, Try.ntmps62
        go_wp2_with fail
        go_ret
        exact ⟨by rw [HE.out]; rfl, rfl⟩

theorem askE_ok {L : Nat} {x n : Int} (h : askE L x n = 0) : 0 ≤ x ∧ 0 ≤ n ∧ x + n ≤ L := by
  unfold askE at h
  split at h
  · cases h
  · omega
theorem askE_bad {L : Nat} {x n : Int} (h : askE L x n ≠ 0) : askE L x n = 1 := by
  unfold askE at h ⊢
  split at h
  · rw [if_pos (by assumption)]
  · exact (h rfl).elim

/-- The bytes that are read. -/
def readL (l : List UInt8) (x n : Int) : List UInt8 := if askE l.length x n = 0 then (l.drop x.toNat).take n.toNat else []

set_option maxHeartbeats 1000000 in
theorem nor_read (h : Chip w cb bb mb pp g l N cnt) (x n : Int) (hx : -9223372036854775808 ≤ x ∧ x ≤ 9223372036854775807) (hn : -9223372036854775808 ≤ n ∧ n ≤ 9223372036854775807) :
    Calls Try.prog 20 #[.pointer (some ⟨cb, 0, none⟩), .int .i64 x, .int .i64 n] w fun e w' => ∃ v, e = .returned (.tuple #[v, .int .i64 (askE l.length x n)]) ∧ Own w' w.heap.size v (readL l x n) ∧ Below w.heap.size w w' := by
  by_cases ha : askE l.length x n = 0
  · obtain ⟨h1, h2, h3⟩ := askE_ok ha
    have HA := Lib.hid ha
    have HR := Lib.hid (show readL l x n = (l.drop x.toNat).take n.toNat by unfold readL; rw [if_pos ha])
    obtain ⟨i, rfl⟩ : ∃ i : Nat, x = (i : Int) := ⟨x.toNat, by omega⟩
    obtain ⟨k, rfl⟩ : ∃ k : Nat, n = (k : Int) := ⟨n.toNat, by omega⟩
    simp only [Int.toNat_natCast] at HR
    have hz := h.size
    have c6 := h.blk.cell 6 _ rfl
    have H1 := Lib.hid (nor_ask h (i : Int) (k : Int) hx hn)
    have hm := h.mem.read
    clear ha h
    obtain ⟨L, hL⟩ : ∃ L, l.length = L := ⟨_, rfl⟩
    rw [hL] at c6 hz h3 H1 HA ⊢
    have HL := Lib.hid hL
    clear hL
    have hik : i + k ≤ L := by omega
    go_enter Try.func20, Try.ntmps20
    go_upto_region 2 with (go_at_call 62; refine H1.out.mono ?_; rintro e w' ⟨rfl, rfl⟩; rw [HA.out])
    have hw : IntKind.i64.wrap ((i : Int) + (k : Int)) = ((i + k : Nat) : Int) := by rw [← Int.natCast_add]; exact IntWalk.i64_in _ (by omega)
    go_wp2_with (first
      | (refine wpList_wanted (by rfl) fun K hK => wp_slice_byts _ _ _ rfl i (i + k) rfl (Or.inr ⟨_, _, rfl, rfl⟩) (Or.inr ⟨_, _, rfl, by first | rfl | (rw [Int.natCast_add]; rfl)⟩) (by omega) (by omega) ?_; intro A' e1 e2 e3; refine hK _ _ ?_; clear hK K)
      | (go_at_call 65; refine (clone_byts _ _ _ _ _ (e1 _ l hm (by rw [HL.out]; omega) (Nat.le_of_eq HL.out)) (by simp [HL.out]; omega) (by simp [HL.out]; omega)).mono ?_; rintro e w' ⟨v, rfl, hown, hb⟩))
    go_ret2
    refine ⟨_, by rw [HA.out]; rfl, ?_, hb⟩
    rw [HR.out]
    have : ((l.take (i + k)).drop i) = (l.drop i).take k := by rw [List.drop_take]; congr 1; omega
    rw [← this]
    exact hown
  · have ha1 := askE_bad ha
    have HA := Lib.hid ha1
    have HR := Lib.hid (show readL l x n = [] by unfold readL; rw [if_neg ha])
    have H1 := Lib.hid (nor_ask h x n hx hn)
    clear ha ha1 h
    go_enter Try.func20, Try.ntmps20
    go_wp2_with (go_at_call 62; refine H1.out.mono ?_; rintro e w' ⟨rfl, rfl⟩; rw [HA.out])
    go_ret2
    exact ⟨_, by rw [HA.out]; rfl, by rw [HR.out]; exact Own.nil _ _, Below.refl _ _⟩

theorem arr1Keyed : Keyed Try.prog 102 := Keyed.of_law (deep_law_gate (by kernel_rfl) (of_decide_eq_true (by kernel_rfl)) (of_decide_eq_true (by kernel_rfl)) (by kernel_rfl) (by kernel_rfl))
theorem wfOf {x : Int} (hx : -9223372036854775808 ≤ x ∧ x ≤ 9223372036854775807) : (Lit.int .i64 x).wf = true := by
  simp [Lit.wf, IntKind.min, IntKind.max, IntKind.signed, IntKind.bits]; omega
theorem arr1_key (x : Int) (h : (Lit.int .i64 x).wf = true) : ∃ kl, keyOf Try.prog 102 (.agg #[.int .i64 x]) = some kl :=
  key_array1 (of_decide_eq_true (by kernel_rfl)) Try.underlying102 (by kernel_rfl) (by kernel_rfl) Try.underlying3 (by kernel_rfl) x h
theorem zeroInt (w : World) : (zeroValue 3).run Try.prog w = .ok (.int .i64 0) w := by kernel_rfl

set_option maxHeartbeats 1000000 in
theorem nor_erases (h : Chip w cb bb mb pp g l N cnt) (x : Int) (hx : -9223372036854775808 ≤ x ∧ x ≤ 9223372036854775807) :
    Calls Try.prog 22 #[.pointer (some ⟨cb, 0, none⟩), .int .i64 x] w fun e w' => e = .returned (.int .i64 (cnt x)) ∧ w = w' := by
  have c7 := h.blk.cell 7 _ rfl
  obtain ⟨f, hm, hf⟩ := h.map
  obtain ⟨kl, hkey⟩ := arr1_key x (wfOf hx)
  have hlook := hm.look arr1Keyed Try.underlying90 (zeroInt w) false hkey
  rw [hf x (wfOf hx)] at hlook
  simp only [Bool.false_eq_true, if_false] at hlook
  clear hf hm h hkey
  go_enter Try.func22, Try.ntmps22
  go_wp2_with fail
  go_ret
  exact ⟨rfl, rfl⟩

/-- The place of a sector. -/
def secOk (g : Geo) (x : Int) : Prop := 0 ≤ x ∧ x < g.a
instance (g : Geo) (x : Int) : Decidable (secOk g x) := by unfold secOk; infer_instance

set_option maxHeartbeats 1000000 in
theorem nor_sector_bad (h : Chip w cb bb mb pp g l N cnt) (x : Int) (hx : ¬ secOk g x) :
    Calls Try.prog 66 #[.pointer (some ⟨cb, 0, none⟩), .int .i64 x] w fun e w' => e = .returned (.slice none 0 0) ∧ w = w' := by
  have c0 := h.blk.cell 0 _ rfl
  unfold secOk at hx
  by_cases h1 : x < 0
  · go_enter Try.func66, Try.ntmps66
    go_wp2_with fail
    go_ret
    exact ⟨rfl, rfl⟩
  · have h2 : g.a ≤ x := by omega
    clear hx
    go_enter Try.func66, Try.ntmps66
    go_wp2_with fail
    go_ret
    exact ⟨rfl, rfl⟩

set_option maxHeartbeats 1000000 in
theorem nor_sector (h : Chip w cb bb mb pp g l N cnt) (i : Nat) (hx : secOk g (i : Int)) :
    Calls Try.prog 66 #[.pointer (some ⟨cb, 0, none⟩), .int .i64 (i : Int)] w fun e w' => ∃ c, e = .returned (.slice (some ⟨bb, i * g.b.toNat, none⟩) g.b.toNat c) ∧ g.b.toNat ≤ c ∧ i * g.b.toNat + g.b.toNat ≤ l.length ∧ ∃ n, w' = w.drewN n := by
  have c0 := h.blk.cell 0 _ rfl
  have c1 := h.blk.cell 1 _ rfl
  have c6 := h.blk.cell 6 _ rfl
  have hz := h.size
  have hl := h.len
  have hok := h.ok
  unfold secOk at hx
  unfold Geo.ok at hok
  obtain ⟨L, hL⟩ : ∃ L, l.length = L := ⟨_, rfl⟩
  rw [hL] at c6 hz hl ⊢
  clear hL h
  rcases g with ⟨a, b, c, d, e⟩
  simp only at *
  obtain ⟨sz, rfl⟩ : ∃ sz : Nat, b = (sz : Int) := ⟨b.toNat, by omega⟩
  obtain ⟨sa, rfl⟩ : ∃ sa : Nat, a = (sa : Int) := ⟨a.toNat, by omega⟩
  have hLs : L = sa * sz := by
    have : ((sa * sz : Nat) : Int) = (sa : Int) * (sz : Int) := by push_cast; rfl
    omega
  have hi : i < sa := by omega
  have hle : i * sz + sz ≤ L := by
    rw [hLs, ← Nat.succ_mul]
    exact Nat.mul_le_mul_right _ hi
  have hi16 : (i : Int) < 16 := by omega
  simp only [Int.toNat_natCast]
  obtain ⟨lo, hlo⟩ : ∃ lo, i * sz = lo := ⟨_, rfl⟩
  have hm1 : IntKind.i64.wrap ((i : Int) * (sz : Int)) = (lo : Int) := by
    rw [← Int.natCast_mul, hlo]; exact IntWalk.i64_in _ (by omega)
  have hm0 : IntKind.i64.wrap ((i : Int) + 1) = (i : Int) + 1 := IntWalk.i64_in _ (by omega)
  have hm2 : IntKind.i64.wrap (((i : Int) + 1) * (sz : Int)) = ((lo + sz : Nat) : Int) := by
    have : ((i : Int) + 1) * (sz : Int) = ((lo + sz : Nat) : Int) := by rw [Int.add_mul, Int.one_mul, ← Int.natCast_mul, hlo]; push_cast; rfl
    rw [this]; exact IntWalk.i64_in _ (by omega)
  rw [hlo] at hle ⊢
  have hn0 : ¬ (i : Int) < 0 := by omega
  have hn1 : ¬ (sa : Int) ≤ (i : Int) := by omega
  have q1 : (0 : Int) ≤ (lo : Int) := by omega
  have q2 : (lo : Int) ≤ ((lo + sz : Nat) : Int) := by omega
  have q3 : ((lo + sz : Nat) : Int) ≤ (L : Int) := by omega
  have q4 : ¬ L = lo := by omega
  have HF := Lib.hid (And.intro hle hok)
  clear hle hok hx hl hLs hlo hi
  go_enter Try.func66, Try.ntmps66
  go_upto_region 3 with fail
  go_quiet (fail)
  go_wp2_with fail
  go_ret
  exact ⟨_, rfl, by have := HF.out.1; omega, HF.out.1, nq, rfl⟩

theorem orL_length (l : List UInt8) (o n : Nat) (m : UInt8) (h : o + n ≤ l.length) : (orL l o n m).length = l.length := by
  unfold orL
  simp only [List.length_append, List.length_take, List.length_map, List.length_drop]
  omega
theorem orL_zero (l : List UInt8) (o : Nat) (m : UInt8) : orL l o 0 m = l := by simp [orL]
theorem orL_get (l : List UInt8) (o n : Nat) (m : UInt8) (h : o + n ≤ l.length) (k : Nat) (hk : k < l.length) : (orL l o n m)[k]? = some (if o ≤ k ∧ k < o + n then l[k] ||| m else l[k]) := by
  unfold orL
  by_cases h1 : k < o
  · rw [List.append_assoc, List.getElem?_append_left (by simp; omega), List.getElem?_take_of_lt h1, if_neg (by omega)]
    exact List.getElem?_eq_getElem hk
  · by_cases h2 : k < o + n
    · rw [List.getElem?_append_left (by simp; omega), List.getElem?_append_right (by simp; omega), if_pos ⟨by omega, h2⟩]
      rw [List.length_take, Nat.min_eq_left (by omega), List.getElem?_map, List.getElem?_take_of_lt (by omega), List.getElem?_drop]
      rw [show o + (k - o) = k by omega, List.getElem?_eq_getElem hk]
      rfl
    · rw [List.getElem?_append_right (by simp; omega), if_neg (by omega), List.getElem?_drop]
      have : (List.take o l ++ List.map (fun x => x ||| m) (List.take n (List.drop o l))).length = o + n := by simp; omega
      rw [this, show o + n + (k - (o + n)) = k by omega]
      exact List.getElem?_eq_getElem hk
theorem orL_succ (l : List UInt8) (o n : Nat) (m : UInt8) (h : o + (n + 1) ≤ l.length) : (orL l o n m).set (o + n) (l[o + n] ||| m) = orL l o (n + 1) m := by
  apply List.ext_getElem?
  intro k
  by_cases hk : k < l.length
  · rw [orL_get l o (n + 1) m h k hk, List.getElem?_set]
    by_cases e : o + n = k
    · subst e
      rw [if_pos rfl, if_pos (by rw [orL_length _ _ _ _ (by omega)]; omega), if_pos ⟨by omega, by omega⟩]
    · rw [if_neg e, orL_get l o n m (by omega) k hk]
      by_cases h1 : o ≤ k ∧ k < o + n
      · rw [if_pos h1, if_pos (by omega)]
      · rw [if_neg h1, if_neg (by omega)]
  · rw [List.getElem?_eq_none (by rw [List.length_set, orL_length _ _ _ _ (by omega)]; omega), List.getElem?_eq_none (by rw [orL_length _ _ _ _ h]; omega)]
theorem orL_at (l : List UInt8) (o n : Nat) (m : UInt8) (h : o + n < l.length) : (orL l o n m)[o + n]'(by rw [orL_length _ _ _ _ (by omega)]; exact h) = l[o + n] := by
  have h1 := orL_get l o n m (by omega) (o + n) h
  rw [if_neg (by omega), List.getElem?_eq_getElem (by rw [orL_length _ _ _ _ (by omega)]; exact h)] at h1
  exact Option.some.inj h1
end

set_option maxHeartbeats 2000000 in
theorem nor_set (w : World) (gb N o n c : Nat) (l : List UInt8) (m : UInt8) (hm : MemC w gb N l) (hon : o + n ≤ l.length) (hn : n ≤ 100000000) :
    Calls Try.prog 67 #[.slice (some ⟨gb, o, none⟩) n c, .int .u8 (m.toNat : Int)] w fun e w' => e = .returned (.tuple #[]) ∧ MemC w' gb N (orL l o n m) ∧ Only [gb] w w' := by
  obtain ⟨w0, rfl⟩ : ∃ w0 : World, w0 = w := ⟨_, rfl⟩
  go_enter Try.func67, Try.ntmps67
  go_upto_region 1 with fail
  go_loopw [7] (fun v7 wr => ∃ j : Nat, j ≤ n ∧ v7 = .int .i64 (j : Int) ∧ MemC wr gb N (orL l o j m) ∧ Only [gb] w0 wr) (fun v7 _ => n - (intOf v7).toNat)
  case atStart => exact ⟨0, Nat.zero_le _, rfl, by rw [orL_zero]; exact hm, Only.refl _ _⟩
  case round =>
    clear hm
    obtain ⟨j, hj, rfl, hm, ho⟩ := hrel
    by_cases hlt : j < n
    · have hoj : o + j < l.length := by omega
      have hc := hm.get (i := o + j) (by rw [orL_length _ _ _ _ (by omega)]; exact hoj)
      rw [orL_at _ _ _ _ hoj] at hc
      have hf := hm.frz (o + j)
      have hor := or_u8 l[o + j] m
      have hs := hm.set (o + j) (l[o + j] ||| m)
      rw [orL_succ _ _ _ _ (by omega)] at hs
      have ho2 := ho.setCell (p := ⟨gb, o + j, none⟩) (Or.inl (by simp)) (.int .u8 ((l[o + j] ||| m).toNat : Int))
      have HS := Lib.hid (And.intro hs ho2)
      clear hs ho2 hm ho
      generalize l[o + j] = x at *
      go_wp2_with fail
      go_roundw
      case rel => exact ⟨j + 1, by omega, by go_num, HS.out.1, HS.out.2⟩
      case measure => simp [intOf]; omega
    · obtain rfl : j = n := by omega
      go_wp2_with fail
      go_end0
      exact ⟨rfl, hm, ho⟩
end Go.Proofs.Ytcdgpioljilgeaa
