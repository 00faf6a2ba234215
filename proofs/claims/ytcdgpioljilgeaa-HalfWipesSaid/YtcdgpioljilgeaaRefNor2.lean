/- The reference's chip: its calls. -/
import Derived.Test.YtcdgpioljilgeaaRefNor
set_option linter.unusedVariables false
set_option maxRecDepth 100000
set_option linter.unusedSimpArgs false
namespace Go.Proofs.Ytcdgpioljilgeaa
open Go.RowKit

/-- How often each of so many sectors was erased, as cells. -/
def cntCells (S : Nat) (cnt : Int → Int) : List Value := (List.range S).map fun (i : Nat) => Value.int .i64 (cnt (i : Int))
theorem cntCells_get {S : Nat} {cnt : Int → Int} {i : Nat} (hi : i < S) : (cntCells S cnt)[i]? = some (.int .i64 (cnt (i : Int))) := by simp [cntCells, hi]
theorem cntCells_up {S : Nat} {cnt : Int → Int} {i : Nat} : (cntCells S cnt).set i (.int .i64 (cnt (i : Int) + 1)) = cntCells S (upC cnt (i : Int)) := by
  apply List.ext_getElem?
  intro k
  rw [List.getElem?_set]
  by_cases hk : k < S
  · rw [cntCells_get hk]
    by_cases e : i = k
    · subst e
      rw [if_pos rfl, if_pos (by simp [cntCells]; exact hk), cntCells_get hk]
      simp [upC]
    · rw [if_neg e, cntCells_get hk]
      have : ¬ (k : Int) = (i : Int) := by omega
      simp [upC, this]
  · have h1 : (cntCells S (upC cnt (i : Int)))[k]? = none := by rw [List.getElem?_eq_none]; simp [cntCells]; omega
    rw [h1]
    by_cases e : i = k
    · rw [if_pos e, if_neg (by simp [cntCells]; omega)]
    · rw [if_neg e, List.getElem?_eq_none]; simp [cntCells]; omega

/-- The reference's chip at block rb. -/
structure RNor (w : World) (rb bb kb : Nat) (rp : Option Addr) (g : Geo) (l : List UInt8) (N : Nat) (cnt : Int → Int) : Prop where
  blk : Blk w rb 59 [.int .i64 g.a, .int .i64 g.b, .int .i64 g.c, .int .i64 g.d, .int .i64 g.e, .pointer rp, .slice (some ⟨bb, 0, none⟩) l.length l.length, .slice (some ⟨kb, 0, none⟩) g.a.toNat g.a.toNat]
  mem : MemC w bb l.length l
  cn : Blk w kb 3 (cntCells g.a.toNat cnt)
  cntb : ∀ x, 0 ≤ cnt x ∧ cnt x ≤ N
  ok : g.ok
  len : (l.length : Int) = g.a * g.b
  d1 : rb ≠ bb
  d2 : rb ≠ kb
  d3 : bb ≠ kb

section
variable {w : World} {rb bb kb : Nat} {rp : Option Addr} {g : Geo} {l : List UInt8} {N : Nat} {cnt : Int → Int}
theorem RNor.only {w' : World} {S : List Nat} (h : RNor w rb bb kb rp g l N cnt) (ho : Only S w w') (hn : ∀ x ∈ [rb, bb, kb], x ∉ S) : RNor w' rb bb kb rp g l N cnt := by
  obtain ⟨h1, h2, h3, h5, h6, h7, h8, h9, h10⟩ := h
  exact ⟨h1.only ho (hn rb (by simp)), h2.only ho (hn bb (by simp)), h3.only ho (hn kb (by simp)), h5, h6, h7, h8, h9, h10⟩
theorem RNor.below {w' : World} (h : RNor w rb bb kb rp g l N cnt) (hb : Below w.heap.size w w') : RNor w' rb bb kb rp g l N cnt :=
  h.only (Only.of_below hb []) (fun x _ => by simp)
theorem RNor.drewN (h : RNor w rb bb kb rp g l N cnt) (n : Nat) : RNor (w.drewN n) rb bb kb rp g l N cnt := h.below (below_drewN (Below.refl _ _) n)
theorem RNor.lt (h : RNor w rb bb kb rp g l N cnt) : ∀ x ∈ [rb, bb, kb], x < w.heap.size := by
  intro x hx
  simp at hx
  rcases hx with rfl | rfl | rfl
  · exact h.blk.lt
  · exact h.mem.lt
  · exact h.cn.lt
theorem RNor.turn {w' : World} {l' : List UInt8} {S : List Nat} (h : RNor w rb bb kb rp g l N cnt) (ho : Only S w w') (h1 : rb ∉ S) (h2 : kb ∉ S) (hm : MemC w' bb l.length l') (hl : l'.length = l.length) : RNor w' rb bb kb rp g l' N cnt := by
  obtain ⟨b1, b2, b3, b5, b6, b7, b8, b9, b10⟩ := h
  exact ⟨by rw [hl]; exact b1.only ho h1, by rw [hl]; exact hm, b3.only ho h2, b5, b6, by rw [hl]; exact b7, b8, b9, b10⟩
theorem RNor.size (h : RNor w rb bb kb rp g l N cnt) : l.length ≤ 65536 ∧ 0 < l.length := by
  have hok := h.ok
  have hl := h.len
  unfold Geo.ok at hok
  have h1 : g.a * g.b ≤ 16 * 4096 := Int.mul_le_mul (by omega) (by omega) (by omega) (by omega)
  have h2 : 0 < g.a * g.b := Int.mul_pos (by omega) (by omega)
  omega

set_option maxHeartbeats 1000000 in
theorem rnor_within (h : RNor w rb bb kb rp g l N cnt) (x n : Int) (hx : -9223372036854775808 ≤ x ∧ x ≤ 9223372036854775807) (hn : -9223372036854775808 ≤ n ∧ n ≤ 9223372036854775807) :
    Calls Try.prog 71 #[.pointer (some ⟨rb, 0, none⟩), .int .i64 x, .int .i64 n] w fun e w' => e = .returned (.bool (decide (askE l.length x n = 0))) ∧ w = w' := by
  have c6 := h.blk.cell 6 _ rfl
  have hz := h.size
  obtain ⟨L, hL⟩ : ∃ L, l.length = L := ⟨_, rfl⟩
  rw [hL] at c6 hz ⊢
  clear hL h
  have HE : ∀ q : Bool, q = decide (askE L x n = 0) ↔ (q = true ↔ (0 ≤ x ∧ 0 ≤ n ∧ n ≤ (L : Int) - x)) := by
    intro q
    have e : (askE L x n = 0) ↔ (0 ≤ x ∧ 0 ≤ n ∧ n ≤ (L : Int) - x) := by unfold askE; split <;> simp <;> omega
    rw [← e]
    cases q <;> simp
  have HQ := Lib.hid HE
  clear HE
  by_cases h1 : 0 ≤ x
  · by_cases h2 : 0 ≤ n
    · by_cases h3 : x ≤ (L : Int)
      · by_cases h4 : n ≤ (L : Int) - x
        · go_enter Try.func71, Try.ntmps71
          go_wp2_with fail
          go_ret
          exact ⟨congrArg (fun q => Ending.returned (Value.bool q)) ((HQ.out _).2 (by simp; omega)), rfl⟩
        · go_enter Try.func71, Try.ntmps71
          go_wp2_with fail
          go_ret
          exact ⟨congrArg (fun q => Ending.returned (Value.bool q)) ((HQ.out _).2 (by simp; omega)), rfl⟩
      · go_enter Try.func71, Try.ntmps71
        go_wp2_with fail
        go_ret
        exact ⟨congrArg (fun q => Ending.returned (Value.bool q)) ((HQ.out _).2 (by simp; omega)), rfl⟩
    · go_enter Try.func71, Try.ntmps71
      go_wp2_with fail
      go_ret
      exact ⟨congrArg (fun q => Ending.returned (Value.bool q)) ((HQ.out _).2 (by simp; omega)), rfl⟩
  · go_enter Try.func71, Try.ntmps71
    go_wp2_with fail
    go_ret
    exact ⟨congrArg (fun q => Ending.returned (Value.bool q)) ((HQ.out _).2 (by simp; omega)), rfl⟩

set_option maxHeartbeats 1000000 in
theorem rnor_read (h : RNor w rb bb kb rp g l N cnt) (x n : Int) (hx : -9223372036854775808 ≤ x ∧ x ≤ 9223372036854775807) (hn : -9223372036854775808 ≤ n ∧ n ≤ 9223372036854775807) :
    Calls Try.prog 40 #[.pointer (some ⟨rb, 0, none⟩), .int .i64 x, .int .i64 n] w fun e w' => ∃ v, e = .returned (.tuple #[v, .int .i64 (askE l.length x n)]) ∧ Own w' w.heap.size v (readL l x n) ∧ Below w.heap.size w w' := by
  by_cases ha : askE l.length x n = 0
  · obtain ⟨h1, h2, h3⟩ := askE_ok ha
    have HA := Lib.hid ha
    have HR := Lib.hid (show readL l x n = (l.drop x.toNat).take n.toNat by unfold readL; rw [if_pos ha])
    obtain ⟨i, rfl⟩ : ∃ i : Nat, x = (i : Int) := ⟨x.toNat, by omega⟩
    obtain ⟨k, rfl⟩ : ∃ k : Nat, n = (k : Int) := ⟨n.toNat, by omega⟩
    simp only [Int.toNat_natCast] at HR
    have hz := h.size
    have c6 := h.blk.cell 6 _ rfl
    have hd : decide (askE l.length (i : Int) (k : Int) = 0) = true := decide_eq_true ha
    have H1 := Lib.hid (rnor_within h (i : Int) (k : Int) hx hn)
    rw [hd] at H1
    have hm := h.mem.read
    clear ha h hd
    obtain ⟨L, hL⟩ : ∃ L, l.length = L := ⟨_, rfl⟩
    rw [hL] at c6 hz h3 HA ⊢
    have HL := Lib.hid hL
    clear hL
    have hik : i + k ≤ L := by omega
    have hs0 := Nat.le_refl w.heap.size
    go_enter Try.func40, Try.ntmps40
    go_upto_region 3 with (go_at_call 71; refine H1.out.mono ?_; rintro e w' ⟨rfl, rfl⟩)
    go_wp2_with (first
      | (refine wpList_wanted (by rfl) fun K hK => wp_slice_byts _ _ _ rfl i (i + k) rfl (Or.inr ⟨_, _, rfl, rfl⟩) (Or.inr ⟨_, _, rfl, by first | rfl | (rw [Int.natCast_add]; rfl)⟩) (by omega) (by omega) ?_; intro A' e1 e2 e3; refine hK _ _ ?_; clear hK K)
      | (at_builtin; refine wpList_clone_byts (by rfl) _ rfl rfl (e1 _ l hm (by rw [HL.out]; omega) (Nat.le_of_eq HL.out)) (by simp [HL.out]; omega) (by simp [HL.out]; omega) hs0 ?_; intro v' w' hown hb hfr))
    go_ret2
    refine ⟨_, by rw [HA.out]; rfl, ?_, hb⟩
    rw [HR.out]
    have : ((l.take (i + k)).drop i) = (l.drop i).take k := by rw [List.drop_take]; congr 1; omega
    rw [← this]
    exact hown
  · have ha1 := askE_bad ha
    have HA := Lib.hid ha1
    have HR := Lib.hid (show readL l x n = [] by unfold readL; rw [if_neg ha])
    have H1 := Lib.hid (rnor_within h x n hx hn)
    rw [decide_eq_false ha] at H1
    clear ha ha1 h
    go_enter Try.func40, Try.ntmps40
    go_wp2_with (go_at_call 71; refine H1.out.mono ?_; rintro e w' ⟨rfl, rfl⟩)
    go_ret2
    exact ⟨_, by rw [HA.out]; rfl, by rw [HR.out]; exact Own.nil _ _, Below.refl _ _⟩

/-- How often, as it is told: 0 where there is no such sector. -/
def erasesE (g : Geo) (cnt : Int → Int) (x : Int) : Int := if secOk g x then cnt x else 0

set_option maxHeartbeats 1000000 in
theorem rnor_erases (h : RNor w rb bb kb rp g l N cnt) (x : Int) (hx : -9223372036854775808 ≤ x ∧ x ≤ 9223372036854775807) :
    Calls Try.prog 41 #[.pointer (some ⟨rb, 0, none⟩), .int .i64 x] w fun e w' => e = .returned (.int .i64 (erasesE g cnt x)) ∧ w = w' := by
  have c0 := h.blk.cell 0 _ rfl
  have c7 := h.blk.cell 7 _ rfl
  by_cases hs : secOk g x
  · have HE := Lib.hid (show erasesE g cnt x = cnt x by unfold erasesE; rw [if_pos hs])
    obtain ⟨i, rfl⟩ : ∃ i : Nat, x = (i : Int) := ⟨x.toNat, by unfold secOk at hs; omega⟩
    unfold secOk at hs
    have hc := h.cn.cell i _ (cntCells_get (by omega))
    obtain ⟨sa, hsa⟩ : ∃ sa : Nat, g.a = (sa : Int) := ⟨g.a.toNat, by omega⟩
    rw [hsa] at c0 c7 hs
    simp only [Int.toNat_natCast] at c7
    have hok := h.ok
    unfold Geo.ok at hok
    have hs16 : sa ≤ 16 := by omega
    have hi : i < sa := by omega
    clear hok h hsa hs
    go_enter Try.func41, Try.ntmps41
    go_wp2_with fail
    go_ret
    exact ⟨by rw [HE.out]; rfl, rfl⟩
  · have HE := Lib.hid (show erasesE g cnt x = 0 by unfold erasesE; rw [if_neg hs])
    unfold secOk at hs
    by_cases h1 : x < 0
    · go_enter Try.func41, Try.ntmps41
      go_wp2_with fail
      go_ret
      exact ⟨by rw [HE.out]; rfl, rfl⟩
    · have h2 : g.a ≤ x := by omega
      clear hs
      go_enter Try.func41, Try.ntmps41
      go_wp2_with fail
      go_ret
      exact ⟨by rw [HE.out]; rfl, rfl⟩
end
end Go.Proofs.Ytcdgpioljilgeaa
