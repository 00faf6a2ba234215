/- The program's halves of a chip. -/
import Derived.Test.YtcdgpioljilgeaaHalfP
import Derived.Test.YtcdgpioljilgeaaTwin
import Derived.Test.YtcdgpioljilgeaaFrame
import Derived.RegionTactic
set_option linter.unusedVariables false
set_option maxRecDepth 100000
set_option linter.unusedSimpArgs false
namespace Go.Proofs.Ytcdgpioljilgeaa
open Go.RowKit

set_option maxHeartbeats 1000000 in
theorem half_size (g : Geo) (w : World) (hok : g.ok) : Calls Try.prog 54 #[g.val] w fun e w' => e = .returned (.int .i64 (halfN g : Int)) ∧ Below w.heap.size w w' := by
  obtain ⟨w0, rfl⟩ : ∃ w0 : World, w0 = w := ⟨_, rfl⟩
  obtain ⟨h1, h2, h3, h4, h5, h6, h7, h8, h9⟩ := half_facts hok
  have HR := Lib.hid (fun W => nor_right g W)
  have HD := Lib.hid (decide_eq_true hok)
  have hs0 := Nat.le_refl w0.heap.size
  generalize halfN g = n at *
  generalize halfS g = k at *
  rcases g with ⟨a, b, c, d, e⟩
  simp only at h1 h4 h5 h6 h9 HR HD
  clear hok
  subst h1
  obtain ⟨sz, rfl⟩ : ∃ sz : Nat, b = (sz : Int) := ⟨b.toNat, by omega⟩
  have H6 := Lib.hid h6
  clear h6 h9
  show Calls Try.prog 54 #[.agg #[.int .i64 (2 * (k : Int)), .int .i64 (sz : Int), .int .i64 c, .int .i64 d, .int .i64 e]] w0 _
  have hbx := Blk.new w0 [.int .i64 (2 * (k : Int)), .int .i64 (sz : Int), .int .i64 c, .int .i64 d, .int .i64 e] 23
  have hbel := below_alloc w0 (.cells [.int .i64 (2 * (k : Int)), .int .i64 (sz : Int), .int .i64 c, .int .i64 d, .int .i64 e].toArray 23 (0, 0))
  have c0 := hbx.cell 0 _ rfl
  have c1 := hbx.cell 1 _ rfl
  have c2 := hbx.cell 2 _ rfl
  have c3 := hbx.cell 3 _ rfl
  have c4 := hbx.cell 4 _ rfl
  go_enter Try.func54, Try.ntmps54
  go_upto_region 3 with (go_at_call 28; refine (HR.out _).mono ?_; rintro e w1 ⟨rfl, hb1⟩; rw [HD.out])
  have hz1 := hbx.below hb1
  have d0 := hz1.cell 0 _ rfl
  have d1 := hz1.cell 1 _ rfl
  have hb10 := hbel.trans (hb1.mono hbel.size)
  clear c0 c1 c2 c3 c4 hbx hb1 hbel HR hz1
  go_wp2_with fail
  go_ret
  exact ⟨by rw [← H6.out, show wrap64 (n : Int) = (n : Int) from IntWalk.wrap64_in _ (by omega)]; rfl, hb10⟩

theorem half_ask (b : Nat) (x : Int) (w : World) : Calls Try.prog 82 #[.pointer (some ⟨b, 0, none⟩), .int .i64 x] w fun e w' => e = .returned (.int .i64 (halfA x)) ∧ w = w' := by
  unfold halfA
  by_cases h0 : x < 0
  · rw [if_neg (by unfold isHalf; omega)]
    go_enter Try.func82, Try.ntmps82
    go_wp2_with fail
    go_ret
    exact ⟨rfl, rfl⟩
  · by_cases h1 : 2 ≤ x
    · rw [if_neg (by unfold isHalf; omega)]
      go_enter Try.func82, Try.ntmps82
      go_wp2_with fail
      go_ret
      exact ⟨rfl, rfl⟩
    · rw [if_pos (by unfold isHalf; omega)]
      go_enter Try.func82, Try.ntmps82
      go_wp2_with fail
      go_ret
      exact ⟨rfl, rfl⟩
theorem half_ask_nil (x : Int) (w : World) : Calls Try.prog 82 #[.pointer none, .int .i64 x] w fun e w' => e = .returned (.int .i64 2) ∧ w = w' := by
  go_enter Try.func82, Try.ntmps82
  go_wp2_with fail
  go_ret
  exact ⟨rfl, rfl⟩
theorem half_read_nil (x : Int) (w : World) : Calls Try.prog 53 #[.pointer none, .int .i64 x] w fun e w' => e = .returned (.tuple #[.slice none 0 0, .int .i64 2]) ∧ w = w' := by
  go_enter Try.func53, Try.ntmps53
  go_wp2_with (go_at_call 82; refine (half_ask_nil _ _).mono ?_; rintro e w' ⟨rfl, rfl⟩)
  go_ret2
  exact ⟨rfl, rfl⟩
theorem half_wipe_nil (x : Int) (w : World) : Calls Try.prog 56 #[.pointer none, .int .i64 x] w fun e w' => e = .returned (.int .i64 2) ∧ w = w' := by
  go_enter Try.func56, Try.ntmps56
  go_wp2_with (go_at_call 82; refine (half_ask_nil _ _).mono ?_; rintro e w' ⟨rfl, rfl⟩)
  go_ret
  exact ⟨rfl, rfl⟩
theorem half_append_nil (x y : Int) (A : Option Addr) (n c : Nat) (w : World) : Calls Try.prog 52 #[.pointer none, .int .i64 x, .int .i64 y, .slice A n c] w fun e w' => e = .returned (.int .i64 2) ∧ w = w' := by
  go_enter Try.func52, Try.ntmps52
  go_wp2_with (go_at_call 82; refine (half_ask_nil _ _).mono ?_; rintro e w' ⟨rfl, rfl⟩)
  go_ret
  exact ⟨rfl, rfl⟩

section
variable {B : Nat} {w : World} {cb bb mb pb : Nat} {F : List Nat} {g : Geo} {l : List UInt8} {N : Nat} {cnt : Int → Int} {s : PS}

theorem Rig.half (h : Rig B w cb bb mb pb F g l N cnt s) : l.length = 2 * halfN g := h.len.trans (half_facts h.c.ok).2.2.2.2.2.2.2.2

theorem halfL_length {g : Geo} {l : List UInt8} (h : l.length = 2 * halfN g) {x : Int} (hx : isHalf x) : (halfL g l x).length = halfN g := by
  unfold halfL
  rw [if_pos hx, List.length_take, List.length_drop]
  unfold isHalf at hx
  rcases hx with rfl | rfl
  · have : (0 : Int).toNat = 0 := rfl
    rw [this]; omega
  · have : (1 : Int).toNat = 1 := rfl
    rw [this]; omega

set_option maxHeartbeats 1000000 in
theorem half_read (h : Rig B w cb bb mb pb F g l N cnt s) (x : Int) {m : List UInt8} {r : Int} (hm : halfL g l x = m) (hr : halfA x = r) {k : Nat} (hk : m.length = k) :
    Calls Try.prog 53 #[.pointer (some ⟨cb, 0, none⟩), .int .i64 x] w fun e w' => ∃ A c, e = .returned (.tuple #[.slice A k c, .int .i64 r]) ∧ (k ≤ c ∧ c ≤ maxLen) ∧ Byts w' A m ∧ (∀ y, A = some y → w.heap.size ≤ y.block) ∧ Below w.heap.size w w' := by
  obtain ⟨w0, rfl⟩ : ∃ w0 : World, w0 = w := ⟨_, rfl⟩
  have hok := h.c.ok
  have hf := half_facts hok
  have hl := h.half
  have hA := Lib.hid (fun W => half_ask cb x W)
  have hG := Lib.hid (nor_geometry h.c)
  have hS := Lib.hid (fun W => half_size g W hok)
  obtain ⟨n, hn⟩ : ∃ n, halfN g = n := ⟨_, rfl⟩
  have hn1 : n ≤ 32768 := by omega
  by_cases hx : isHalf x
  · have hE : ∃ o : Nat, (o : Int) = x * (n : Int) ∧ o + n ≤ l.length ∧ m = (l.drop o).take n := by
      refine ⟨x.toNat * n, ?_, ?_, by rw [← hm]; unfold halfL; rw [if_pos hx, hn]⟩
      · unfold isHalf at hx
        rcases hx with rfl | rfl
        · have : (0 : Int).toNat = 0 := rfl
          rw [this]; omega
        · have : (1 : Int).toNat = 1 := rfl
          rw [this]; omega
      · unfold isHalf at hx
        rcases hx with rfl | rfl
        · have : (0 : Int).toNat = 0 := rfl
          rw [this]; omega
        · have : (1 : Int).toNat = 1 := rfl
          rw [this]; omega
    obtain ⟨o, ho, hol, rfl⟩ := hE
    have hl65 : l.length ≤ 65536 := h.c.size.1
    have hr0 : r = 0 := by rw [← hr]; unfold halfA; rw [if_pos hx]
    subst hr0
    have hkn : k = n := by rw [← hk, List.length_take, List.length_drop]; omega
    subst hkn
    have hE1 := Lib.hid (fun (W : World) (hb : Below w0.heap.size w0 W) => rig_read (h.below hb) (o : Int) (k : Int) (by omega) (by omega) (askE_at hol) (readL_at l o k hol) hk)
    rw [hn] at hS
    rw [hr] at hA
    have hO := Lib.hid ho
    clear hm hr hf hl hok hol hk ho
    unfold isHalf at hx
    rcases hx with rfl | rfl
    all_goals
      obtain ⟨oo, rfl⟩ : ∃ oo, oo = o := ⟨_, rfl⟩
      go_enter Try.func53, Try.ntmps53
      go_upto_region 4 with (go_at_call 82; refine (hA.out _).mono ?_; rintro e w' ⟨rfl, rfl⟩)
      go_upto_region 5 with (first
        | (go_at_call 31; refine hG.out.mono ?_; rintro e w1 ⟨rfl, hb1⟩)
        | (go_at_call 54; refine (hS.out _).mono ?_; rintro e w2 ⟨rfl, hb2⟩))
      have hb20 := hb1.trans (hb2.mono hb1.size)
      clear hb1 hb2 hA hG hS
      have e : (oo : Int) = _ := hO.out
      have hE2 := hE1.out
      rw [e] at hE2
      simp only [Int.zero_mul, Int.one_mul] at hE2
      have HE2 := Lib.hid (hE2 w2 hb20)
      clear hE1 hE2 hO e
      go_wp2_with (go_at_call 20; refine HE2.out.mono ?_; rintro e w3 ⟨A, c, rfl, hc, hby, hA, hb3⟩)
      go_ret2
      exact ⟨A, c, rfl, hc, hby, fun y hy => Nat.le_trans hb20.size (hA y hy), hb20.trans (hb3.mono hb20.size)⟩
  · have hm0 : m = [] := by rw [← hm]; unfold halfL; rw [if_neg hx]
    have hr1 : r = 1 := by rw [← hr]; unfold halfA; rw [if_neg hx]
    subst hm0 hr1
    obtain rfl : k = 0 := by rw [← hk]; rfl
    rw [hr] at hA
    clear hm hr hk
    go_enter Try.func53, Try.ntmps53
    go_wp2_with (go_at_call 82; refine (hA.out _).mono ?_; rintro e w' ⟨rfl, rfl⟩)
    go_ret2
    exact ⟨none, 0, rfl, ⟨Nat.le_refl _, Nat.zero_le _⟩, Byts.nil _ _, (fun y hy => by cases hy), Below.refl _ _⟩

/-- The half's number as what is added. -/
theorem half_base {x : Int} (hx : isHalf x) (n : Nat) : x = 0 ∧ x * (n : Int) = 0 ∨ x = 1 ∧ x * (n : Int) = (n : Int) := by
  unfold isHalf at hx
  rcases hx with rfl | rfl
  · exact Or.inl ⟨rfl, by omega⟩
  · exact Or.inr ⟨rfl, by omega⟩

set_option maxHeartbeats 4000000 in
theorem half_append (h : Rig B w cb bb mb pb F g l N cnt s) (x at' : Int) (hat : -9223372036854775808 ≤ at' ∧ at' ≤ 9223372036854775807) (A : Option Addr) (m c : Nat) (bs : List UInt8) (hb : Byts w A bs) (hn : bs.length = m) (hm : m ≤ 65000)
    (hdone : s.done + (m + 7) ≤ 1000000000000) {r : Int} {l' : List UInt8} {s' : PS} (hE : appE g s l x at' bs = (r, l', s')) :
    Calls Try.prog 52 #[.pointer (some ⟨cb, 0, none⟩), .int .i64 x, .int .i64 at', .slice A m c] w fun e w' => e = .returned (.int .i64 r) ∧ Rig B w' cb bb mb pb F g l' N cnt s' ∧ Only [bb, pb] w w' := by
  obtain ⟨w0, rfl⟩ : ∃ w0 : World, w0 = w := ⟨_, rfl⟩
  have hok := h.c.ok
  have hf := half_facts hok
  have HA := Lib.hid (fun W => half_ask cb x W)
  have HG : Hid (∀ W, Below w0.heap.size w0 W → Calls Try.prog 31 #[.pointer (some ⟨cb, 0, none⟩)] W fun e w' => e = .returned g.val ∧ Below W.heap.size W w') := fun W hb => nor_geometry (h.below hb).c
  have HS := Lib.hid (fun W => half_size g W hok)
  have hn1 : halfN g ≤ 32768 := by omega
  have hn2 : 256 ≤ halfN g := by omega
  clear hf
  have HN := Lib.hid hn
  by_cases hx : isHalf x
  · have ha : halfA x = 0 := by unfold halfA; rw [if_pos hx]
    rw [ha] at HA
    clear ha
    by_cases h0 : at' < 0
    · unfold appE at hE
      rw [if_pos (Or.inr h0)] at hE
      cases hE
      go_enter Try.func52, Try.ntmps52
      go_wp2_with (go_at_call 82; refine (HA.out _).mono ?_; rintro e w' ⟨rfl, rfl⟩)
      go_ret
      exact ⟨rfl, h, Only.refl _ _⟩
    · obtain ⟨o, rfl⟩ : ∃ o : Nat, at' = (o : Int) := ⟨at'.toNat, by omega⟩
      by_cases h1 : (halfN g : Int) - ((m : Int) + 7) < (o : Int)
      · unfold appE at hE
        rw [if_neg (by rintro (q | q); exact q hx; exact h0 q), hn, if_pos h1] at hE
        cases hE
        clear hn
        generalize halfN g = k at *
        have hs0 := Nat.le_refl w0.heap.size
        go_enter Try.func52, Try.ntmps52
        go_upto_region 7 with (first
          | (go_at_call 82; refine (HA.out _).mono ?_; rintro e w' ⟨rfl, rfl⟩)
          | (go_at_call 44; refine (frame_body A m c bs _ hb HN.out hm).mono ?_; rintro e w1 ⟨A1, c1, rfl, hc1, -, hy1, hA1, hb1⟩))
        go_upto_block 0 with (first
          | (go_at_call 31; refine (HG.out _ hb1).mono ?_; rintro e w2 ⟨rfl, hb2⟩)
          | (go_at_call 54; refine (HS.out _).mono ?_; rintro e w3 ⟨rfl, hb3⟩))
        have hb20 := hb1.trans (hb2.mono hb1.size)
        have hb30 := hb20.trans (hb3.mono hb20.size)
        clear hb2 hb3
        go_wp2_with (go_at_call 49; refine (frame_size _ _ (by omega) (by omega)).mono ?_; rintro e w' ⟨rfl, rfl⟩)
        go_ret
        exact ⟨rfl, h.below hb30, Only.of_below hb30 _⟩
      · obtain ⟨xb, hxb⟩ : ∃ xb, x * (halfN g : Int) + (o : Int) = xb := ⟨_, rfl⟩
        obtain ⟨r1, l1, s1, hE1⟩ : ∃ r1 l1 s1, progE s l xb (bodyL bs) = (r1, l1, s1) := ⟨_, _, _, rfl⟩
        have hd1 : s1.done ≤ s.done + (m + 6) := by
          have := Go.Proofs.Ytcdgpioljilgeaa.PS.progE_done s l xb (bodyL bs)
          rw [hE1, bodyL_length, hn] at this
          exact this
        unfold appE at hE
        rw [if_neg (by rintro (q | q); exact q hx; exact h0 q), hn, if_neg h1, hxb, hE1] at hE
        simp only at hE
        have HBL := Lib.hid (show (bodyL bs).length = m + 6 by rw [bodyL_length, hn])
        have HE1 := Lib.hid hE1
        have HE := Lib.hid hE
        clear hE hE1 hn
        generalize halfN g = k at *
        obtain ⟨rr, l2, s2, hE2⟩ : ∃ rr l2 s2, progE s1 l1 (xb + ((m : Int) + 6)) [0] = (rr, l2, s2) := ⟨_, _, _, rfl⟩
        rw [hE2] at HE
        have HE2 := Lib.hid hE2
        clear hE2
        have ho1 : (o : Int) ≤ 32768 := by omega
        rcases half_base hx k with ⟨rfl, e⟩ | ⟨rfl, e⟩
        rotate_left
        rw [e] at hxb
        have hxb2 : xb = (o : Int) + (k : Int) := by omega
        rotate_left
        rw [e] at hxb
        have hxb2 : xb = (o : Int) := by omega
        all_goals
          as_aux_lemma =>
            subst hxb2
            clear hxb e
            go_enter Try.func52, Try.ntmps52
            go_upto_region 7 with (first
              | (go_at_call 82; refine (HA.out _).mono ?_; rintro e w' ⟨rfl, rfl⟩)
              | (go_at_call 44; refine (frame_body A m c bs _ hb HN.out hm).mono ?_; rintro e w1 ⟨A1, c1, rfl, hc1, -, hy1, hA1, hb1⟩))
            go_upto_block 0 with (first
              | (go_at_call 31; refine (HG.out _ hb1).mono ?_; rintro e w2 ⟨rfl, hb2⟩)
              | (go_at_call 54; refine (HS.out _).mono ?_; rintro e w3 ⟨rfl, hb3⟩))
            have hb31 := hb2.trans (hb3.mono hb2.size)
            have hb30 := hb1.trans (hb31.mono hb1.size)
            have hy3 := hy1.below hb31
            have hR3 := h.below hb30
            have hA3 : 0 < (bodyL bs).length → ∀ y, A1 = some y → y.block ≠ bb ∧ y.block ≠ pb := fun _ y e => by
              have := hA1 y e
              have := h.lt
              omega
            clear hb2 hb3 hb31 hb1 hy1 hA1
            go_upto_region 13 with (go_at_call 49; refine (frame_size _ _ (by omega) (by omega)).mono ?_; rintro e w' ⟨rfl, rfl⟩)
            have HA3 := Lib.hid hA3
            clear hA3
            have hlb : (bodyL bs).length ≤ 9223372036854775807 := by rw [HBL.out]; omega
            have hdn : s.done + (bodyL bs).length ≤ 1000000000000 := by rw [HBL.out]; omega
            go_upto_region 14 with (go_at_call 19; refine (rig_program hR3 _ (by omega) A1 (m + 6) c1 (bodyL bs) hy3 HBL.out.symm hlb HA3.out hdn HE1.out).mono ?_; rintro e w4 ⟨rfl, hR4, ho4⟩)
            have ho40 := (Only.of_below hb30 [bb, pb]).trans ho4
            clear ho4 hR3 hb30 hlb hdn hy3
            have HE' := HE.out
            clear HE HE1
            by_cases hr1 : r1 = 0
            · subst hr1
              rw [if_neg (by simp)] at HE'
              cases HE'
              have o1 := byts_one w4 0
              have hRa := hR4.below (below_alloc w4 (.cells #[.int .u8 0] 5))
              have hl4 := hR4.lt
              have hdn2 : s1.done + [(0 : UInt8)].length ≤ 1000000000000 := by
                have : [(0 : UInt8)].length = 1 := rfl
                omega
              have HAq : Hid (0 < [(0 : UInt8)].length → ∀ y, (some ⟨w4.heap.size, 0, none⟩ : Option Addr) = some y → y.block ≠ bb ∧ y.block ≠ pb) := fun _ y e => by
                cases e
                simp
                omega
              go_wp2_with (go_at_call 19; refine (rig_program hRa _ (by omega) _ 1 1 [0] o1 rfl (by decide) HAq.out hdn2 HE2.out).mono ?_; rintro e w5 ⟨rfl, hR5, ho5⟩)
              go_ret
              exact ⟨rfl, hR5, (ho40.alloc _).trans ho5⟩
            · have hz : (r1 != 0) = true := by simpa using hr1
              rw [if_pos hr1] at HE'
              cases HE'
              go_wp2_with fail
              go_ret
              exact ⟨rfl, hR4, ho40⟩
  · have ha : halfA x = 1 := by unfold halfA; rw [if_neg hx]
    rw [ha] at HA
    unfold appE at hE
    rw [if_pos (Or.inl hx)] at hE
    cases hE
    go_enter Try.func52, Try.ntmps52
    go_wp2_with (go_at_call 82; refine (HA.out _).mono ?_; rintro e w' ⟨rfl, rfl⟩)
    go_ret
    exact ⟨rfl, h, Only.refl _ _⟩

theorem wipeL_step {g : Geo} {b : Int} {i : Nat} {s : PS} {l : List UInt8} {cnt : Int → Int} {r : Int} {l' : List UInt8} {s' : PS} {cnt' : Int → Int} (h : wipeL g b (i + 1) s l cnt = (r, l', s', cnt')) :
    ∃ r2 l2 s2 cnt2, eraseE g s l cnt (b + (i : Int)) = (r2, l2, s2, cnt2) ∧ s2.done ≤ s.done + 1 ∧ (r2 = 0 ∧ wipeL g b i s2 l2 cnt2 = (r, l', s', cnt') ∨ r2 ≠ 0 ∧ (r2, l2, s2, cnt2) = (r, l', s', cnt')) := by
  have hd := Go.Proofs.Ytcdgpioljilgeaa.PS.eraseE_done g s l cnt (b + (i : Int))
  unfold wipeL at h
  generalize eraseE g s l cnt (b + (i : Int)) = q at *
  obtain ⟨r2, l2, s2, cnt2⟩ := q
  refine ⟨r2, l2, s2, cnt2, rfl, hd, ?_⟩
  by_cases e : r2 = 0
  · rw [if_neg (by simpa using e)] at h
    exact Or.inl ⟨e, h⟩
  · rw [if_pos (by simpa using e)] at h
    exact Or.inr ⟨e, h⟩

set_option maxHeartbeats 4000000 in
theorem half_wipe (h : Rig B w cb bb mb pb F g l N cnt s) (hN : N ≤ 100000000) (x : Int) (hdone : s.done ≤ 100000000000) {r : Int} {l' : List UInt8} {s' : PS} {cnt' : Int → Int} (hE : wipeE g s l cnt x = (r, l', s', cnt')) :
    Calls Try.prog 56 #[.pointer (some ⟨cb, 0, none⟩), .int .i64 x] w fun e w' => e = .returned (.int .i64 r) ∧ (∃ N', N' ≤ N + 8 ∧ Rig B w' cb bb mb pb F g l' N' cnt' s') ∧ Only [bb, mb, pb] w w' := by
  obtain ⟨w0, rfl⟩ : ∃ w0 : World, w0 = w := ⟨_, rfl⟩
  have hok := h.c.ok
  have hf := half_facts hok
  have HA := Lib.hid (fun W => half_ask cb x W)
  have hG := nor_geometry h.c
  unfold Geo.val at hG
  rw [hf.1] at hG
  have HG := Lib.hid hG
  have hk1 : halfS g ≤ 8 := by omega
  have hk0 : 1 ≤ halfS g := by omega
  clear hf hG
  unfold wipeE at hE
  generalize halfS g = k at *
  by_cases hx : isHalf x
  · have ha : halfA x = 0 := by unfold halfA; rw [if_pos hx]
    rw [ha] at HA
    rw [if_pos hx] at hE
    clear ha
    obtain ⟨b0, hb0⟩ : ∃ b0, x * (k : Int) = b0 := ⟨_, rfl⟩
    have hbx := half_base hx k
    rw [hb0] at hE hbx
    clear hb0
    rcases hbx with ⟨rfl, rfl⟩ | ⟨rfl, rfl⟩
    all_goals
      as_aux_lemma =>
        have HE := Lib.hid hE
        clear hE
        have hfd : ∀ (a b c d e : Int) (w : World), (Instr.field 23 (.agg #[.int .i64 a, .int .i64 b, .int .i64 c, .int .i64 d, .int .i64 e]) 0).run Try.prog w = .ok (.int .i64 a) w := fun _ _ _ _ _ _ => by kernel_rfl
        go_enter Try.func56, Try.ntmps56
        go_upto_region 4 with (go_at_call 82; refine (HA.out _).mono ?_; rintro e w' ⟨rfl, rfl⟩)
        go_upto_region 6 with (go_at_call 31; refine HG.out.mono ?_; rintro e w1 ⟨rfl, hb1⟩)
        have hR1 := h.below hb1
        go_loopw [7] (fun v7 wr => ∃ (j : Nat) (s1 : PS) (l1 : List UInt8) (cnt1 : Int → Int) (N1 : Nat), j ≤ k ∧ v7 = .int .i64 ((j : Int) - 1) ∧ N1 + j ≤ N + k ∧ s1.done + j ≤ s.done + k ∧ Hid (wipeL g _ j s1 l1 cnt1 = (r, l', s', cnt')) ∧ Rig B wr cb bb mb pb F g l1 N1 cnt1 s1 ∧ Only [bb, mb, pb] w0 wr) (fun v7 _ => (intOf v7 + 1).toNat)
        case atStart => exact ⟨k, s, l, cnt, N, Nat.le_refl _, rfl, Nat.le_refl _, Nat.le_refl _, HE, hR1, Only.of_below hb1 _⟩
        case round =>
          clear hR1 hb1
          obtain ⟨j, s1, l1, cnt1, N1, hjk, rfl, hN1, hd1, HW, hR, ho⟩ := hrel
          cases j with
          | zero =>
            have hW := HW.out
            unfold wipeL at hW
            cases hW
            go_wp2_with fail
            go_ret
            exact ⟨rfl, ⟨N1, by omega, hR⟩, ho⟩
          | succ i =>
            rw [show ((i + 1 : Nat) : Int) - 1 = (i : Int) by omega]
            obtain ⟨r2, l2, s2, cnt2, hE2, hd2, hW⟩ := wipeL_step HW.out
            first | rw [Int.zero_add] at hE2 | skip
            have HE2 := Lib.hid hE2
            have HW2 := Lib.hid hW
            clear hE2 hW HW
            go_upto_region 9 with (go_at_call 21; refine (rig_erase hR (by omega) _ (by omega) (by omega) HE2.out).mono ?_; rintro e w2 ⟨rfl, hR2, ho2⟩)
            have ho20 := ho.trans ho2
            have hW := HW2.out
            clear HW2 HE2 hR ho ho2
            rcases hW with ⟨rfl, hW⟩ | ⟨hr2, hW⟩
            · go_wp2_with fail
              go_roundw
              case rel => exact ⟨i, s2, l2, cnt2, N1 + 1, by omega, by go_num, by omega, by omega, hW, hR2, ho20⟩
              case measure => simp [intOf] <;> omega
            · cases hW
              have hz : (r != 0) = true := by simpa using hr2
              go_wp2_with fail
              go_ret
              exact ⟨rfl, ⟨N1 + 1, by omega, hR2⟩, ho20⟩
  · have ha : halfA x = 1 := by unfold halfA; rw [if_neg hx]
    rw [ha] at HA
    rw [if_neg hx] at hE
    cases hE
    go_enter Try.func56, Try.ntmps56
    go_wp2_with (go_at_call 82; refine (HA.out _).mono ?_; rintro e w' ⟨rfl, rfl⟩)
    go_ret
    exact ⟨rfl, ⟨N, by omega, h⟩, Only.refl _ _⟩
end
end Go.Proofs.Ytcdgpioljilgeaa
