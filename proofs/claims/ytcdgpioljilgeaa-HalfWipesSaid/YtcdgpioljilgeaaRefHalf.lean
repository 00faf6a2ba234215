/- The reference's halves of a chip. -/
import Derived.Test.YtcdgpioljilgeaaHalf
import Derived.Test.YtcdgpioljilgeaaRefFrame
set_option linter.unusedVariables false
set_option maxRecDepth 100000
set_option linter.unusedSimpArgs false
namespace Go.Proofs.Ytcdgpioljilgeaa
open Go.RowKit

set_option maxHeartbeats 1000000 in
theorem ref_halfsize (g : Geo) (w : World) (hok : g.ok) : Calls Try.prog 55 #[g.val] w fun e w' => e = .returned (.int .i64 (halfN g : Int)) ∧ Below w.heap.size w w' := by
  obtain ⟨w0, rfl⟩ : ∃ w0 : World, w0 = w := ⟨_, rfl⟩
  obtain ⟨h1, h2, h3, h4, h5, h6, h7, h8, h9⟩ := half_facts hok
  have HR := Lib.hid (fun W => ref_right g W)
  have HD := Lib.hid (decide_eq_true hok)
  have hs0 := Nat.le_refl w0.heap.size
  generalize halfN g = n at *
  generalize halfS g = k at *
  rcases g with ⟨a, b, c, d, e⟩
  simp only at h1 h4 h5 h6 h9 HR HD
  clear hok
  subst h1
  obtain ⟨sz, rfl⟩ : ∃ sz : Nat, b = (sz : Int) := ⟨b.toNat, by omega⟩
  have H6 := Lib.hid h6
  clear h6 h9
  have hq : (2 * (k : Int)).tdiv 2 = (k : Int) := by rw [Int.mul_comm]; exact Int.mul_tdiv_cancel _ (by decide)
  show Calls Try.prog 55 #[.agg #[.int .i64 (2 * (k : Int)), .int .i64 (sz : Int), .int .i64 c, .int .i64 d, .int .i64 e]] w0 _
  have hbx := Blk.new w0 [.int .i64 (2 * (k : Int)), .int .i64 (sz : Int), .int .i64 c, .int .i64 d, .int .i64 e] 23
  have hbel := below_alloc w0 (.cells [.int .i64 (2 * (k : Int)), .int .i64 (sz : Int), .int .i64 c, .int .i64 d, .int .i64 e].toArray 23 (0, 0))
  have c0 := hbx.cell 0 _ rfl
  have c1 := hbx.cell 1 _ rfl
  have c2 := hbx.cell 2 _ rfl
  have c3 := hbx.cell 3 _ rfl
  have c4 := hbx.cell 4 _ rfl
  go_enter Try.func55, Try.ntmps55
  go_upto_region 3 with (go_at_call 29; refine (HR.out _).mono ?_; rintro e w1 ⟨rfl, hb1⟩; rw [HD.out])
  have hz1 := hbx.below hb1
  have d0 := hz1.cell 0 _ rfl
  have d1 := hz1.cell 1 _ rfl
  have hb10 := hbel.trans (hb1.mono hbel.size)
  clear c0 c1 c2 c3 c4 hbx hb1 hbel HR hz1
  go_wp2_with fail
  go_ret
  exact ⟨by rw [← H6.out, show wrap64 (n : Int) = (n : Int) from IntWalk.wrap64_in _ (by omega)]; rfl, hb10⟩

section
variable {B : Nat} {w : World} {rb rl kb qb : Nat} {g : Geo} {l : List UInt8} {N : Nat} {cnt : Int → Int} {s : PS}

theorem RRig.half (h : RRig B w rb rl kb qb g l N cnt s) : l.length = 2 * halfN g := by
  have h1 := h.c.len
  have h2 := (half_facts h.c.ok).2.2.2.2.2.2.2.2
  omega

set_option maxHeartbeats 1000000 in
theorem ref_readhalf (h : RRig B w rb rl kb qb g l N cnt s) (x : Int) {m : List UInt8} {r : Int} (hm : halfL g l x = m) (hr : halfA x = r) {k : Nat} (hk : m.length = k) :
    Calls Try.prog 58 #[.pointer (some ⟨rb, 0, none⟩), .int .i64 x] w fun e w' => ∃ A c, e = .returned (.tuple #[.slice A k c, .int .i64 r]) ∧ (k ≤ c ∧ c ≤ maxLen) ∧ Byts w' A m ∧ (∀ y, A = some y → w.heap.size ≤ y.block) ∧ Below w.heap.size w w' := by
  obtain ⟨w0, rfl⟩ : ∃ w0 : World, w0 = w := ⟨_, rfl⟩
  have hok := h.c.ok
  have hf := half_facts hok
  have hl := h.half
  have hS : Hid (∀ W, Calls Try.prog 55 #[.agg #[.int .i64 g.a, .int .i64 g.b, .int .i64 g.c, .int .i64 g.d, .int .i64 g.e]] W fun e w' => e = .returned (.int .i64 (halfN g : Int)) ∧ Below W.heap.size W w') := fun W => ref_halfsize g W hok
  obtain ⟨n, hn⟩ : ∃ n, halfN g = n := ⟨_, rfl⟩
  have hn1 : n ≤ 32768 := by omega
  by_cases hx : isHalf x
  · have hE : ∃ o : Nat, (o : Int) = x * (n : Int) ∧ o + n ≤ l.length ∧ m = (l.drop o).take n := by
      refine ⟨x.toNat * n, ?_, ?_, by rw [← hm]; unfold halfL; rw [if_pos hx, hn]⟩
      · unfold isHalf at hx
        rcases hx with rfl | rfl
        · have : (0 : Int).toNat = 0 := rfl
          rw [this]; omega
        · have : (1 : Int).toNat = 1 := rfl
          rw [this]; omega
      · unfold isHalf at hx
        rcases hx with rfl | rfl
        · have : (0 : Int).toNat = 0 := rfl
          rw [this]; omega
        · have : (1 : Int).toNat = 1 := rfl
          rw [this]; omega
    obtain ⟨o, ho, hol, rfl⟩ := hE
    have hl65 : l.length ≤ 65536 := h.c.size.1
    have hr0 : r = 0 := by rw [← hr]; unfold halfA; rw [if_pos hx]
    subst hr0
    have hkn : k = n := by rw [← hk, List.length_take, List.length_drop]; omega
    subst hkn
    have hE1 := Lib.hid (fun (W : World) (hb : Below w0.heap.size w0 W) => rrig_read (h.below hb) (o : Int) (k : Int) (by omega) (by omega) (askE_at hol) (readL_at l o k hol) hk)
    rw [hn] at hS
    have hO := Lib.hid ho
    clear hm hr hf hl hok hol hk ho
    have b0 := h.c.blk.cell 0 _ rfl
    have b1 := h.c.blk.cell 1 _ rfl
    have b2 := h.c.blk.cell 2 _ rfl
    have b3 := h.c.blk.cell 3 _ rfl
    have b4 := h.c.blk.cell 4 _ rfl
    unfold isHalf at hx
    rcases hx with rfl | rfl
    all_goals
      obtain ⟨oo, rfl⟩ : ∃ oo, oo = o := ⟨_, rfl⟩
      go_enter Try.func58, Try.ntmps58
      go_upto_region 4 with (go_at_call 55; refine (hS.out _).mono ?_; rintro e w2 ⟨rfl, hb2⟩)
      have e : (oo : Int) = _ := hO.out
      have hE2 := hE1.out
      rw [e] at hE2
      simp only [Int.zero_mul, Int.one_mul] at hE2
      have HE2 := Lib.hid (hE2 w2 hb2)
      clear hE1 hE2 hO e b0 b1 b2 b3 b4 hS
      go_wp2_with (go_at_call 40; refine HE2.out.mono ?_; rintro e w3 ⟨A, c, rfl, hc, hby, hA, hb3⟩)
      go_ret2
      exact ⟨A, c, rfl, hc, hby, fun y hy => Nat.le_trans hb2.size (hA y hy), hb2.trans (hb3.mono hb2.size)⟩
  · have hm0 : m = [] := by rw [← hm]; unfold halfL; rw [if_neg hx]
    have hr1 : r = 1 := by rw [← hr]; unfold halfA; rw [if_neg hx]
    subst hm0 hr1
    obtain rfl : k = 0 := by rw [← hk]; rfl
    have h0 : (x != 0) = true := by unfold isHalf at hx; simp; omega
    have h1 : (x != 1) = true := by unfold isHalf at hx; simp; omega
    clear hm hr hk hS
    go_enter Try.func58, Try.ntmps58
    go_wp2_with fail
    go_ret2
    exact ⟨none, 0, rfl, ⟨Nat.le_refl _, Nat.zero_le _⟩, Byts.nil _ _, (fun y hy => by cases hy), Below.refl _ _⟩

set_option maxHeartbeats 4000000 in
theorem ref_wipe (h : RRig B w rb rl kb qb g l N cnt s) (hN : N ≤ 100000000) (x : Int) (hdone : s.done ≤ 100000000000) {r : Int} {l' : List UInt8} {s' : PS} {cnt' : Int → Int} (hE : wipeE g s l cnt x = (r, l', s', cnt')) :
    Calls Try.prog 57 #[.pointer (some ⟨rb, 0, none⟩), .int .i64 x] w fun e w' => e = .returned (.int .i64 r) ∧ (∃ N', N' ≤ N + 8 ∧ RRig B w' rb rl kb qb g l' N' cnt' s') ∧ Only [rl, kb, qb] w w' := by
  obtain ⟨w0, rfl⟩ : ∃ w0 : World, w0 = w := ⟨_, rfl⟩
  have hok := h.c.ok
  have hf := half_facts hok
  have b0 := h.c.blk.cell 0 _ rfl
  rw [hf.1] at b0
  have hk1 : halfS g ≤ 8 := by omega
  have hk0 : 1 ≤ halfS g := by omega
  clear hf
  unfold wipeE at hE
  generalize halfS g = k at *
  have hq : (2 * (k : Int)).tdiv 2 = (k : Int) := by rw [Int.mul_comm]; exact Int.mul_tdiv_cancel _ (by decide)
  by_cases hx : isHalf x
  · rw [if_pos hx] at hE
    obtain ⟨bs, hb0⟩ : ∃ b0, x * (k : Int) = b0 := ⟨_, rfl⟩
    have hbx := half_base hx k
    rw [hb0] at hE hbx
    clear hb0
    rcases hbx with ⟨rfl, rfl⟩ | ⟨rfl, rfl⟩
    · as_aux_lemma =>
        have HE := Lib.hid hE
        clear hE
        have hks : k * 1 ≤ k * 2 := Nat.mul_le_mul_left _ (by decide)
        go_enter Try.func57, Try.ntmps57
        go_upto_region 5 with fail
        go_loopw [6] (fun v6 wr => ∃ (j : Nat) (s1 : PS) (l1 : List UInt8) (cnt1 : Int → Int) (N1 : Nat), j ≤ k ∧ v6 = .int .i64 ((j : Int) - 1) ∧ N1 + j ≤ N + k ∧ s1.done + j ≤ s.done + k ∧ Hid (wipeL g 0 j s1 l1 cnt1 = (r, l', s', cnt')) ∧ RRig B wr rb rl kb qb g l1 N1 cnt1 s1 ∧ Only [rl, kb, qb] w0 wr) (fun v6 _ => (intOf v6 + 1).toNat)
        case atStart => exact ⟨k, s, l, cnt, N, Nat.le_refl _, rfl, Nat.le_refl _, Nat.le_refl _, HE, h, Only.refl _ _⟩
        case round =>
          clear h b0
          obtain ⟨j, s1, l1, cnt1, N1, hjk, rfl, hN1, hd1, HW, hR, ho⟩ := hrel
          cases j with
          | zero =>
            have hW := HW.out
            unfold wipeL at hW
            cases hW
            have hz : ¬ (0 ≤ (((0 : Nat) : Int) - 1)) := by omega
            go_wp2_with fail
            go_ret
            exact ⟨rfl, ⟨N1, by omega, hR⟩, ho⟩
          | succ i =>
            rw [show (((i + 1 : Nat) : Int) - 1) = (i : Int) by omega]
            obtain ⟨r2, l2, s2, cnt2, hE2, hd2, hW⟩ := wipeL_step HW.out
            first | rw [Int.zero_add] at hE2 | skip
            have HE2 := Lib.hid hE2
            have HW2 := Lib.hid hW
            clear hE2 hW HW
            have hz : 0 ≤ (i : Int) := by omega
            go_upto_region 8 with (go_at_call 34; refine (rrig_erase hR (by omega) _ (by omega) (by omega) HE2.out).mono ?_; rintro e w2 ⟨rfl, hR2, ho2⟩)
            have ho20 := ho.trans ho2
            have hW := HW2.out
            clear HW2 HE2 hR ho ho2 hz
            rcases hW with ⟨rfl, hW⟩ | ⟨hr2, hW⟩
            · go_wp2_with fail
              go_roundw
              case rel => exact ⟨i, s2, l2, cnt2, N1 + 1, by omega, by go_num, by omega, by omega, hW, hR2, ho20⟩
              case measure => simp [intOf] <;> omega
            · cases hW
              have hz : (r != 0) = true := by simpa using hr2
              go_wp2_with fail
              go_ret
              exact ⟨rfl, ⟨N1 + 1, by omega, hR2⟩, ho20⟩
    · as_aux_lemma =>
        have HE := Lib.hid hE
        clear hE
        have hks : k * 1 ≤ k * 2 := Nat.mul_le_mul_left _ (by decide)
        go_enter Try.func57, Try.ntmps57
        go_upto_region 5 with fail
        go_loopw [6] (fun v6 wr => ∃ (j : Nat) (s1 : PS) (l1 : List UInt8) (cnt1 : Int → Int) (N1 : Nat), j ≤ k ∧ v6 = .int .i64 ((k : Int) + (j : Int) - 1) ∧ N1 + j ≤ N + k ∧ s1.done + j ≤ s.done + k ∧ Hid (wipeL g (k : Int) j s1 l1 cnt1 = (r, l', s', cnt')) ∧ RRig B wr rb rl kb qb g l1 N1 cnt1 s1 ∧ Only [rl, kb, qb] w0 wr) (fun v6 _ => (intOf v6 + 1).toNat)
        case atStart => exact ⟨k, s, l, cnt, N, Nat.le_refl _, by rw [← Int.two_mul], Nat.le_refl _, Nat.le_refl _, HE, h, Only.refl _ _⟩
        case round =>
          clear h b0
          obtain ⟨j, s1, l1, cnt1, N1, hjk, rfl, hN1, hd1, HW, hR, ho⟩ := hrel
          cases j with
          | zero =>
            have hW := HW.out
            unfold wipeL at hW
            cases hW
            have hz : ¬ ((k : Int) ≤ ((k : Int) + ((0 : Nat) : Int) - 1)) := by omega
            go_wp2_with fail
            go_ret
            exact ⟨rfl, ⟨N1, by omega, hR⟩, ho⟩
          | succ i =>
            rw [show ((k : Int) + ((i + 1 : Nat) : Int) - 1) = ((k : Int) + (i : Int)) by omega]
            obtain ⟨r2, l2, s2, cnt2, hE2, hd2, hW⟩ := wipeL_step HW.out
            first | rw [Int.zero_add] at hE2 | skip
            have HE2 := Lib.hid hE2
            have HW2 := Lib.hid hW
            clear hE2 hW HW
            have hz : (k : Int) ≤ ((k : Int) + (i : Int)) := by omega
            go_upto_region 8 with (go_at_call 34; refine (rrig_erase hR (by omega) _ (by omega) (by omega) HE2.out).mono ?_; rintro e w2 ⟨rfl, hR2, ho2⟩)
            have ho20 := ho.trans ho2
            have hW := HW2.out
            clear HW2 HE2 hR ho ho2 hz
            rcases hW with ⟨rfl, hW⟩ | ⟨hr2, hW⟩
            · go_wp2_with fail
              go_roundw
              case rel => exact ⟨i, s2, l2, cnt2, N1 + 1, by omega, by go_num, by omega, by omega, hW, hR2, ho20⟩
              case measure => simp [intOf] <;> omega
            · cases hW
              have hz : (r != 0) = true := by simpa using hr2
              go_wp2_with fail
              go_ret
              exact ⟨rfl, ⟨N1 + 1, by omega, hR2⟩, ho20⟩
  · rw [if_neg hx] at hE
    cases hE
    have h0 : (x != 0) = true := by unfold isHalf at hx; simp; omega
    have h1 : (x != 1) = true := by unfold isHalf at hx; simp; omega
    go_enter Try.func57, Try.ntmps57
    go_wp2_with fail
    go_ret
    exact ⟨rfl, ⟨N, by omega, h⟩, Only.refl _ _⟩

set_option maxHeartbeats 4000000 in
theorem ref_appendhalf (h : RRig B w rb rl kb qb g l N cnt s) (x at' : Int) (hat : -9223372036854775808 ≤ at' ∧ at' ≤ 9223372036854775807) (A : Option Addr) (m c : Nat) (bs : List UInt8) (hb : Byts w A bs) (hn : bs.length = m) (hm : m ≤ 65000)
    (hdone : s.done + (m + 7) ≤ 1000000000000) {r : Int} {l' : List UInt8} {s' : PS} (hE : appE g s l x at' bs = (r, l', s')) :
    Calls Try.prog 59 #[.pointer (some ⟨rb, 0, none⟩), .int .i64 x, .int .i64 at', .slice A m c] w fun e w' => e = .returned (.int .i64 r) ∧ RRig B w' rb rl kb qb g l' N cnt s' ∧ Only [rl, kb, qb] w w' := by
  obtain ⟨w0, rfl⟩ : ∃ w0 : World, w0 = w := ⟨_, rfl⟩
  have hok := h.c.ok
  have hf := half_facts hok
  have HS : Hid (∀ W, Calls Try.prog 55 #[.agg #[.int .i64 g.a, .int .i64 g.b, .int .i64 g.c, .int .i64 g.d, .int .i64 g.e]] W fun e w' => e = .returned (.int .i64 (halfN g : Int)) ∧ Below W.heap.size W w') := fun W => ref_halfsize g W hok
  have hn1 : halfN g ≤ 32768 := by omega
  have hn2 : 256 ≤ halfN g := by omega
  clear hf
  have HN := Lib.hid hn
  have HBK : Hid (∀ W, Below w0.heap.size w0 W → W.cell? ⟨rb, 0, none⟩ = some (.int .i64 g.a) ∧ W.cell? ⟨rb, 1, none⟩ = some (.int .i64 g.b) ∧ W.cell? ⟨rb, 2, none⟩ = some (.int .i64 g.c) ∧ W.cell? ⟨rb, 3, none⟩ = some (.int .i64 g.d) ∧ W.cell? ⟨rb, 4, none⟩ = some (.int .i64 g.e)) := fun W hb =>
    ⟨(h.below hb).c.blk.cell 0 _ rfl, (h.below hb).c.blk.cell 1 _ rfl, (h.below hb).c.blk.cell 2 _ rfl, (h.below hb).c.blk.cell 3 _ rfl, (h.below hb).c.blk.cell 4 _ rfl⟩
  by_cases hx : isHalf x
  · by_cases h0 : at' < 0
    · unfold appE at hE
      rw [if_pos (Or.inr h0)] at hE
      cases hE
      unfold isHalf at hx
      rcases hx with rfl | rfl
      all_goals
        go_enter Try.func59, Try.ntmps59
        go_wp2_with fail
        go_ret
        exact ⟨rfl, h, Only.refl _ _⟩
    · obtain ⟨o, rfl⟩ : ∃ o : Nat, at' = (o : Int) := ⟨at'.toNat, by omega⟩
      by_cases h1 : (halfN g : Int) - ((m : Int) + 7) < (o : Int)
      · unfold appE at hE
        rw [if_neg (by rintro (q | q); exact q hx; exact h0 q), hn, if_pos h1] at hE
        cases hE
        clear hn
        generalize halfN g = k at *
        have hcase : (k : Int) < (o : Int) ∨ ((o : Int) ≤ (k : Int) ∧ (k : Int) - (o : Int) < (m : Int) + 6 + 1) := by omega
        clear h1
        unfold isHalf at hx
        rcases hx with rfl | rfl <;> rcases hcase with h1 | ⟨h1, h2⟩
        all_goals
          as_aux_lemma =>
            go_enter Try.func59, Try.ntmps59
            go_upto_region 6 with (go_at_call 45; refine (ref_body A m c bs _ hb HN.out hm).mono ?_; rintro e w1 ⟨A1, c1, rfl, hc1, -, hy1, hA1, hb1⟩)
            obtain ⟨b0, b1, b2, b3, b4⟩ := HBK.out _ hb1
            go_upto_region 7 with (go_at_call 55; refine (HS.out _).mono ?_; rintro e w3 ⟨rfl, hb3⟩)
            have hb30 := hb1.trans (hb3.mono hb1.size)
            clear hb3 b0 b1 b2 b3 b4
            go_wp2_with fail
            go_ret
            exact ⟨rfl, h.below hb30, Only.of_below hb30 _⟩
      · obtain ⟨xb, hxb⟩ : ∃ xb, x * (halfN g : Int) + (o : Int) = xb := ⟨_, rfl⟩
        obtain ⟨r1, l1, s1, hE1⟩ : ∃ r1 l1 s1, progE s l xb (bodyL bs) = (r1, l1, s1) := ⟨_, _, _, rfl⟩
        have hd1 : s1.done ≤ s.done + (m + 6) := by
          have := Go.Proofs.Ytcdgpioljilgeaa.PS.progE_done s l xb (bodyL bs)
          rw [hE1, bodyL_length, hn] at this
          exact this
        unfold appE at hE
        rw [if_neg (by rintro (q | q); exact q hx; exact h0 q), hn, if_neg h1, hxb, hE1] at hE
        simp only at hE
        have HBL := Lib.hid (show (bodyL bs).length = m + 6 by rw [bodyL_length, hn])
        have HE1 := Lib.hid hE1
        have HE := Lib.hid hE
        clear hE hE1 hn
        generalize halfN g = k at *
        obtain ⟨rr, l2, s2, hE2⟩ : ∃ rr l2 s2, progE s1 l1 (xb + ((m : Int) + 6)) [0] = (rr, l2, s2) := ⟨_, _, _, rfl⟩
        rw [hE2] at HE
        have HE2 := Lib.hid hE2
        clear hE2
        have ho1 : (o : Int) ≤ (k : Int) := by omega
        have ho2 : ¬ ((k : Int) - (o : Int) < (m : Int) + 6 + 1) := by omega
        clear h1
        rcases half_base hx k with ⟨rfl, e⟩ | ⟨rfl, e⟩
        rotate_left
        rw [e] at hxb
        have hxb2 : xb = (k : Int) + (o : Int) := by omega
        rotate_left
        rw [e] at hxb
        have hxb2 : xb = (o : Int) := by omega
        all_goals
          as_aux_lemma =>
            subst hxb2
            clear hxb e
            go_enter Try.func59, Try.ntmps59
            go_upto_region 6 with (go_at_call 45; refine (ref_body A m c bs _ hb HN.out hm).mono ?_; rintro e w1 ⟨A1, c1, rfl, hc1, -, hy1, hA1, hb1⟩)
            obtain ⟨b0, b1, b2, b3, b4⟩ := HBK.out _ hb1
            go_upto_region 7 with (go_at_call 55; refine (HS.out _).mono ?_; rintro e w3 ⟨rfl, hb3⟩)
            have hb30 := hb1.trans (hb3.mono hb1.size)
            have hy3 := hy1.below hb3
            have hR3 := h.below hb30
            have HA3 : Hid (0 < (bodyL bs).length → ∀ y, A1 = some y → y.block ≠ rl ∧ y.block ≠ qb) := fun _ y e => by
              have := hA1 y e
              have := h.lt
              omega
            clear hb3 hb1 hy1 hA1 b0 b1 b2 b3 b4
            have hlb : (bodyL bs).length ≤ 9223372036854775807 := by rw [HBL.out]; omega
            have hdn : s.done + (bodyL bs).length ≤ 1000000000000 := by rw [HBL.out]; omega
            go_upto_region 10 with (go_at_call 38; refine (rrig_program hR3 _ (by omega) A1 (m + 6) c1 (bodyL bs) hy3 HBL.out.symm hlb HA3.out hdn HE1.out).mono ?_; rintro e w4 ⟨rfl, hR4, ho4⟩)
            have ho40 := (Only.of_below hb30 [rl, kb, qb]).trans ho4
            clear ho4 hR3 hb30 hlb hdn hy3
            have HE' := HE.out
            clear HE HE1
            by_cases hr1 : r1 = 0
            · subst hr1
              rw [if_neg (by simp)] at HE'
              cases HE'
              have o1 := byts_one w4 0
              have hRa := hR4.below (below_alloc w4 (.cells #[.int .u8 0] 5))
              have hl4 := hR4.lt
              have hdn2 : s1.done + [(0 : UInt8)].length ≤ 1000000000000 := by
                have : [(0 : UInt8)].length = 1 := rfl
                omega
              have HAq : Hid (0 < [(0 : UInt8)].length → ∀ y, (some ⟨w4.heap.size, 0, none⟩ : Option Addr) = some y → y.block ≠ rl ∧ y.block ≠ qb) := fun _ y e => by
                cases e
                simp
                omega
              go_wp2_with (go_at_call 38; refine (rrig_program hRa _ (by omega) _ 1 1 [0] o1 rfl (by decide) HAq.out hdn2 HE2.out).mono ?_; rintro e w5 ⟨rfl, hR5, ho5⟩)
              go_ret
              exact ⟨rfl, hR5, (ho40.alloc _).trans ho5⟩
            · have hz : (r1 != 0) = true := by simpa using hr1
              rw [if_pos hr1] at HE'
              cases HE'
              go_wp2_with fail
              go_ret
              exact ⟨rfl, hR4, ho40⟩
  · unfold appE at hE
    rw [if_pos (Or.inl hx)] at hE
    cases hE
    have h0 : (x != 0) = true := by unfold isHalf at hx; simp; omega
    have h1 : (x != 1) = true := by unfold isHalf at hx; simp; omega
    go_enter Try.func59, Try.ntmps59
    go_wp2_with fail
    go_ret
    exact ⟨rfl, h, Only.refl _ _⟩
end
end Go.Proofs.Ytcdgpioljilgeaa
