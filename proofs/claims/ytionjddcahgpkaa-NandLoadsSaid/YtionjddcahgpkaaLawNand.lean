/- What the laws of package nand share: a small geometry, bytes made to fit, and that the program is awake. -/
import Derived.Test.YtionjddcahgpkaaNand3
import Derived.Test.YtionjddcahgpkaaPlay4
import Derived.Test.YtionjddcahgpkaaMake
set_option linter.unusedVariables false
set_option maxRecDepth 100000
set_option linter.unusedSimpArgs false
namespace Go.Proofs.Ytionjddcahgpkaa
open Go.RowKit

/-- Bytes, so many. -/
def fitL (l : List UInt8) (k : Nat) : List UInt8 := l.take k ++ (List.replicate k 0).drop (min l.length k)
theorem fitL_length (l : List UInt8) (k : Nat) : (fitL l k).length = k := by
  unfold fitL
  rw [List.length_append, List.length_take, List.length_drop, List.length_replicate]
  omega

set_option maxHeartbeats 1000000 in
theorem law_fit (A : Option Addr) (n c : Nat) (l : List UInt8) (k : Nat) (w : World) (hb : Byts w A l) (hn : n = l.length) (hk : k ≤ 1000) :
    Calls Try.prog 11 #[.slice A n c, .int .i64 (k : Int)] w (Ret fun v w' => ∃ q, v = .slice (some ⟨q, 0, none⟩) k k ∧ w.heap.size ≤ q ∧ Own w' w.heap.size v (fitL l k) ∧ Below w.heap.size w w') := by
  obtain ⟨w0, rfl⟩ : ∃ w0 : World, w0 = w := ⟨_, rfl⟩
  have hmk := run_make_zs k (by omega)
  have hown := own_zs k (by omega) w0 w0.heap.size (Nat.le_refl _)
  have hb0 := below_alloc w0 (.cells (zsN k).toArray 5 (0, 0))
  have hb1 := hb.below hb0
  have hs0 := Nat.le_refl w0.heap.size
  clear hb
  go_enter Try.func11, Try.ntmps11
  go_upto_region 2 with fail
  clear hmk
  generalize w0.alloc (.cells (zsN k).toArray 5 (0, 0)) = w1 at *
  obtain ⟨q, hq⟩ : ∃ q, w0.heap.size = q := ⟨_, rfl⟩
  have hql := (hown.lt (k := w0.heap.size) rfl).1
  rw [hq] at hown hql hs0 hb0 ⊢
  have HQ := Lib.hid hq
  clear hq
  go_wp2_with (refine wpList_wanted (by rfl) fun K hK => wp_copy_byts _ _ rfl (off := 0) rfl rfl hown hb1 hn (fun _ => ⟨q, k, k, rfl, rfl⟩) (by rw [List.length_replicate]; omega) ?_; intro w2 hown2 hg2; refine hK _ _ ?_; clear hK K)
  go_ret
  have hbF : Below q w0 w2 := hb0.grown hg2 (by have := hb0.size; have := HQ.out; omega) (fun x e => (hown.lt e).1)
  rw [← HQ.out] at hbF
  refine Ret.mk ⟨q, rfl, by have := HQ.out; omega, ?_, hbF⟩
  have e : (List.replicate k (0 : UInt8)).take 0 ++ l.take k ++ (List.replicate k 0).drop (0 + min l.length k) = fitL l k := by
    unfold fitL
    rw [List.take_zero, List.nil_append, Nat.zero_add]
  rw [e] at hown2
  exact hown2.mono (by have := HQ.out; omega)

theorem law_small (w : World) : Calls Try.prog 17 #[] w fun e w' => e = .returned smallG.val ∧ Below w.heap.size w w' := by
  obtain ⟨w0, rfl⟩ : ∃ w0 : World, w0 = w := ⟨_, rfl⟩
  have hb0 := below_alloc w0 (.cells #[.int .i64 0, .int .i64 0, .int .i64 0, .int .i64 0, .int .i64 0] 23)
  have hk := Blk.new w0 [.int .i64 0, .int .i64 0, .int .i64 0, .int .i64 0, .int .i64 0] 23
  have hz : ∀ W, (zeroValue 23).run Try.prog W = .ok (.agg #[.int .i64 0, .int .i64 0, .int .i64 0, .int .i64 0, .int .i64 0]) W := fun W => by kernel_rfl
  go_enter Try.func17, Try.ntmps17
  go_upto_region 1 with fail
  generalize w0.alloc (.cells #[.int .i64 0, .int .i64 0, .int .i64 0, .int .i64 0, .int .i64 0] 23) = w1 at *
  have hlt := hk.lt
  have hs := hb0.size
  go_wp2_with (go_at_call 7; refine (play_small _).mono ?_; rintro e w2 ⟨rfl, hx⟩; have hk2 := hk.below hx; have c0 := hk2.cell 0 _ rfl; have c1 := hk2.cell 1 _ rfl; have c2 := hk2.cell 2 _ rfl; have c3 := hk2.cell 3 _ rfl; have c4 := hk2.cell 4 _ rfl; have f0 := hk2.frz 0; have f1 := hk2.frz 1; have f2 := hk2.frz 2; have f3 := hk2.frz 3; have f4 := hk2.frz 4)
  have hz0 := Nat.le_refl w0.heap.size
  have hF := ((((hk2.set 0 (.int .i64 2)).set 1 (.int .i64 256)).set 2 (.int .i64 4)).set 3 (.int .i64 2)).set 4 (.int .i64 16)
  have d0 := hF.cell 0 _ rfl
  have d1 := hF.cell 1 _ rfl
  have d2 := hF.cell 2 _ rfl
  have d3 := hF.cell 3 _ rfl
  have d4 := hF.cell 4 _ rfl
  refine bodyPost_ret (v := .agg #[.int .i64 2, .int .i64 256, .int .i64 4, .int .i64 2, .int .i64 16]) (by simp [results, Try.results17, go_sem, d0, d1, d2, d3, d4]) rfl ⟨rfl, ?_⟩
  exact (((((hb0.trans (hx.mono hs)).setCell (p := ⟨w0.heap.size, 0, none⟩) hz0 _).setCell (p := ⟨w0.heap.size, 1, none⟩) hz0 _).setCell (p := ⟨w0.heap.size, 2, none⟩) hz0 _).setCell (p := ⟨w0.heap.size, 3, none⟩) hz0 _).setCell (p := ⟨w0.heap.size, 4, none⟩) hz0 _

theorem smallG_ok' : smallG.ok := smallG_ok
set_option maxHeartbeats 4000000 in
theorem awake05 (w : World) : Calls Try.prog 10 #[] w fun e w' => e = .returned (.bool true) ∧ Below w.heap.size w w' := by
  obtain ⟨w0, rfl⟩ : ∃ w0 : World, w0 = w := ⟨_, rfl⟩
  have hs0 := Nat.le_refl w0.heap.size
  have hok1 : nOk smallG 0 1 := by unfold nOk smallG; decide
  have hok0 : nOk smallG 0 0 := by unfold nOk smallG; decide
  have hz : (List.replicate 16 (0 : UInt8)).length = 16 := rfl
  have hnsz : ¬ (((List.replicate 16 (0 : UInt8)).length : Int) ≠ smallG.e ∨ (List.replicate 16 (0 : UInt8)).length ≠ 16) := by decide
  have E1 : Hid (nProg smallG PS.new (nNew smallG) 0 1 (List.replicate 16 0) (List.replicate 16 0) = (8, nNew smallG, PS.new)) := by
    show _ = _
    unfold nProg
    rw [if_pos hok1, if_neg hnsz, if_pos (by show (1 : Int) ≠ 0; decide)]
  obtain ⟨n2, hn2, hn2x⟩ : ∃ n2 : NSt, nProg smallG PS.new (nNew smallG) 0 0 (List.replicate 16 0) (List.replicate 16 0) = (0, n2, PS.new.next) ∧ n2.nx 0 = 1 := by
    refine ⟨⟨upP (nNew smallG).pg 0 0 ((List.replicate 16 0).map (turnB PS.new), (List.replicate 16 0).map (turnB PS.new)), up1 (nNew smallG).nx 0 (0 + 1), (nNew smallG).er⟩, ?_, rfl⟩
    unfold nProg
    rw [if_pos hok0, if_neg hnsz, if_neg (by show ¬ ((0 : Int) ≠ 0); decide), if_neg (by decide)]
    rfl
  have E2 := Lib.hid hn2
  have E3 := Lib.hid hn2x
  clear hn2 hn2x hok0 hok1 hz hnsz
  go_enter Try.func10, Try.ntmps10
  go_upto_region 4 with (first
    | (go_at_call 17; refine (law_small _).mono ?_; rintro e w1 ⟨rfl, hb1⟩)
    | (go_at_call 9; refine (pow_new _).mono ?_; rintro e w2 ⟨v, rfl, pb, rfl, hpb, hpbl, hp2, hb2⟩)
    | (go_at_call 8; refine (nand_new smallG (some ⟨pb, 0, none⟩) _ smallG_ok).mono ?_; rintro e w3 ⟨cb, m1, m2, m3, rfl, hlt3, hc3, hb3⟩))
  have hb20 := hb1.trans (hb2.mono hb1.size)
  have hp3 := hp2.below hb3
  have hb30 := hb20.trans (hb3.mono hb20.size)
  have hc := hc3 w3.heap.size (fun x hx => (hlt3 x hx).2) (Nat.le_refl _)
  have hpbn : pb ∉ [cb, m1, m2, m3] := fun hm => by have := (hlt3 pb hm).1; omega
  have hpb3 : pb < w3.heap.size := Nat.lt_of_lt_of_le hpbl hb3.size
  have hs30 := hb30.size
  have hmk : ∀ W : World, (Instr.makeSlice 33 (.int .i64 16) (.int .i64 16)).run Try.prog W = .ok (.slice (some ⟨W.heap.size, 0, none⟩) 16 16) (W.alloc (.cells (zsN 16).toArray 5 (0, 0))) := fun W => run_make_zs 16 (by omega) W
  have h1 := (own_zs 16 (by omega) w3 w3.heap.size (Nat.le_refl _)).read
  have h2 := (own_zs 16 (by omega) (w3.alloc (.cells (zsN 16).toArray 5 (0, 0))) 0 (Nat.zero_le _)).read
  rw [World.size_alloc] at h2
  have hx4 := ((below_alloc w3 (.cells (zsN 16).toArray 5 (0, 0))).alloc (by simp) (.cells (zsN 16).toArray 5 (0, 0))).drew
  have y1 : Byts ((w3.alloc (.cells (zsN 16).toArray 5 (0, 0))).alloc (.cells (zsN 16).toArray 5 (0, 0))).drew (some ⟨w3.heap.size, 0, none⟩) (List.replicate 16 0) := (h1.alloc _).below (Below.refl _ _).drew
  have y2 : Byts ((w3.alloc (.cells (zsN 16).toArray 5 (0, 0))).alloc (.cells (zsN 16).toArray 5 (0, 0))).drew (some ⟨w3.heap.size + 1, 0, none⟩) (List.replicate 16 0) := h2.below (Below.refl _ _).drew
  have hc4 := hc.below hx4
  have hp4 := hp3.below hx4
  have hb40 := hb30.trans (hx4.mono hs30)
  have HH := Lib.hid (And.intro y1 (And.intro y2 (And.intro hc4 (And.intro hp4 hb40))))
  have HUP : Hid (∀ x ∈ [m1, m2, pb], w0.heap.size ≤ x) := fun x hx => by
    have e1 := hlt3 m1 (by simp)
    have e2 := hlt3 m2 (by simp)
    have e3 := hb1.size
    have e4 := hb2.size
    simp at hx
    omega
  clear hp2 hb1 hb2 hb20 hc3 hlt3 h1 h2 hc hp3 y1 y2 hc4 hp4 hb40 hx4
  go_region_held3 (fun _ => True) (exact True.intro) (first | go_at_call 0)
  all_goals
    obtain ⟨y1, y2, hc4, hp4, hb40⟩ := HH.out
    clear HH hmk
    generalize ((w3.alloc (.cells (zsN 16).toArray 5 (0, 0))).alloc (.cells (zsN 16).toArray 5 (0, 0))).drew = w4 at *
    have hs40 := hb40.size
    have hdF : (∀ x ∈ [pb], x ∉ [cb, m1, m2, m3]) ∧ pb < w3.heap.size := ⟨fun x hx => by simp at hx; subst hx; exact hpbn, hpb3⟩
    have hAA : ∀ A, (A = some (⟨w3.heap.size, 0, none⟩ : Addr) ∨ A = some ⟨w3.heap.size + 1, 0, none⟩) → Byts w4 A (List.replicate 16 0) ∧ ∀ x, A = some x → w3.heap.size ≤ x.block := fun A hA => by
      rcases hA with rfl | rfl
      · exact ⟨y1, fun x e => by cases e; exact Nat.le_refl _⟩
      · exact ⟨y2, fun x e => by cases e; exact Nat.le_succ _⟩
    have HP : Hid (∀ (W : World) (N : Nat) (n n' : NSt) (s s' : PS) (p r : Int), Only [m1, m2, pb] w4 W → NandC W w3.heap.size cb m1 m2 m3 (some ⟨pb, 0, none⟩) smallG N n → N ≤ 5 → Pow W pb [pb] s → s.done ≤ 5 → (0 ≤ p ∧ p ≤ 5) → nProg smallG s n 0 p (List.replicate 16 0) (List.replicate 16 0) = (r, n', s') →
        ∀ A A', (A = some (⟨w3.heap.size, 0, none⟩ : Addr) ∨ A = some ⟨w3.heap.size + 1, 0, none⟩) → (A' = some (⟨w3.heap.size, 0, none⟩ : Addr) ∨ A' = some ⟨w3.heap.size + 1, 0, none⟩) →
        Calls Try.prog 12 #[.pointer (some ⟨cb, 0, none⟩), .int .i64 0, .int .i64 p, .slice A 16 16, .slice A' 16 16] W fun e w' => e = .returned (.int .i64 r) ∧ NandC w' w3.heap.size cb m1 m2 m3 (some ⟨pb, 0, none⟩) smallG (N + 1) n' ∧ Pow w' pb [pb] s' ∧ Only [m1, m2, pb] W w') := by
      intro W N n n' s s' p r ho hc hN hp hdn hpp hE A A' hA hA'
      have hlt : ∀ x, w3.heap.size ≤ x → x ∉ [m1, m2, pb] := fun x hx hm => by
        have h1 := hc.up m1 (by simp)
        have h2 := hc.up m2 (by simp)
        simp at hm
        omega
      obtain ⟨a1, a2⟩ := hAA A hA
      obtain ⟨b1, b2⟩ := hAA A' hA'
      exact nand_program hc (by omega) hp hdF 0 p (by decide) (by omega) A 16 16 (List.replicate 16 0) (a1.only ho (fun x e _ => hlt _ (a2 x e))) rfl (by decide) A' 16 16 (List.replicate 16 0) (b1.only ho (fun x e _ => hlt _ (b2 x e))) rfl (by decide)
        (fun x e _ h => hlt _ (a2 x e) (by simp [h])) (fun x e _ h => hlt _ (b2 x e) (by simp [h])) (by omega) hE
    have C1 := Lib.hid (fun A A' h1 h2 => HP.out w4 0 _ _ _ _ 1 _ (Only.refl _ _) hc4 (by omega) hp4 (by decide) (by decide) E1.out A A' h1 h2)
    have C2 := Lib.hid (fun W (ho : Only [m1, m2, pb] w4 W) hc hp A A' h1 h2 => HP.out W 1 _ _ PS.new _ 0 _ ho hc (by omega) hp (by decide) (by decide) E2.out A A' h1 h2)
    go_wp2_with (first
      | (go_at_call 12; (with_reducible refine (C1.out _ _ ?_ ?_).mono ?_); (first | exact Or.inl rfl | exact Or.inr rfl); (first | exact Or.inl rfl | exact Or.inr rfl); rintro e w5 ⟨rfl, hc5, hp5, ho5⟩)
      | (go_at_call 12; (with_reducible refine (C2.out _ ho5 hc5 hp5 _ _ ?_ ?_).mono ?_); (first | exact Or.inl rfl | exact Or.inr rfl); (first | exact Or.inl rfl | exact Or.inr rfl); rintro e w6 ⟨rfl, hc6, hp6, ho6⟩)
      | (go_at_call 14; refine (nand_programmed hc6 0 (by decide)).mono ?_; rintro e w7 ⟨rfl, rfl⟩; rw [E3.out]))
    go_ret
    refine ⟨rfl, ?_⟩
    have hu : ∀ x ∈ [m1, m2, pb], w0.heap.size ≤ x := fun x hx => HUP.out x hx
    exact (hb40.trans ((ho5.trans ho6).below hu hs40))
end Go.Proofs.Ytionjddcahgpkaa
