/- The walks of the laws on power. -/
import Derived.Test.YtdieeleaaejfhaaRefPower
import Derived.Test.YtdieeleaaejfhaaOpsP
import Derived.Deep.RegionHeld3
set_option linter.unusedVariables false
namespace Go.Proofs.Ytdieeleaaejfhaa
open Go.RowKit

set_option maxRecDepth 100000 in
set_option maxHeartbeats 1000000 in
theorem awake03 (w : World) : Calls Try.prog 17 #[] w fun e w' => e = .returned (.bool true) ∧ Below w.heap.size w w' := by
  obtain ⟨w0, rfl⟩ : ∃ w0 : World, w0 = w := ⟨_, rfl⟩
  have e1 : PS.new.did = true := rfl
  have e2 : PS.new.torn = false := rfl
  obtain ⟨s2, hs2⟩ : ∃ s, s = PS.new.next.cut 0 7 := ⟨_, rfl⟩
  have e3 : s2.did = false := by rw [hs2]; rfl
  have e4 : s2.torn = true := by rw [hs2]; rfl
  have e5 : s2.next.off = true := by rw [hs2]; rfl
  have e6 : s2.next.mask.toNat = 7 := by rw [hs2]; rfl
  have e7 : s2.next.done = 1 := by rw [hs2]; rfl
  have e8 : s2.done ≤ 1000000000000 := by rw [hs2]; decide
  have HS2 := Lib.hid hs2
  clear hs2
  go_enter Try.func17, Try.ntmps17
  go_upto_region 2 with (go_at_call 15; refine (pow_new _).mono ?_; rintro e w1 ⟨v, rfl, pb, rfl, hpg, hpl, hp1, hb1⟩)
  go_upto_region 5 with (go_at_call 23; refine (pow_step _ _ _ _ hp1 (by decide)).mono ?_; rintro e w2 ⟨rfl, hp2, ho2⟩)
  go_upto_region 6 with (go_at_call 18; refine (pow_cut _ _ _ 0 7 _ hp2 (by decide)).mono ?_; rintro e w3 ⟨rfl, hp3, ho3⟩)
  rw [← HS2.out] at hp3
  go_upto_region 7 with (go_at_call 23; refine (pow_step _ _ _ _ hp3 e8).mono ?_; rintro e w4 ⟨rfl, hp4, ho4⟩)
  go_wp2_with (first
    | (go_at_call 27; refine (pow_off _ _ _ _ hp4).mono ?_; rintro e w' ⟨rfl, rfl⟩)
    | (go_at_call 28; refine (pow_mask _ _ _ _ hp4).mono ?_; rintro e w' ⟨rfl, rfl⟩)
    | (go_at_call 29; refine (pow_steps _ _ _ _ hp4).mono ?_; rintro e w' ⟨rfl, rfl⟩))
  go_ret
  have z1 := hb1.size
  have z2 := ho2.size
  have z3 := ho3.size
  exact ⟨rfl, ((hb1.trans (ho2.below (by simpa using hpg) z1)).trans (ho3.below (by simpa using hpg) (by omega))).trans (ho4.below (by simpa using hpg) (by omega))⟩

theorem quiet_left {P : Program} {f : FuncId} {args : Array Value} {w : World} {n : Nat} {v : Value}
    (h : Calls P f args (w.drewN n) fun e w' => e = .returned v ∧ w.drewN n = w') : Calls P f args (w.drewN n) fun e w'' => e = .returned v ∧ ∃ m, w'' = w.drewN m :=
  h.mono fun _ _ ⟨he, hm⟩ => ⟨he, n, hm.symm⟩

/-- Two objects of one power: the program's and the reference's, apart. -/
structure Both (B : Nat) (w : World) (pb rb : Nat) (s : PS) (F G : List Nat) : Prop where
  p : Pow w pb F s
  r : RPow w rb G s
  d : ∀ x ∈ F, x ∉ G
  f : ∀ x ∈ F, B ≤ x
  g : ∀ x ∈ G, B ≤ x

theorem Both.below {B : Nat} {w w' : World} {pb rb : Nat} {s : PS} {F G : List Nat} (h : Both B w pb rb s F G) (hb : Below w.heap.size w w') : Both B w' pb rb s F G :=
  ⟨h.p.below hb, h.r.below hb, h.d, h.f, h.g⟩
theorem Pow.mem {w : World} {b : Nat} {F : List Nat} {s : PS} (h : Pow w b F s) : b ∈ F := by
  obtain ⟨m, G, h1, h2, rfl, h3⟩ := h
  simp
theorem Both.mid {B : Nat} {w w' : World} {pb rb : Nat} {s : PS} {F G : List Nat} (h : Both B w pb rb s F G) (ho : Only [pb] w w') : RPow w' rb G s :=
  h.r.only ho (fun x hx => by simp; rintro rfl; exact h.d _ h.p.mem hx)
theorem Both.turn {B : Nat} {w w2 w3 : World} {pb rb : Nat} {s s' : PS} {F G F' G' : List Nat} (h : Both B w pb rb s F G) (hs : B ≤ w.heap.size) (hp : Pow w2 pb F' s') (ho : Only [pb] w w2) (hF : ∀ x ∈ F', x ∈ F ∨ w.heap.size ≤ x)
    (hr : RPow w3 rb G' s') (ho2 : Only [rb] w2 w3) (hG : ∀ x ∈ G', x ∈ G ∨ w2.heap.size ≤ x) : Both B w3 pb rb s' F' G' ∧ Below B w w3 := by
  have z1 := ho.size
  have hd : ∀ x ∈ F', x ∉ G' := fun x hx hx' => by
    have hxl := hp.lt x hx
    rcases hG x hx' with a | a
    · rcases hF x hx with b | b
      · exact h.d x b a
      · have := h.r.lt x a; omega
    · omega
  refine ⟨⟨hp.only ho2 (fun x hx => ?_), hr, hd, fun x hx => ?_, fun x hx => ?_⟩, ?_⟩
  · simp; rintro rfl; exact hd _ hx hr.mem
  · rcases hF x hx with b | b
    · exact h.f x b
    · omega
  · rcases hG x hx with b | b
    · exact h.g x b
    · omega
  · exact (ho.below (by simpa using h.f pb h.p.mem) hs).trans (ho2.below (by simpa using h.g rb h.r.mem) (by omega))

set_option maxRecDepth 100000 in
set_option maxHeartbeats 4000000 in
theorem powerPlays_walk {w : World} (A : Option Addr) (c : Nat) (ops : List OpP) (hcap : ops.length ≤ c ∧ c ≤ maxLen) (h : OpsP w A ops) :
    Calls Try.prog 3 #[.slice A ops.length c] w fun e w' => e = .returned (.bool true) ∧ Below w.heap.size w w' := by
  obtain ⟨w0, rfl⟩ : ∃ w0 : World, w0 = w := ⟨_, rfl⟩
  have hl63 : ops.length ≤ 9223372036854775807 := Nat.le_trans hcap.1 hcap.2
  clear hcap
  go_enter Try.func3, Try.ntmps3
  go_upto_region 2 with (first
    | (go_at_call 15; refine (pow_new _).mono ?_; rintro e w1 ⟨v, rfl, pb, rfl, hpg, hpl, hp1, hb1⟩)
    | (go_at_call 16; refine (rpow_new _).mono ?_; rintro e w2 ⟨v, rfl, rb, rfl, hrg, hrl, hp2, hb2⟩))
  have hp1' := hp1.below hb2
  have hb20 := hb1.trans (hb2.mono hb1.size)
  have hB : Both w0.heap.size w2 pb rb PS.new [pb] [rb] := ⟨hp1', hp2, by simp; omega, by simpa using hpg, by simp; exact Nat.le_trans hb1.size hrg⟩
  clear hp1 hp1' hp2 hpl hb1 hb2 hrl hpg hrg
  go_upto_region 4 with (go_at_call 17; refine (awake03 _).mono ?_; rintro e w3 ⟨rfl, hb3⟩)
  have hB3 := hB.below hb3
  have hb30 := hb20.trans (hb3.mono hb20.size)
  clear hB hb3 hb20
  go_upto_region 5 with fail
  have hs3 := hb30.size
  go_loopw [5] (fun v5 wr => ∃ k s F G, k ≤ ops.length ∧ v5 = .int .i64 (k : Int) ∧ Both w0.heap.size wr pb rb s F G ∧ s.done ≤ k ∧ Below w0.heap.size w0 wr) (fun v5 _ => ops.length - (intOf v5).toNat)
  case atStart => exact ⟨0, _, _, _, Nat.zero_le _, rfl, hB3, Nat.le_refl _, hb30⟩
  case round =>
    clear hB3 hb30
    obtain ⟨k, s, F, G, hk, rfl, hB, hd, hbel⟩ := hrel
    by_cases hlt : k < ops.length
    · by_cases hlt2 : k < 200
      · rcases h with rfl | ⟨b, off, rfl, hc⟩
        · simp at hlt
        obtain ⟨AL, cl, ho0, hi0, hwf, hn⟩ := hc k hlt
        have ho : ∀ j u, [Value.int .i64 ops[k].kind, .int .i64 ops[k].n, .int .u8 (ops[k].mask.toNat : Int), .slice AL ops[k].l.length cl][j]? = some u → wr.cell? ⟨b, off + k * 4 + j, none⟩ = some u :=
          fun j u hu => (hbel.cell (World.block_lt_of_cell? w0 _ (ho0 j u hu))).trans (ho0 j u hu)
        clear ho0
        generalize ops[k] = o at *
        rcases o with ⟨kind, n, mask, l⟩
        have x0 : wr.cell? ⟨b, off + k * 4, none⟩ = some (.int .i64 kind) := ho 0 _ rfl
        have x1 : wr.cell? ⟨b, off + k * 4 + 1, none⟩ = some (.int .i64 n) := ho 1 _ rfl
        have x2 : wr.cell? ⟨b, off + k * 4 + 2, none⟩ = some (.int .u8 (mask.toNat : Int)) := ho 2 _ rfl
        have x3 : wr.cell? ⟨b, off + k * 4 + 3, none⟩ = some (.slice AL l.length cl) := ho 3 _ rfl
        simp only at hi0 hwf hn
        clear hc ho
        have hi := hi0.below hbel
        have hob : ∀ x, AL = some x → 0 < l.length → x.block < w0.heap.size := hi0.lt
        clear hi0
        go_upto_block 2 with fail
        have hbo := Blk.new wr [.int .i64 kind, .int .i64 n, .int .u8 (mask.toNat : Int), .slice AL l.length cl] 30
        have hbx := below_alloc wr (.cells [.int .i64 kind, .int .i64 n, .int .u8 (mask.toNat : Int), .slice AL l.length cl].toArray 30 (0, 0))
        have hbs : wr.heap.size < (wr.alloc (.cells [.int .i64 kind, .int .i64 n, .int .u8 (mask.toNat : Int), .slice AL l.length cl].toArray 30 (0, 0))).heap.size := by simp
        generalize wr.alloc (.cells [.int .i64 kind, .int .i64 n, .int .u8 (mask.toNat : Int), .slice AL l.length cl].toArray 30 (0, 0)) = w1 at *
        have hB1 := hB.below hbx
        have hi1 := hi.below hbx
        have hbel1 := hbel.trans (hbx.mono hbel.size)
        have hFo : ∀ x ∈ F, x ≠ wr.heap.size := fun x hx => by have := hB.p.lt x hx; omega
        have hGo : ∀ x ∈ G, x ≠ wr.heap.size := fun x hx => by have := hB.r.lt x hx; omega
        clear hB hi hbel hbx x0 x1 x2 x3
        generalize wr.heap.size = bo at *
        go_cut [7] (fun v7 w' => v7 = .bool true ∧ ∃ s' F' G', Both w0.heap.size w' pb rb s' F' G' ∧ s'.done ≤ k + 1 ∧ Below w0.heap.size w0 w')
        case first =>
          have hs1 := hbel1.size
          have hpo : pb ≠ bo := hFo _ hB1.p.mem
          have hro : rb ≠ bo := hGo _ hB1.r.mem
          have c1 := hbo.cell 1 _ rfl
          have c2 := hbo.cell 2 _ rfl
          have c3 := hbo.cell 3 _ rfl
          have hbo2 : ∀ w2, Only [pb] w1 w2 → Blk w2 bo 30 [.int .i64 kind, .int .i64 n, .int .u8 (mask.toNat : Int), .slice AL l.length cl] := fun w2 ho => hbo.only ho (by simpa using hpo.symm)
          have HB2 := Lib.hid hbo2
          have hd2 : s.done ≤ 1000000000000 := by omega
          clear hbo2
          by_cases hk1 : kind = 1
          · have hk1' : (kind == 1) = true := by simpa using hk1
            clear hk1
            obtain ⟨AR, cR, hrb⟩ := hB1.r.blk
            have r0 := hrb.cell 0 _ rfl
            clear hrb
            cases hoff : s.off with
            | true =>
              rw [hoff] at r0
              clear hoff
              go_wp2_with fail
              go_roundw
              case rel => exact ⟨k + 1, s, F, G, by omega, by go_num, hB1, by omega, hbel1⟩
              case measure => simp [intOf]; omega
            | false =>
              rw [hoff] at r0
              clear hoff
              go_upto_region 16 with (go_at_call 18; refine (pow_cut _ _ _ _ _ _ hB1.p hn).mono ?_; rintro e w2 ⟨rfl, hp2, ho2⟩)
              have d1 := (HB2.out _ ho2).cell 1 _ rfl
              have d2 := (HB2.out _ ho2).cell 2 _ rfl
              have hm2 := hB1.mid ho2
              go_wp2_with (go_at_call 19; refine (rpow_cut _ _ _ _ _ _ hm2 hn).mono ?_; rintro e w3 ⟨rfl, hr3, ho3⟩)
              go_meet
              obtain ⟨hB3, hb3⟩ := hB1.turn hs1 hp2 ho2 (fun x hx => Or.inl hx) hr3 ho3 (fun x hx => Or.inl hx)
              exact ⟨rfl, _, _, _, hB3, by show s.done ≤ _; omega, hbel1.trans hb3⟩
          have hk1' : (kind == 1) = false := by simpa using hk1
          clear hk1
          by_cases hk2 : kind = 2
          · have hk2' : (kind == 2) = true := by simpa using hk2
            clear hk2
            by_cases h50 : 50 < l.length
            · go_wp2_with fail
              go_ret
              exact ⟨rfl, hbel1⟩
            · have hApb : ∀ x, AL = some x → 0 < l.length → x.block ≠ pb := fun x e h0 => by have := hob x e h0; have := hB1.f _ hB1.p.mem; omega
              go_upto_region 21 with (go_at_call 20; refine (pow_fail _ _ _ _ _ _ _ hB1.p hi1 hwf hApb (by omega)).mono ?_; rintro e w2 ⟨rfl, ⟨mb, hmb, hp2⟩, ho2⟩)
              have d3 := (HB2.out _ ho2).cell 3 _ rfl
              have hi2 := kInt_at (hi1.only ho2 (fun x e h0 => by simpa using hApb x e h0))
              have hm2 := hB1.mid ho2
              have hs2 := Nat.le_refl w2.heap.size
              have hb8 : l.length * kInt.bytes ≤ 140737488355328 := by show l.length * 8 ≤ _; omega
              go_wp2_with (at_builtin; refine wpList_wanted (by rfl) fun K hK => wp_clone_els kInt _ rfl rfl hi2 rfl hb8 (by omega) hs2 ?_; intro v3 w3 hown3 hbel3 hg3; obtain ⟨A3, cc3, rfl, -, -, -⟩ := hown3.read; obtain ⟨AR, cR, hrb⟩ := (hm2.below hbel3).blk; have r4 := hrb.cell 4 _ rfl; have q4 := hrb.frz 4; refine hK _ _ ?_; clear hK K)
              go_meet
              have hm3 := hm2.below hbel3
              have hr4 := hm3.which hown3 (fun g e => by have := hg3 g e; have := hm2.lt rb hm2.mem; omega) (by omega)
              have ho3 : Only [rb] w2 (w3.setCell ⟨rb, 4, none⟩ (.slice A3 l.length cc3)) := (Only.of_below hbel3 [rb]).setCell (by simp) _
              obtain ⟨hB3, hb3⟩ := hB1.turn hs1 hp2 ho2 (fun x hx => by simp at hx; exact hx.elim (fun e => by rw [e]; exact Or.inl hB1.p.mem) (fun e => by rw [e]; exact Or.inr hmb)) hr4 ho3
                (fun x hx => by rw [List.mem_cons, Option.mem_toList] at hx; exact hx.elim (fun e => by rw [e]; exact Or.inl hB1.r.mem) (fun e => Or.inr (by rw [hg3 x e]; exact Nat.le_refl _)))
              exact ⟨rfl, _, _, _, hB3, by show s.done ≤ _; omega, hbel1.trans hb3⟩
          have hk2' : (kind == 2) = false := by simpa using hk2
          clear hk2
          by_cases hk3 : kind = 3
          · have hk3' : (kind == 3) = true := by simpa using hk3
            clear hk3
            go_upto_region 24 with (go_at_call 21; refine (pow_on _ _ _ _ hB1.p).mono ?_; rintro e w2 ⟨rfl, hp2, ho2⟩)
            have hm2 := hB1.mid ho2
            go_wp2_with (go_at_call 22; refine (rpow_on _ _ _ _ hm2).mono ?_; rintro e w3 ⟨rfl, hr3, ho3⟩)
            go_meet
            obtain ⟨hB3, hb3⟩ := hB1.turn hs1 hp2 ho2 (fun x hx => Or.inl hx) hr3 ho3 (fun x hx => Or.inl hx)
            exact ⟨rfl, _, _, _, hB3, by show s.done ≤ _; omega, hbel1.trans hb3⟩
          have hk3' : (kind == 3) = false := by simpa using hk3
          clear hk3
          go_upto_region 11 with (go_at_call 23; refine (pow_step _ _ _ _ hB1.p hd2).mono ?_; rintro e w2 ⟨rfl, hp2, ho2⟩)
          have hm2 := hB1.mid ho2
          have hq1 : ∀ q : Bool, (q == q) = true := by simp
          go_wp2_with (go_at_call 24; refine (rpow_step _ _ _ _ hm2 hd2).mono ?_; rintro e w3 ⟨rfl, hr3, ho3⟩)
          all_goals
            go_meet
            obtain ⟨hB3, hb3⟩ := hB1.turn hs1 hp2 ho2 (fun x hx => Or.inl hx) hr3 ho3 (fun x hx => Or.inl hx)
            exact ⟨by simp, _, _, _, hB3, by have := s.next_done_le; omega, hbel1.trans hb3⟩
        case rest =>
          clear hB1 hi1 hbel1 hbo hFo hGo hob
          obtain ⟨rfl, s', F', G', hB, hd', hbel⟩ := hcut
          obtain ⟨AR, cR, hrb⟩ := hB.r.blk
          have r0 := hrb.cell 0 _ rfl
          have r2 := hrb.cell 2 _ rfl
          have r3 := hrb.cell 3 _ rfl
          have HP := Lib.hid (fun m => hB.p.only ((Only.refl [] wc).drewN m) (by simp))
          have HR := Lib.hid (fun m => hB.r.only ((Only.refl [] wc).drewN m) (by simp))
          have hd2 : s'.done ≤ 1000000000000 := by omega
          have n1 : (s'.failing != s'.failing) = false := by simp
          have n2 : (s'.off != s'.off) = false := by simp
          have n3 : ((s'.mask.toNat : Int) != (s'.mask.toNat : Int)) = false := by simp
          have n4 : ((s'.done : Int) != (s'.done : Int)) = false := by simp
          clear hrb
          go_wp2_with fail
          go_quiet ((first
            | (go_at_call 25; exact Calls.quiet_of (pow_fails _ _ _ _ (HP.out _) hd2))
            | (go_at_call 26; exact Calls.quiet_of (rpow_fails _ _ _ _ (HR.out _) hd2))
            | (go_at_call 27; exact quiet_left (pow_off _ _ _ _ (HP.out _)))
            | (go_at_call 28; exact quiet_left (pow_mask _ _ _ _ (HP.out _)))
            | (go_at_call 29; exact quiet_left (pow_steps _ _ _ _ (HP.out _)))))
          go_wp2_with fail
          go_roundw
          case rel => exact ⟨k + 1, s', F', G', by omega, by go_num, hB.below (below_drewN (Below.refl _ _) nq), hd', below_drewN hbel nq⟩
          case measure => simp [intOf]; omega
      · go_wp2_with fail
        go_ret
        exact ⟨rfl, hbel⟩
    · go_wp2_with fail
      go_ret
      exact ⟨rfl, hbel⟩

/-! ### PowerCuts -/

/-- Behind so many steps of n. -/
def cutS (n i : Nat) (k : UInt8) : PS := ⟨(n : Int) - (i : Int), k, false, [], i⟩
theorem cutS_start (n : Nat) (k : UInt8) : PS.new.cut n k = cutS n 0 k := by
  have h : max (n : Int) (-1) = (n : Int) - ((0 : Nat) : Int) := by omega
  show (⟨max (n : Int) (-1), k, false, [], 0⟩ : PS) = ⟨(n : Int) - ((0 : Nat) : Int), k, false, [], 0⟩
  rw [h]
theorem cutS_did {n i : Nat} (k : UInt8) (h : i < n) : (cutS n i k).did = true := by
  have h1 : ¬ ((n : Int) - (i : Int) = 0) := by omega
  show (!false && !decide ((n : Int) - (i : Int) = 0)) = true
  rw [decide_eq_false h1]; rfl
theorem cutS_torn {n i : Nat} (k : UInt8) (h : i < n) : (cutS n i k).torn = false := by
  have h1 : ¬ ((n : Int) - (i : Int) = 0) := by omega
  show (!false && decide ((n : Int) - (i : Int) = 0)) = false
  rw [decide_eq_false h1]; rfl
theorem cutS_next {n i : Nat} (k : UInt8) (h : i < n) : (cutS n i k).next = cutS n (i + 1) k := by
  have h1 : ¬ ((n : Int) - (i : Int) = 0) := by omega
  have h2 : 0 < (n : Int) - (i : Int) := by omega
  have h3 : (n : Int) - (i : Int) - 1 = (n : Int) - ((i + 1 : Nat) : Int) := by omega
  unfold PS.next cutS
  simp only [Bool.false_eq_true, if_false]
  rw [if_neg h1, if_pos h2, h3]

set_option maxRecDepth 100000 in
set_option maxHeartbeats 4000000 in
theorem powerCuts_walk {w : World} (n : Int) (wn : (Lit.int .i64 n).wf = true) (more : Int) (wm : (Lit.int .i64 more).wf = true) (mask : Int) (wk : (Lit.int .u8 mask).wf = true) :
    Calls Try.prog 4 #[.int .i64 n, .int .i64 more, .int .u8 mask] w fun e w' => e = .returned (.bool true) ∧ Below w.heap.size w w' := by
  obtain ⟨w0, rfl⟩ : ∃ w0 : World, w0 = w := ⟨_, rfl⟩
  obtain ⟨k, rfl⟩ := byte_of (wf_u8 wk)
  obtain ⟨N, hN, hNl⟩ : ∃ i : Nat, wrap64 ((IntKind.u64.wrap n).tmod 300) = (i : Int) ∧ i < 300 := mod_len n 300 (by decide) (by decide)
  obtain ⟨M, hM, hMl⟩ : ∃ i : Nat, wrap64 ((IntKind.u64.wrap more).tmod 20) = (i : Int) ∧ i < 20 := mod_len more 20 (by decide) (by decide)
  have HN := Lib.hid hN
  have HM := Lib.hid hM
  clear hN hM wn wm wk
  go_enter Try.func4, Try.ntmps4
  go_upto_region 2 with fail
  rw [HN.out, HM.out]
  go_upto_region 3 with (go_at_call 15; refine (pow_new _).mono ?_; rintro e w1 ⟨v, rfl, pb, rfl, hpg, hpl, hp1, hb1⟩)
  have hs1 := hb1.size
  go_upto_region 5 with (go_at_call 17; refine (awake03 _).mono ?_; rintro e w2 ⟨rfl, hb2⟩)
  have hp2 := hp1.below hb2
  have hb20 := hb1.trans (hb2.mono hs1)
  clear hp1 hb1 hb2 hs1
  go_upto_region 7 with (go_at_call 18; refine (pow_cut _ _ _ _ _ _ hp2 (by omega)).mono ?_; rintro e w3 ⟨rfl, hp3, ho3⟩)
  rw [cutS_start] at hp3
  have hb30 := hb20.trans (ho3.below (by simpa using hpg) hb20.size)
  clear hp2 hb20 ho3
  go_loopw [8] (fun v8 wr => ∃ i, i ≤ N ∧ v8 = .int .i64 (i : Int) ∧ Pow wr pb [pb] (cutS N i k) ∧ Below w0.heap.size w0 wr) (fun v8 _ => N - (intOf v8).toNat)
  case atStart => exact ⟨0, Nat.zero_le _, rfl, hp3, hb30⟩
  case round =>
    clear hp3 hb30
    obtain ⟨i, hi, rfl, hp, hbel⟩ := hrel
    have hdl : (cutS N i k).done ≤ 1000000000000 := by show i ≤ _; omega
    by_cases hlt : i < N
    · have e1 := cutS_did k hlt
      have e2 := cutS_torn k hlt
      have e3 : (cutS N (i + 1) k).off = false := rfl
      have HX := Lib.hid (cutS_next k hlt)
      go_upto_region 10 with (go_at_call 23; refine (pow_step _ _ _ _ hp hdl).mono ?_; rintro e w4 ⟨rfl, hp4, ho4⟩)
      rw [HX.out] at hp4
      have hb4 := hbel.trans (ho4.below (by simpa using hpg) hbel.size)
      clear hp ho4 hbel e1 e2
      go_wp2_with (go_at_call 27; refine (pow_off _ _ _ _ hp4).mono ?_; rintro e w' ⟨rfl, rfl⟩)
      go_roundw
      case rel => exact ⟨i + 1, by omega, by go_num, hp4, hb4⟩
      case measure => simp [intOf]; omega
    · obtain rfl : i = N := by omega
      have e1 : (cutS i i k).did = false := by simp [PS.did, cutS]
      have e2 : (cutS i i k).torn = true := by simp [PS.torn, cutS]
      have e3 : (cutS i i k).next = ⟨0, k, true, [], i⟩ := by simp [PS.next, cutS]
      have HX := Lib.hid e3
      clear e3
      go_upto_region 13 with (go_at_call 23; refine (pow_step _ _ _ _ hp hdl).mono ?_; rintro e w4 ⟨rfl, hp4, ho4⟩)
      rw [HX.out] at hp4
      have hb4 := hbel.trans (ho4.below (by simpa using hpg) hbel.size)
      clear hp ho4 hbel e1 e2
      go_upto_region 16 with (go_at_call 27; refine (pow_off _ _ _ _ hp4).mono ?_; rintro e w' ⟨rfl, rfl⟩)
      go_loopw [13] (fun v13 wr => ∃ j, j ≤ M ∧ v13 = .int .i64 (j : Int) ∧ Pow wr pb [pb] ⟨0, k, true, [], i⟩ ∧ Below w0.heap.size w0 wr) (fun v13 _ => M - (intOf v13).toNat)
      case atStart => exact ⟨0, Nat.zero_le _, rfl, hp4, hb4⟩
      case round =>
        clear hp4 hb4
        obtain ⟨j, hj, rfl, hp, hbel⟩ := hrel
        by_cases hlt2 : j < M
        · have e1 : PS.did ⟨0, k, true, [], i⟩ = false := rfl
          have e2 : PS.torn ⟨0, k, true, [], i⟩ = false := rfl
          go_upto_region 19 with (go_at_call 23; refine (pow_step _ _ _ _ hp (by show i ≤ _; omega)).mono ?_; rintro e w5 ⟨rfl, hp5, ho5⟩)
          have hb5 := hbel.trans (ho5.below (by simpa using hpg) hbel.size)
          go_wp2_with fail
          go_roundw
          case rel => exact ⟨j + 1, by omega, by go_num, hp5, hb5⟩
          case measure => simp [intOf]; omega
        · go_upto_region 22 with (go_at_call 21; refine (pow_on _ _ _ _ hp).mono ?_; rintro e w5 ⟨rfl, hp5, ho5⟩)
          have hb5 := hbel.trans (ho5.below (by simpa using hpg) hbel.size)
          have e1 : PS.did (PS.on ⟨0, k, true, [], i⟩) = true := rfl
          have e2 : PS.torn (PS.on ⟨0, k, true, [], i⟩) = false := rfl
          have e3 : (PS.next (PS.on ⟨0, k, true, [], i⟩)).mask = k := rfl
          have e4 : (PS.next (PS.on ⟨0, k, true, [], i⟩)).done = i + 1 := rfl
          clear hp hbel ho5
          go_upto_region 23 with (go_at_call 23; refine (pow_step _ _ _ _ hp5 (by show i ≤ _; omega)).mono ?_; rintro e w6 ⟨rfl, hp6, ho6⟩)
          have hb6 := hb5.trans (ho6.below (by simpa using hpg) hb5.size)
          clear hp5 hb5 ho6
          go_upto_region 25 with (go_at_call 18; refine (pow_nil_cut 1 1 _).mono ?_; rintro e w' ⟨rfl, rfl⟩)
          go_upto_region 28 with (first
            | (go_at_call 20; refine (pow_nil_fail _ _).mono ?_; rintro e w' ⟨rfl, rfl⟩)
            | (go_at_call 21; refine (pow_nil_on _).mono ?_; rintro e w' ⟨rfl, rfl⟩)
            | (go_at_call 23; refine (pow_nil_step _).mono ?_; rintro e w' ⟨rfl, rfl⟩))
          go_wp2_with (first
            | (go_at_call 29; (with_reducible refine (pow_steps _ _ _ _ hp6).mono ?_); rintro e w' ⟨rfl, rfl⟩)
            | (go_at_call 28; (with_reducible refine (pow_mask _ _ _ _ hp6).mono ?_); rintro e w' ⟨rfl, rfl⟩)
            | (go_at_call 27; (with_reducible refine (pow_nil_off _).mono ?_); rintro e w' ⟨rfl, rfl⟩)
            | (go_at_call 25; (with_reducible refine (pow_nil_fails _).mono ?_); rintro e w' ⟨rfl, rfl⟩)
            | (go_at_call 28; (with_reducible refine (pow_nil_mask _).mono ?_); rintro e w' ⟨rfl, rfl⟩)
            | (go_at_call 29; (with_reducible refine (pow_nil_steps _).mono ?_); rintro e w' ⟨rfl, rfl⟩))
          go_ret
          exact ⟨rfl, hb6⟩

/-! ### PowerCounts -/

theorem PS.step_facts {s : PS} (h : s.off = false) (hl : s.left = -1) : s.did = true ∧ s.torn = false ∧ s.next.fails = s.fails ∧ s.next.done = s.done + 1 ∧ s.next.off = false ∧ s.next.left = -1 := by
  rcases s with ⟨left, mask, off, fails, done⟩
  simp only at h hl
  subst h hl
  exact ⟨rfl, rfl, rfl, rfl, rfl, rfl⟩
theorem PS.torn_facts {s : PS} (h : s.off = false) (k : UInt8) : (s.cut 0 k).next.on.fails = s.fails ∧ (s.cut 0 k).next.on.done = s.done ∧ (s.cut 0 k).next.on.off = false ∧ (s.cut 0 k).next.on.left = -1 := by
  rcases s with ⟨left, mask, off, fails, done⟩
  simp only at h
  subst h
  exact ⟨rfl, rfl, rfl, rfl⟩
theorem PS.failing_at {s : PS} {l : List Int} {i : Nat} (hf : s.fails = l) (hd : s.done = i + 1) : s.failing = l.contains (i : Int) := by
  unfold PS.failing
  rw [hf, hd]
  have : ((i + 1 : Nat) : Int) - 1 = (i : Int) := by omega
  rw [this, decide_eq_true (by omega), Bool.true_and]


set_option maxRecDepth 100000 in
set_option maxHeartbeats 4000000 in
theorem powerCounts_walk {w : World} (A : Option Addr) (c : Nat) (l : List Int) (hcap : l.length ≤ c ∧ c ≤ maxLen) (hi : Ints w A l) (hw : ∀ x ∈ l, (Lit.int .i64 x).wf = true) (hl : l.length * 8 ≤ 140737488351232)
    (n : Int) (wn : (Lit.int .i64 n).wf = true)
    (A' : Option Addr) (c' : Nat) (l' : List Int) (hcap' : l'.length ≤ c' ∧ c' ≤ maxLen) (hi' : Ints w A' l') (hw' : ∀ x ∈ l', (Lit.int .i64 x).wf = true) (hl' : l'.length * 8 ≤ 140737488351232) :
    Calls Try.prog 5 #[.slice A l.length c, .int .i64 n, .slice A' l'.length c'] w fun e w' => e = .returned (.bool true) ∧ Below w.heap.size w w' := by
  obtain ⟨w0, rfl⟩ : ∃ w0 : World, w0 = w := ⟨_, rfl⟩
  by_cases h30 : 30 < l.length
  · go_enter Try.func5, Try.ntmps5
    go_wp2_with (go_at_call 17; refine (awake03 _).mono ?_; rintro e w2 ⟨rfl, hb2⟩)
    go_ret
    exact ⟨rfl, hb2⟩
  obtain ⟨N, hN, hNl⟩ : ∃ i : Nat, wrap64 ((IntKind.u64.wrap n).tmod 100) = (i : Int) ∧ i < 100 := mod_len n 100 (by decide) (by decide)
  have HN := Lib.hid hN
  clear hN wn hcap hcap' hl
  have hl'' : l'.length ≤ 140737488351232 := by omega
  have hlo := hi.lt
  have n0 : PS.new.failing = false := rfl
  have hd0 : PS.new.done ≤ 1000000000000 := by decide
  go_enter Try.func5, Try.ntmps5
  go_upto_region 4 with fail
  rw [HN.out]
  go_upto_region 5 with (go_at_call 15; refine (pow_new _).mono ?_; rintro e w1 ⟨v, rfl, pb, rfl, hpg, hpl, hp1, hb1⟩)
  have hs1 := hb1.size
  go_upto_region 7 with (first
    | (go_at_call 17; refine (awake03 _).mono ?_; rintro e w2 ⟨rfl, hb2⟩; have hp2 := hp1.below hb2; have hb20 := hb1.trans (hb2.mono hs1))
    | (go_at_call 25; refine (pow_fails _ _ _ _ hp2 hd0).mono ?_; rintro e w3 ⟨rfl, hw3⟩; have HW3 := Lib.hid hw3; clear hw3))
  obtain ⟨m3, rfl⟩ := HW3.out
  have hp3 := hp2.below (below_drewN (Below.refl _ _) m3)
  have hb30 := below_drewN hb20 m3
  clear hp1 hb1 hs1 hb2 hp2 hb20 HW3 n0 hd0
  generalize w2.drewN m3 = w3 at *
  have hi3 := hi.below hb30
  have hi3' := hi'.below hb30
  have hApb : ∀ x, A = some x → 0 < l.length → x.block ≠ pb := fun x e h0 => by have := hlo x e h0; omega
  go_upto_region 8 with (go_at_call 20; refine (pow_fail _ _ _ _ _ _ _ hp3 hi3 hw hApb (by omega)).mono ?_; rintro e w4 ⟨rfl, ⟨mb, hmb, hp4⟩, ho4⟩)
  have hb40 := hb30.trans (ho4.below (by simpa using hpg) hb30.size)
  clear hp3 hb30 hi3 hi3' ho4
  have hd4 : (PS.new.failOn l).fails = l ∧ (PS.new.failOn l).done = 0 ∧ (PS.new.failOn l).off = false ∧ (PS.new.failOn l).left = -1 := ⟨rfl, rfl, rfl, rfl⟩
  generalize PS.new.failOn l = s0 at *
  go_upto_region 9 with fail
  have hpg2 : ∀ x ∈ [pb], w0.heap.size ≤ x := by simpa using hpg
  go_loopw [8] (fun v8 wr => ∃ i s, i ≤ N ∧ v8 = .int .i64 (i : Int) ∧ Pow wr pb [pb, mb] s ∧ Hid (s.fails = l) ∧ Hid (s.done = i) ∧ Hid (s.off = false) ∧ Hid (s.left = -1) ∧ Below w0.heap.size w0 wr) (fun v8 _ => N - (intOf v8).toNat)
  case atStart => exact ⟨0, s0, Nat.zero_le _, rfl, hp4, hd4.1, hd4.2.1, hd4.2.2.1, hd4.2.2.2, hb40⟩
  case round =>
    clear hp4 hb40 hd4
    obtain ⟨i, s, hiN, rfl, hp, hs1, hs2, hs3, hs4, hbel⟩ := hrel
    by_cases hlt : i < N
    · go_upto_region 11 with fail
      go_cut [51] (fun v51 w' => ∃ q : Bool, v51 = .bool q ∧ w' = wr)
      case first =>
        clear hp
        by_cases hc1 : i < l'.length
        · obtain ⟨b', off', rfl, hcell⟩ := (hi'.below hbel).at hc1
          generalize l'[i] = y at *
          go_wp2_with fail
          go_meet
          exact ⟨_, rfl, rfl⟩
        · go_wp2_with fail
          go_meet
          exact ⟨_, rfl, rfl⟩
      case rest =>
        obtain ⟨q, rfl, rfl⟩ := hcut
        go_upto_if 51 with fail
        go_cut [] (fun w' => ∃ s', Pow w' pb [pb, mb] s' ∧ Hid (s'.fails = l) ∧ Hid (s'.done = i) ∧ Hid (s'.off = false) ∧ Hid (s'.left = -1) ∧ Below w0.heap.size w0 w')
        case first =>
          cases q with
          | false =>
            go_wp2_with fail
            go_meet
            exact ⟨s, hp, hs1, hs2, hs3, hs4, hbel⟩
          | true =>
            have hd1 : (s.cut 0 1).done ≤ 1000000000000 := by have := hs2.out; show s.done ≤ _; omega
            go_wp2_with (first
              | (go_at_call 18; refine (pow_cut _ _ _ 0 1 _ hp (by decide)).mono ?_; rintro e w5 ⟨rfl, hp5, ho5⟩; have hb5 := hbel.trans (ho5.below hpg2 hbel.size))
              | (go_at_call 23; refine (pow_step _ _ _ _ hp5 hd1).mono ?_; rintro e w6 ⟨rfl, hp6, ho6⟩; have hb6 := hb5.trans (ho6.below hpg2 hb5.size))
              | (go_at_call 21; refine (pow_on _ _ _ _ hp6).mono ?_; rintro e w7 ⟨rfl, hp7, ho7⟩; have hb7 := hb6.trans (ho7.below hpg2 hb6.size)))
            go_meet
            obtain ⟨g1, g2, g3, g4⟩ := PS.torn_facts hs3.out 1
            exact ⟨_, hp7, g1.trans hs1.out, g2.trans hs2.out, g3, g4, hb7⟩
        case rest =>
          clear hp hbel hs1 hs2 hs3 hs4
          obtain ⟨s', hp, hs1, hs2, hs3, hs4, hbel⟩ := hcut
          obtain ⟨g1, g2, g3, g4, g5, g6⟩ := PS.step_facts hs3.out hs4.out
          have G3 := Lib.hid (g3.trans hs1.out)
          have G4 := Lib.hid (g4.trans (by rw [hs2.out]) : s'.next.done = i + 1)
          have G5 := Lib.hid g5
          have G6 := Lib.hid g6
          have hd5 : s'.done ≤ 1000000000000 := by have := hs2.out; omega
          clear g3 g4 g5 g6
          go_upto_region 16 with (go_at_call 23; refine (pow_step _ _ _ _ hp hd5).mono ?_; rintro e w5 ⟨rfl, hp5, ho5⟩)
          have hb5 := hbel.trans (ho5.below hpg2 hbel.size)
          clear hp hbel ho5 g1 g2
          generalize s'.next = s5 at *
          have hd6 : s5.done ≤ 1000000000000 := by have := G4.out; omega
          have hi5 := hi.below hb5
          have HF := Lib.hid (PS.failing_at G3.out G4.out)
          have HD := Lib.hid (show (s5.done : Int) = (i : Int) + 1 by have := G4.out; omega)
          go_upto_region 18 with fail
          go_loop [11, 12] (fun v11 v12 => ∃ k q, k ≤ l.length ∧ v12 = .int .i64 (k : Int) ∧ v11 = .bool q ∧ Hid (q = (l.take k).contains (i : Int))) (fun _ v12 => l.length - (intOf v12).toNat)
          case atStart => exact ⟨0, false, Nat.zero_le _, rfl, rfl, (by show _ = _; simp)⟩
          case round =>
            obtain ⟨k, q2, hk, rfl, rfl, hq2⟩ := hrel
            by_cases hlt2 : k < l.length
            · obtain ⟨b5, off5, rfl, hcell⟩ := hi5.at hlt2
              have HT := Lib.hid (take_snoc_contains l k hlt2 (i : Int))
              generalize l[k] = y at *
              cases q2 with
              | true =>
                go_wp2_with fail
                go_round
                case rel => exact ⟨k + 1, true, by omega, by go_num, rfl, (by show _ = _; rw [HT.out, ← hq2.out]; rfl)⟩
                case measure => simp [intOf]; omega
              | false =>
                go_wp2_with fail
                go_round
                case rel => exact ⟨k + 1, (y == (i : Int)), by omega, by go_num, rfl, (by show _ = _; rw [HT.out, ← hq2.out, Bool.false_or, Bool.eq_iff_iff]; simp; exact eq_comm)⟩
                case measure => simp [intOf]; omega
            · obtain rfl : k = l.length := by omega
              have HQ := Lib.hid (show s5.failing = q2 by rw [HF.out, hq2.out, List.take_length])
              clear hq2 HF
              have hqq : (q2 != q2) = false := by simp
              go_wp2_with (first
                | (go_at_call 25; refine (pow_fails _ _ _ _ hp5 hd6).mono ?_; rintro e w6 ⟨rfl, m6, rfl⟩; rw [HQ.out]; have hp6 := hp5.below (below_drewN (Below.refl _ _) m6))
                | (go_at_call 29; refine (pow_steps _ _ _ _ hp6).mono ?_; rintro e w' ⟨rfl, rfl⟩; rw [HD.out]))
              go_roundw
              case rel => exact ⟨i + 1, s5, by omega, by go_num, hp6, G3, G4, G5, G6, below_drewN hb5 m6⟩
              case measure => simp [intOf]; omega
    · go_wp2_with fail
      go_ret
      exact ⟨rfl, hbel⟩

end Go.Proofs.Ytdieeleaaejfhaa
