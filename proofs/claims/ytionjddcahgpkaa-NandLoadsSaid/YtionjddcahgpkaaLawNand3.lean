/- The walk of NandTorn. -/
import Derived.Test.YtionjddcahgpkaaLawNand2
set_option linter.unusedVariables false
set_option maxRecDepth 100000
set_option linter.unusedSimpArgs false
namespace Go.Proofs.Ytionjddcahgpkaa
open Go.RowKit

theorem byts_new (w : World) (l : List UInt8) (T : TypeId) (fr : Nat × Nat) : Byts (w.alloc (.cells (cellsB l).toArray T fr)) (some ⟨w.heap.size, 0, none⟩) l := by
  refine Or.inr ⟨w.heap.size, 0, rfl, fun i hi => ?_⟩
  rw [Nat.zero_add]
  exact new_cell w (cellsB l) T fr i _ (by unfold cellsB; rw [List.getElem?_map, List.getElem?_eq_getElem hi]; rfl)

theorem ints_one (w : World) (x : Int) : Ints (w.alloc (.cells #[.int .i64 x] 3)) (some ⟨w.heap.size, 0, none⟩) [x] := by
  refine Or.inr ⟨w.heap.size, 0, rfl, fun i hi => ?_⟩
  obtain rfl : i = 0 := by simp at hi; omega
  exact new_cell w [.int .i64 x] 3 (0, 0) 0 _ rfl

/-- How power stands ahead of the page: it is torn, or fails, or is well. -/
structure Way (s0 : PS) (mk : UInt8) (fl : List Int) (dn : Nat) : Prop where
  go : ¬ (s0.did = false ∧ s0.torn = false)
  nx : s0.next.on = ⟨-1, mk, false, fl, dn⟩
  dn : dn ≤ 1
  d0 : s0.done = 0
theorem way_torn (m : UInt8) : Way (PS.new.cut 0 m) m [] 0 := ⟨fun h => by have h2 : (PS.new.cut 0 m).torn = true := rfl; rw [h2] at h; exact absurd h.2 (by decide), rfl, by decide, rfl⟩
theorem way_fail : Way (PS.new.failOn [0]) 0 [0] 1 := ⟨by intro h; exact absurd h.1 (by decide), rfl, by decide, rfl⟩
theorem way_ok : Way PS.new 0 [] 1 := ⟨by intro h; exact absurd h.1 (by decide), rfl, by decide, rfl⟩

/-- What becomes of the chip, call by call. -/
theorem torn_steps {s0 : PS} {mk : UInt8} {fl : List Int} {dn : Nat} (h : Way s0 mk fl dn) (X S : List UInt8) (hX : X.length = 16) (hS : S.length = 16) :
    ∃ n1 n2 n3 : NSt, nProg smallG s0 (nNew smallG) 1 0 X S = (progR s0, n1, s0.next) ∧ n1.pg 1 0 = (X.map (turnB s0), S.map (turnB s0)) ∧
      nProg smallG s0.next.on n1 1 0 X S = (8, n1, s0.next.on) ∧
      nErase smallG (s0.next.on.failOn [(s0.next.on.done : Int)]) n1 1 = (7, n1, (s0.next.on.failOn [(s0.next.on.done : Int)]).next) ∧
      nProg smallG ((s0.next.on.failOn [(s0.next.on.done : Int)]).next.failOn []) n1 1 1 X S = (0, n2, ((s0.next.on.failOn [(s0.next.on.done : Int)]).next.failOn []).next) ∧
      nErase smallG ((s0.next.on.failOn [(s0.next.on.done : Int)]).next.failOn []).next n2 1 = (0, n3, ((s0.next.on.failOn [(s0.next.on.done : Int)]).next.failOn []).next.next) ∧
      n3.nx 1 = 0 ∧ n3.er 1 = 1 := by
  have ok0 : nOk smallG 1 0 := by unfold nOk smallG; decide
  have ok1 : nOk smallG 1 1 := by unfold nOk smallG; decide
  have hsz : ¬ ((X.length : Int) ≠ smallG.e ∨ S.length ≠ 16) := by rw [hX, hS]; decide
  have a1 : ∀ (fl : List Int) (k : Nat), PS.did ⟨-1, mk, false, fl, k⟩ = true := fun _ _ => rfl
  have a2 : ∀ (fl : List Int) (k : Nat), PS.torn ⟨-1, mk, false, fl, k⟩ = false := fun _ _ => rfl
  have a3 : ∀ (fl : List Int) (k : Nat), PS.next ⟨-1, mk, false, fl, k⟩ = ⟨-1, mk, false, fl, k + 1⟩ := fun _ _ => rfl
  have a4 : ∀ (fl gl : List Int) (k : Nat), PS.failOn ⟨-1, mk, false, fl, k⟩ gl = ⟨-1, mk, false, gl, k⟩ := fun _ _ _ => rfl
  have a5 : ∀ k : Nat, PS.failing ⟨-1, mk, false, [(k : Int)], k + 1⟩ = true := fun k => by simp [PS.failing]
  have a6 : ∀ k : Nat, PS.failing ⟨-1, mk, false, [], k⟩ = false := fun k => by simp [PS.failing]
  obtain ⟨n1, hn1⟩ : ∃ n1 : NSt, n1 = ⟨upP (nNew smallG).pg 1 0 (X.map (turnB s0), S.map (turnB s0)), up1 (nNew smallG).nx 1 (0 + 1), (nNew smallG).er⟩ := ⟨_, rfl⟩
  have hx1 : n1.nx 1 = 1 := by rw [hn1]; show up1 (nNew smallG).nx 1 (0 + 1) 1 = 1; rw [up1_same]; rfl
  have he1 : n1.er 1 = 0 := by rw [hn1]; rfl
  obtain ⟨n2, hn2⟩ : ∃ n2 : NSt, n2 = ⟨upP n1.pg 1 1 (X.map (turnB ⟨-1, mk, false, [], dn + 1⟩), S.map (turnB ⟨-1, mk, false, [], dn + 1⟩)), up1 n1.nx 1 (1 + 1), n1.er⟩ := ⟨_, rfl⟩
  have he2 : n2.er 1 = 0 := by rw [hn2]; exact he1
  obtain ⟨n3, hn3⟩ : ∃ n3 : NSt, n3 = ⟨fun x y => if x = 1 then blankP smallG else n2.pg x y, up1 n2.nx 1 0, up1 n2.er 1 (n2.er 1 + 1)⟩ := ⟨_, rfl⟩
  have dz : ((⟨-1, mk, false, fl, dn⟩ : PS).done : Int) = (dn : Int) := rfl
  refine ⟨n1, n2, n3, ?_, ?_, ?_, ?_, ?_, ?_, ?_, ?_⟩
  · unfold nProg
    rw [if_pos ok0, if_neg hsz, if_neg (by show ¬ ((0 : Int) ≠ 0); decide), if_neg h.go, hn1]
  · rw [hn1]
    show upP (nNew smallG).pg 1 0 (X.map (turnB s0), S.map (turnB s0)) 1 0 = _
    exact upP_same _ _ _ _
  · rw [h.nx]
    unfold nProg
    rw [if_pos ok0, if_neg hsz, if_pos (by rw [hx1]; decide)]
  · rw [h.nx, dz, a4, a3]
    unfold nErase
    rw [if_pos ok0, a2, if_neg (by decide), a1, if_neg (by decide), a3, if_pos (a5 dn)]
  · rw [h.nx, dz, a4, a3, a4, a3]
    unfold nProg
    rw [if_pos ok1, if_neg hsz, if_neg (by rw [hx1]; decide), if_neg (by rw [a1]; exact fun h => absurd h.1 (by decide)), a3]
    unfold progR
    rw [if_neg (by rw [a2]; decide), a3, if_neg (by rw [a6]; decide), hn2]
  · rw [h.nx, dz, a4, a3, a4, a3, a3]
    unfold nErase
    rw [if_pos ok0, if_neg (by rw [a2]; decide), if_neg (by rw [a1]; decide), a3, if_neg (by rw [a6]; decide), hn3]
  · rw [hn3]
    show up1 n2.nx 1 0 1 = 0
    exact up1_same _ _ _
  · rw [hn3]
    show up1 n2.er 1 (n2.er 1 + 1) 1 = 1
    rw [up1_same, he2]
    rfl

set_option maxHeartbeats 8000000 in
theorem nandTorn_walk {w : World} (A : Option Addr) (c : Nat) (l : List UInt8) (hcap : l.length ≤ c ∧ c ≤ maxLen) (hb : Byts w A l) (hl : l.length ≤ 140737488351232) (mk : Int) (wm : (Lit.int .u8 mk).wf = true) (wh : Int) (ww : (Lit.int .i64 wh).wf = true) :
    Calls Try.prog 4 #[.slice A l.length c, .int .u8 mk, .int .i64 wh] w fun e w' => e = .returned (.bool true) ∧ Below w.heap.size w w' := by
  obtain ⟨w0, rfl⟩ : ∃ w0 : World, w0 = w := ⟨_, rfl⟩
  have hs0 := Nat.le_refl w0.heap.size
  obtain ⟨mk, rfl⟩ := byte_of (wf_u8 wm)
  have bw := wf_i64 ww
  clear wm ww
  have HB0 := Lib.hid hb
  obtain ⟨n, hn⟩ : ∃ n, l.length = n := ⟨_, rfl⟩
  rw [hn] at hcap hl ⊢
  have HN := Lib.hid hn
  clear hn hb
  have HX : Hid (Byts w0 A l ∧ n = l.length) := ⟨HB0.out, HN.out.symm⟩
  obtain ⟨X, hX⟩ : ∃ X, fitL l 16 = X := ⟨_, rfl⟩
  obtain ⟨S, hS⟩ : ∃ S, fitL [1, 2, 3] 16 = S := ⟨_, rfl⟩
  have hX16 : X.length = 16 := by rw [← hX, fitL_length]
  have hS16 : S.length = 16 := by rw [← hS, fitL_length]
  have HF := Lib.hid (And.intro hX hS)
  have HL := Lib.hid (And.intro hX16 hS16)
  clear hX hS hX16 hS16
  go_enter Try.func4, Try.ntmps4
  go_upto_region 2 with (go_at_call 17; refine (law_small _).mono ?_; rintro e w1 ⟨rfl, hb1⟩; rw [show smallG.val = .agg #[.int .i64 2, .int .i64 256, .int .i64 4, .int .i64 2, .int .i64 16] from rfl])
  have hk := Blk.new w1 [.int .i64 2, .int .i64 256, .int .i64 4, .int .i64 2, .int .i64 16] 23
  have hb2 := hb1.trans ((below_alloc w1 (.cells [.int .i64 2, .int .i64 256, .int .i64 4, .int .i64 2, .int .i64 16].toArray 23 (0, 0))).mono hb1.size)
  clear hb1
  obtain ⟨q7, hq7⟩ : ∃ q, w1.heap.size = q := ⟨_, rfl⟩
  rw [hq7] at hk ⊢
  generalize w1.alloc (.cells [.int .i64 2, .int .i64 256, .int .i64 4, .int .i64 2, .int .i64 16].toArray 23 (0, 0)) = w2 at *
  clear hq7
  go_upto_region 3 with (go_at_call 9; refine (pow_new _).mono ?_; rintro e w3 ⟨v, rfl, pb, rfl, hpb, hpbl, hp3, hb3⟩)
  have hk3 := hk.below hb3
  have hb30 := hb2.trans (hb3.mono hb2.size)
  have hpb0 : w0.heap.size ≤ pb := Nat.le_trans hb2.size hpb
  have c0 := hk3.cell 0 _ rfl
  have c1 := hk3.cell 1 _ rfl
  have c2 := hk3.cell 2 _ rfl
  have c3 := hk3.cell 3 _ rfl
  have c4 := hk3.cell 4 _ rfl
  clear hk hb3 hb2
  go_upto_region 4 with (go_at_call 8; refine (nand_new smallG (some ⟨pb, 0, none⟩) _ smallG_ok).mono ?_; rintro e w4 ⟨cb, m1, m2, m3, rfl, hlt4, hc4, hb4⟩)
  have hk4 := hk3.below hb4
  have hb40 := hb30.trans (hb4.mono hb30.size)
  have hT0 : CtxT w0 w4.heap.size cb m1 m2 m3 pb smallG 0 (nNew smallG) [pb] PS.new [] w4 := by
    refine ⟨hc4 _ (fun x hx => (hlt4 x hx).2) (Nat.le_refl _), hp3.below hb4, fun x hx hm => ?_, Nat.lt_of_lt_of_le hpbl hb4.size, fun x hx => ?_, (fun e he => by simp at he), hb40⟩
    · simp at hx
      subst hx
      have := (hlt4 x hm).1
      omega
    · have e1 := hlt4 m1 (by simp)
      have e2 := hlt4 m2 (by simp)
      have e3 := hlt4 m3 (by simp)
      have := hb30.size
      simp at hx
      omega
  clear c0 c1 c2 c3 c4 hc4 hlt4 hp3 hk3 hb4 hb30 hb40
  obtain ⟨L, hL⟩ : ∃ L, w4.heap.size = L := ⟨_, rfl⟩
  rw [hL] at hT0
  have HT4 := Lib.hid hT0
  have HLE : Hid (L = w4.heap.size) := hL.symm
  clear hL hpb hpbl hpb0
  go_upto_region 6 with (go_at_call 10; refine (awake05 _).mono ?_; rintro e w5 ⟨rfl, hx⟩; have hT := hT0.below hx; have hk5 := hk4.below hx)
  have c4 := hk5.cell 4 _ rfl
  have hbl : Byts w5 A l := HX.out.1.below hT.bel
  have HBL := Lib.hid hbl
  have ho45 : Only [pb] w4 w5 := Only.of_below hx _
  clear hT0 hk4 hx hbl
  have HF1 : Hid (Calls Try.prog 11 #[.slice A n c, .int .i64 16] w5 (Ret fun v w' => ∃ q, v = .slice (some ⟨q, 0, none⟩) 16 16 ∧ w5.heap.size ≤ q ∧ Own w' w5.heap.size v X ∧ Below w5.heap.size w5 w')) := by
    show Calls _ _ _ _ _
    rw [← HF.out.1]
    exact law_fit A n c l 16 w5 HBL.out HX.out.2 (by omega)
  have HF2 : Hid (∀ W : World, Calls Try.prog 11 #[.slice (some ⟨W.heap.size, 0, none⟩) 3 3, .int .i64 16] (W.alloc (.cells #[.int .u8 1, .int .u8 2, .int .u8 3] 5)) (Ret fun v w' => ∃ q, v = .slice (some ⟨q, 0, none⟩) 16 16 ∧ W.heap.size ≤ q ∧ Own w' W.heap.size v S ∧ Below W.heap.size W w')) := fun W => by
    have hba := below_alloc W (.cells #[.int .u8 1, .int .u8 2, .int .u8 3] 5)
    have h := law_fit (some ⟨W.heap.size, 0, none⟩) 3 3 [1, 2, 3] 16 (W.alloc (.cells #[.int .u8 1, .int .u8 2, .int .u8 3] 5)) (byts_new W [1, 2, 3] 5 (0, 0)) rfl (by omega)
    rw [HF.out.2] at h
    refine h.mono ?_
    rintro e w' ⟨v, rfl, q, hv, hq, ho, hx⟩
    exact Ret.mk ⟨q, hv, Nat.le_trans hba.size hq, ho.mono hba.size, hba.trans (hx.mono hba.size)⟩
  go_upto_region 7 with (first
    | (go_at_call 11; (with_reducible refine HF1.out.mono ?_); rintro e w6 ⟨v, rfl, qx, rfl, hqx, hownx, hx⟩)
    | (go_at_call 11; refine (HF2.out _).mono ?_; rintro e w7 ⟨v, rfl, qs, rfl, hqs, howns, hx'⟩))
  have hLx := hT.c.le
  have HO47 := Lib.hid ((ho45.trans (Only.of_below hx _)).trans (Only.of_below hx' _))
  have hqx7 : L ≤ qx ∧ qx < w7.heap.size := ⟨Nat.le_trans hLx hqx, (hownx.below hx').lt rfl |>.2⟩
  have hqs7 : L ≤ qs ∧ qs < w7.heap.size := ⟨Nat.le_trans (Nat.le_trans hLx hx.size) hqs, (howns.lt rfl).2⟩
  have hys := howns.read
  have hT7 := (hT.below hx).below hx'
  have hyx := hownx.read.below hx'
  have hs7 := Nat.le_refl w7.heap.size
  have hnil := Own.nil w7 w7.heap.size
  have hL7 := hT7.c.le
  have hlw : Hid (([] : List UInt8).length + X.length ≤ 140737488355328) := by show _ ≤ _; rw [HL.out.1]; decide
  clear hT hownx howns hx hx' hk5 c4 HF1 HF2 HBL hqx hqs
  go_upto_region 8 with (at_builtin; refine wpList_wanted (by rfl) fun K hK => wp_append_byts _ _ rfl rfl rfl hnil hyx HL.out.1.symm hlw.out hs7 ?_; intro v8 w8 hown8 hg8 hz8; refine hK _ _ ?_; clear hK K)
  rw [List.nil_append] at hown8
  have hx8 : Below w7.heap.size w7 w8 := (Below.refl _ _).grown hg8 hs7 (fun k e => (hnil.lt e).1)
  have hT8 := hT7.below hx8
  have hyx8 := hyx.below hx8
  have hys8 := hys.below hx8
  obtain ⟨qw, cw, rfl, hcw, hqw, hqwl, -, -⟩ := hown8.form (by rw [HL.out.1]; decide)
  rw [HL.out.1] at hcw hown8 ⊢
  have hown8L := hown8.mono hL7
  have hp8 := hT8.p
  have hpL := hT8.l
  have ho48 : Only [pb] w4 w8 := HO47.out.trans (Only.of_below hx8 _)
  clear hT7 hT8 hx8 hg8 hz8 hnil hown8 hyx hys hlw hs7
  obtain ⟨u, hu⟩ : ∃ u : Nat, IntKind.u64.wrap wh = (u : Int) := by
    have e : IntKind.u64.wrap wh = wh % 18446744073709551616 := by simp [IntKind.wrap, IntKind.bits, IntKind.signed]
    exact ⟨(wh % 18446744073709551616).toNat, by rw [e]; omega⟩
  go_upto_block 0 with fail
  have hqn : qw ≠ pb ∧ qw ≠ qx ∧ qw ≠ qs ∧ L ≤ qw := by omega
  go_cut [13, 14, 56] (fun v13 v14 _ w' => v13 = .slice (some ⟨qw, 0, none⟩) 16 cw ∧ ∃ s0 mk' fl dn FP, Way s0 mk' fl dn ∧ v14 = .int .i64 (progR s0) ∧ Pow w' pb FP s0 ∧ (∀ x ∈ FP, x ∉ [cb, m1, m2, m3]) ∧ Byts w' (some ⟨qx, 0, none⟩) X ∧ Byts w' (some ⟨qs, 0, none⟩) S ∧ Own w' L (.slice (some ⟨qw, 0, none⟩) 16 cw) (X.map (turnB s0)) ∧ Only [pb] w4 w')
  case first =>
    have h3 : u % 3 = 0 ∨ u % 3 = 1 ∨ u % 3 = 2 := by omega
    rcases h3 with h3 | h3 | h3
    · have e1 : (u : Int) % 3 = 0 := by omega
      have e2 : Int.tmod (u : Int) 3 = 0 := by rw [Int.tmod_eq_emod_of_nonneg (by omega)]; exact e1
      obtain ⟨FP, hFP⟩ : ∃ FP, FP = [pb] := ⟨_, rfl⟩
      rw [← hFP] at hp8
      have hFq : ∀ x ∈ FP, x ≠ qw := fun x hx => by rw [hFP] at hx; simp at hx; omega
      have hFF : ∀ x ∈ FP, x ∉ [cb, m1, m2, m3] := by rw [hFP]; exact HT4.out.f
      go_upto_region 14 with (go_at_call 18; refine (pow_cut pb FP _ 0 mk _ hp8 (by decide)).mono ?_; rintro e w9 ⟨rfl, hp9, ho9⟩)
      have hown9 := hown8L.only ho9 (fun x e hm => by cases e; simp at hm; omega)
      have hyx9 := hyx8.only ho9 (fun x e _ hm => by cases e; simp at hm; omega)
      have hys9 := hys8.only ho9 (fun x e _ hm => by cases e; simp at hm; omega)
      have ho49 := ho48.trans ho9
      clear hp8 hown8L hyx8 hys8 ho48 ho9 hFP
      go_loopw [64] (fun v wr => ∃ j : Nat, j ≤ 16 ∧ v = .int .i64 (j : Int) ∧ Own wr L (.slice (some ⟨qw, 0, none⟩) 16 cw) (mapTo (fun x => x ||| mk) X j) ∧ Pow wr pb FP (PS.new.cut 0 mk) ∧ Byts wr (some ⟨qx, 0, none⟩) X ∧ Byts wr (some ⟨qs, 0, none⟩) S ∧ Only [pb] w4 wr) (fun v _ => 16 - (intOf v).toNat)
      case atStart => exact ⟨0, by decide, rfl, by rw [mapTo_zero]; exact hown9, hp9, hyx9, hys9, ho49⟩
      case round =>
        clear hown9 hp9 hyx9 hys9 ho49
        obtain ⟨j, hj, rfl, hown, hp, hyx, hys, ho⟩ := hrel
        by_cases hlt : j < 16
        · have hjl : j < X.length := by rw [HL.out.1]; exact hlt
          have hltI : (j : Int) < 16 := by omega
          have hjm : j < (mapTo (fun x => x ||| mk) X j).length := by rw [mapTo_length]; exact hjl
          have hcl := hown.cell (i := j) hjm
          rw [mapTo_at _ _ _ hjl] at hcl
          have hfr := hown.frz j
          have hset := hown.set j ((fun x => x ||| mk) X[j])
          rw [mapTo_set _ _ _ hjl] at hset
          have hoq : Only [qw] wr (wr.setCell ⟨qw, j, none⟩ (.int .u8 (((fun x => x ||| mk) X[j]).toNat : Int))) := (Only.refl [qw] wr).setCell (Or.inl (by simp)) _
          have HS := Lib.hid (And.intro hset (And.intro (hp.only hoq (fun x hx hm => hFq x hx (by simpa using hm))) (And.intro (hyx.only hoq (fun x e _ hm => by cases e; simp at hm; omega)) (And.intro (hys.only hoq (fun x e _ hm => by cases e; simp at hm; omega)) (ho.trans' hoq (fun x hx => Or.inr (by simp at hx; have := HLE.out; omega)))))))
          have hor := or_u8 X[j] mk
          clear hset hown hp hyx hys hoq
          generalize X[j] = x at *
          go_wp2_with fail
          go_roundw
          case rel => exact ⟨j + 1, by omega, by go_num, HS.out.1, HS.out.2.1, HS.out.2.2.1, HS.out.2.2.2.1, HS.out.2.2.2.2⟩
          case measure => simp [intOf]; omega
        · obtain rfl : j = 16 := by omega
          have hfin : mapTo (fun x => x ||| mk) X 16 = X.map (fun x => x ||| mk) := by rw [← HL.out.1]; exact mapTo_all _ _
          rw [hfin] at hown
          go_wp2_with fail
          go_meet
          exact ⟨rfl, PS.new.cut 0 mk, mk, [], 0, FP, way_torn mk, (by show Value.int .i64 6 = Value.int .i64 (progR (PS.new.cut 0 mk)); rfl), hp, hFF, hyx, hys, by rw [turnB_torn (show (PS.new.cut 0 mk).torn = true from rfl)]; exact hown, ho⟩
    · have e1 : (u : Int) % 3 = 1 := by omega
      have e2 : Int.tmod (u : Int) 3 = 1 := by rw [Int.tmod_eq_emod_of_nonneg (by omega)]; exact e1
      have hba := below_alloc w8 (.cells #[.int .i64 0] 3)
      have hin := ints_one w8 0
      have HFL := Lib.hid (pow_fail pb [pb] PS.new (some ⟨w8.heap.size, 0, none⟩) 1 [0] (w8.alloc (.cells #[.int .i64 0] 3)) (hp8.below hba) hin (by decide) (fun x e _ => by cases e; show w8.heap.size ≠ pb; omega) (by decide))
      have hz8 : w8.heap.size < (w8.alloc (.cells #[.int .i64 0] 3)).heap.size := by simp
      clear hin
      go_upto_region 20 with (go_at_call 19; refine HFL.out.mono ?_; rintro e w9 ⟨rfl, ⟨mb, hmb, hp9⟩, ho9⟩)
      have hoA : Only [pb] w8 w9 := (Only.of_below hba _).trans ho9
      obtain ⟨FP, hFP⟩ : ∃ FP, FP = [pb, mb] := ⟨_, rfl⟩
      rw [← hFP] at hp9
      have hFq : ∀ x ∈ FP, x ≠ qw := fun x hx => by rw [hFP] at hx; simp at hx; omega
      have hFF : ∀ x ∈ FP, x ∉ [cb, m1, m2, m3] := fun x hx hm => by
        rw [hFP] at hx
        simp only [List.mem_cons, List.not_mem_nil, or_false] at hx
        rcases hx with rfl | rfl
        · exact HT4.out.f _ (by simp) hm
        · have h1 := HT4.out.c.lt _ hm
          have h2 := ho48.size
          omega
      have hown9 := hown8L.only hoA (fun x e hm => by cases e; simp at hm; omega)
      have hyx9 := hyx8.only hoA (fun x e _ hm => by cases e; simp at hm; omega)
      have hys9 := hys8.only hoA (fun x e _ hm => by cases e; simp at hm; omega)
      have ho49 := ho48.trans hoA
      clear hp8 hown8L hyx8 hys8 ho48 ho9 hoA hFP hba hmb HFL
      go_upto_region 22 with fail
      go_loopw [82] (fun v wr => ∃ j : Nat, j ≤ 16 ∧ v = .int .i64 (j : Int) ∧ Own wr L (.slice (some ⟨qw, 0, none⟩) 16 cw) (mapTo (fun x => x &&& 170) X j) ∧ Pow wr pb FP (PS.new.failOn [0]) ∧ Byts wr (some ⟨qx, 0, none⟩) X ∧ Byts wr (some ⟨qs, 0, none⟩) S ∧ Only [pb] w4 wr) (fun v _ => 16 - (intOf v).toNat)
      case atStart => exact ⟨0, by decide, rfl, by rw [mapTo_zero]; exact hown9, hp9, hyx9, hys9, ho49⟩
      case round =>
        clear hown9 hp9 hyx9 hys9 ho49
        obtain ⟨j, hj, rfl, hown, hp, hyx, hys, ho⟩ := hrel
        by_cases hlt : j < 16
        · have hjl : j < X.length := by rw [HL.out.1]; exact hlt
          have hltI : (j : Int) < 16 := by omega
          have hjm : j < (mapTo (fun x => x &&& 170) X j).length := by rw [mapTo_length]; exact hjl
          have hcl := hown.cell (i := j) hjm
          rw [mapTo_at _ _ _ hjl] at hcl
          have hfr := hown.frz j
          have hset := hown.set j ((fun x => x &&& 170) X[j])
          rw [mapTo_set _ _ _ hjl] at hset
          have hoq : Only [qw] wr (wr.setCell ⟨qw, j, none⟩ (.int .u8 (((fun x => x &&& 170) X[j]).toNat : Int))) := (Only.refl [qw] wr).setCell (Or.inl (by simp)) _
          have HS := Lib.hid (And.intro hset (And.intro (hp.only hoq (fun x hx hm => hFq x hx (by simpa using hm))) (And.intro (hyx.only hoq (fun x e _ hm => by cases e; simp at hm; omega)) (And.intro (hys.only hoq (fun x e _ hm => by cases e; simp at hm; omega)) (ho.trans' hoq (fun x hx => Or.inr (by simp at hx; have := HLE.out; omega)))))))
          have hor : bits .and .u8 (X[j].toNat : Int) 170 = ((X[j] &&& 170).toNat : Int) := and_u8 X[j] 170
          clear hset hown hp hyx hys hoq
          generalize X[j] = x at *
          go_wp2_with fail
          go_roundw
          case rel => exact ⟨j + 1, by omega, by go_num, HS.out.1, HS.out.2.1, HS.out.2.2.1, HS.out.2.2.2.1, HS.out.2.2.2.2⟩
          case measure => simp [intOf]; omega
        · obtain rfl : j = 16 := by omega
          have hfin : mapTo (fun x => x &&& 170) X 16 = X.map (fun x => x &&& 170) := by rw [← HL.out.1]; exact mapTo_all _ _
          rw [hfin] at hown
          go_wp2_with fail
          go_meet
          exact ⟨rfl, PS.new.failOn [0], 0, [0], 1, FP, way_fail, (by show Value.int .i64 7 = Value.int .i64 (progR (PS.new.failOn [0])); rfl), hp, hFF, hyx, hys, by rw [turnB_fail (show (PS.new.failOn [0]).torn = false from rfl) (show (PS.new.failOn [0]).next.failing = true from rfl)]; exact hown, ho⟩
    · have e1 : (u : Int) % 3 = 2 := by omega
      have e2 : Int.tmod (u : Int) 3 = 2 := by rw [Int.tmod_eq_emod_of_nonneg (by omega)]; exact e1
      have htb : X.map (turnB PS.new) = X := by
        rw [turnB_ok (show PS.new.torn = false from rfl) (show PS.new.next.failing = false from rfl)]
        exact List.map_id' _
      go_wp2_with fail
      go_meet
      exact ⟨rfl, PS.new, 0, [], 1, [pb], way_ok, (by show Value.int .i64 0 = Value.int .i64 (progR PS.new); rfl), hp8, HT4.out.f, hyx8, hys8, by rw [htb]; exact hown8L, ho48⟩
  case rest =>
    clear hp8 hown8L hyx8 hys8 ho48
    obtain ⟨rfl, s0, mk', fl, dn, FP, hway, rfl, hp, hFF, hyx, hys, hown, ho⟩ := hcut
    obtain ⟨w9, rfl⟩ : ∃ w, w = wc := ⟨_, rfl⟩
    obtain ⟨n1, n2, n3, E1, P1, E2, E3, E4, E5, X1, X2⟩ := torn_steps hway X S HL.out.1 HL.out.2
    obtain ⟨W, hW⟩ : ∃ W, X.map (turnB s0) = W := ⟨_, rfl⟩
    have hWl : W.length = 16 := by rw [← hW, List.length_map]; exact HL.out.1
    have HW := Lib.hid hWl
    rw [hW] at hown
    have hT := (((HT4.out.onlyP ho hp hFF).row hys (fun x e => by cases e; exact hqs7.1)).row hyx (fun x e => by cases e; exact hqx7.1)).row hown.read (fun x e => by cases e; exact hqn.2.2.2)
    have hok0 : nOk smallG 1 0 := by unfold nOk smallG; decide
    have ha0 : nAsk smallG 1 0 = 0 := nAsk_pos hok0
    have hrd : nRead smallG n1 1 0 = (W, S.map (turnB s0)) := by unfold nRead; rw [if_pos hok0, P1, hW]
    have hr1 : (nRead smallG n1 1 0).1.length = 16 := by rw [hrd]; exact hWl
    have hr2 : (nRead smallG n1 1 0).2.length = 16 := by rw [hrd]; show (S.map (turnB s0)).length = 16; rw [List.length_map]; exact HL.out.2
    have HR := Lib.hid (And.intro hr1 (And.intro hr2 (And.intro hrd ha0)))
    have HE := Lib.hid (And.intro E1 (And.intro E2 (And.intro E3 (And.intro E4 E5))))
    have HXX := Lib.hid (And.intro X1 X2)
    have hd1 : s0.done ≤ 900000000000 := by rw [hway.d0]; decide
    have hdn : s0.next.on.done ≤ 1 := by rw [hway.nx]; exact hway.dn
    obtain ⟨s1, hs1⟩ : ∃ s1, s0.next.on = s1 := ⟨_, rfl⟩
    rw [hs1] at HE hdn
    obtain ⟨s2, hs2⟩ : ∃ s2, s1.failOn [(s1.done : Int)] = s2 := ⟨_, rfl⟩
    rw [hs2] at HE
    have hd2 : s2.done ≤ 1 := by rw [← hs2]; exact hdn
    have hd3 := s2.next_done_le
    obtain ⟨s3, hs3⟩ : ∃ s3, s2.next.failOn [] = s3 := ⟨_, rfl⟩
    rw [hs3] at HE
    have hd4 : s3.done ≤ 2 := by rw [← hs3]; show s2.next.done ≤ 2; omega
    have hd5 := s3.next_done_le
    have HS1 := Lib.hid hs1
    have HS2 := Lib.hid hs2
    have HS3 := Lib.hid hs3
    have wf1 : (-9223372036854775808 : Int) ≤ 1 ∧ (1 : Int) ≤ 9223372036854775807 := by decide
    have wf0 : (-9223372036854775808 : Int) ≤ 0 ∧ (0 : Int) ≤ 9223372036854775807 := by decide
    have HP1 := Lib.hid (ct_program hT (by decide) 1 0 wf1 wf0 (some ⟨qx, 0, none⟩) 16 16 X (by simp) HL.out.1 (by decide) (some ⟨qs, 0, none⟩) 16 16 S (by simp) HL.out.2 (by decide) hd1 HE.out.1)
    clear E1 E2 E3 E4 E5 P1 X1 X2 hway hW hWl hr1 hr2 hrd ha0 hok0 hs1 hs2 hs3 hT hp hFF hyx hys hown ho
    go_upto_region 27 with (go_at_call 12; refine HP1.out.mono ?_; rintro e w10 ⟨rfl, hT, -⟩)
    go_upto_region 28 with (go_at_call 20; refine (ct_on hT).mono ?_; rintro e w11 ⟨rfl, hT2, -⟩)
    rw [HS1.out] at hT2
    clear hT HP1
    have HRD := Lib.hid (ct_read hT2 1 0 HR.out.1 HR.out.2.1)
    rw [HR.out.2.2.2] at HRD
    go_upto_region 29 with (go_at_call 15; refine HRD.out.mono ?_; rintro e w12 ⟨A1, c1, A2, c2, rfl, -, hT, -⟩)
    rw [HR.out.2.2.1] at hT
    clear hT2 HRD
    have HP2 := Lib.hid (ct_program hT (by decide) 1 0 wf1 wf0 (some ⟨qx, 0, none⟩) 16 16 X (by simp) HL.out.1 (by decide) (some ⟨qs, 0, none⟩) 16 16 S (by simp) HL.out.2 (by decide) (by omega) HE.out.2.1)
    go_upto_region 30 with (go_at_call 12; refine HP2.out.mono ?_; rintro e w13 ⟨rfl, hT2, -⟩)
    clear hT HP2
    have hTa := hT2.below (below_alloc w13 (.cells #[.int .i64 (s1.done : Int)] 3))
    have HFA := Lib.hid (ct_fail hTa (some ⟨w13.heap.size, 0, none⟩) 1 [(s1.done : Int)] (ints_one w13 (s1.done : Int)) (fun x hx => by simp at hx; subst hx; exact wfOf (by omega)) (fun x e _ => by cases e; exact hT2.c.le) (by show 1 ≤ _; decide))
    rw [HS2.out] at HFA
    go_upto_region 31 with (first
      | (go_at_call 21; refine (pow_steps _ _ _ _ hT2.p).mono ?_; rintro e w' ⟨rfl, rfl⟩)
      | (go_at_call 19; refine HFA.out.mono ?_; rintro e w14 ⟨rfl, ⟨FP2, hT⟩, -⟩))
    clear hT2 hTa HFA
    have HER := Lib.hid (ct_erase hT (by decide) 1 wf1 (by omega) HE.out.2.2.1)
    go_upto_region 32 with (go_at_call 13; refine HER.out.mono ?_; rintro e w15 ⟨rfl, hT2, -⟩)
    clear hT HER
    have HRD := Lib.hid (ct_read hT2 1 0 HR.out.1 HR.out.2.1)
    rw [HR.out.2.2.2] at HRD
    go_upto_region 33 with (go_at_call 15; refine HRD.out.mono ?_; rintro e w16 ⟨A3, c3, A4, c4, rfl, -, hT, -⟩)
    rw [HR.out.2.2.1] at hT
    clear hT2 HRD
    have HFB := Lib.hid (ct_fail hT none 0 [] (Or.inl rfl) (fun x hx => by simp at hx) (fun x e => by cases e) (by decide))
    rw [HS3.out] at HFB
    go_upto_region 34 with (go_at_call 19; refine HFB.out.mono ?_; rintro e w17 ⟨rfl, ⟨FP3, hT2⟩, -⟩)
    clear hT HFB
    have HP3 := Lib.hid (ct_program hT2 (by decide) 1 1 wf1 wf1 (some ⟨qx, 0, none⟩) 16 16 X (by simp) HL.out.1 (by decide) (some ⟨qs, 0, none⟩) 16 16 S (by simp) HL.out.2 (by decide) (by omega) HE.out.2.2.2.1)
    go_upto_region 35 with (go_at_call 12; refine HP3.out.mono ?_; rintro e w18 ⟨rfl, hT, -⟩)
    clear hT2 HP3
    have HER := Lib.hid (ct_erase hT (by decide) 1 wf1 (by omega) HE.out.2.2.2.2)
    go_upto_region 36 with (go_at_call 13; refine HER.out.mono ?_; rintro e w19 ⟨rfl, hT2, -⟩)
    clear hT HER
    have y1 : Byts w19 A1 W := (hT2.rows (A1, W) (by simp)).1
    have y3 : Byts w19 A3 W := (hT2.rows (A3, W) (by simp)).1
    have yw : Byts w19 (some ⟨qw, 0, none⟩) W := (hT2.rows (some ⟨qw, 0, none⟩, W) (by simp)).1
    have HPR := Lib.hid (nand_programmed hT2.c 1 wf1)
    have HEA := Lib.hid (nand_erases hT2.c 1 wf1)
    rw [HXX.out.1] at HPR
    rw [HXX.out.2] at HEA
    have hbe := hT2.bel
    have hpp : ((progR s0) == (progR s0)) = true := by simp
    clear hT2
    go_wp2_with (first
      | (go_at_call 16; (with_reducible refine (help_bytes A1 16 c1 W (some ⟨qw, 0, none⟩) 16 cw W _ y1 HW.out.symm yw HW.out.symm).mono ?_); rintro e w' ⟨rfl, rfl⟩; (try rw [beq_self_eq_true]))
      | (go_at_call 16; (with_reducible refine (help_bytes A3 16 c3 W (some ⟨qw, 0, none⟩) 16 cw W _ y3 HW.out.symm yw HW.out.symm).mono ?_); rintro e w' ⟨rfl, rfl⟩; (try rw [beq_self_eq_true]))
      | (go_at_call 14; refine HPR.out.mono ?_; rintro e w' ⟨rfl, rfl⟩)
      | (go_at_call 22; refine HEA.out.mono ?_; rintro e w' ⟨rfl, rfl⟩))
    go_ret
    exact ⟨rfl, hbe⟩
end Go.Proofs.Ytionjddcahgpkaa
