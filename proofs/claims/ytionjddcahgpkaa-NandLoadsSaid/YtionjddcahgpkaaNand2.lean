/- A new chip of pages; programming a page. -/
import Derived.Test.YtionjddcahgpkaaNand
import Derived.Test.YtionjddcahgpkaaRight
import Derived.Deep.AppendLies
set_option linter.unusedVariables false
set_option maxRecDepth 100000
set_option linter.unusedSimpArgs false
namespace Go.Proofs.Ytionjddcahgpkaa
open Go.RowKit
open Go.Maps (Keyed)

theorem nand_made (w : World) (g : Geo) (pp : Option Addr) (hok : g.ok) (L : Nat) (hL : w.heap.size + 1 + 1 + 1 < L) (hL2 : L ≤ ((((w.alloc (.map #[] 0)).alloc (.map #[] 0)).alloc (.map #[] 0)).alloc (.cells #[.int .i64 g.a, .int .i64 g.b, .int .i64 g.c, .int .i64 g.d, .int .i64 g.e, .pointer pp, .map (some w.heap.size), .map (some (w.heap.size + 1)), .map (some (w.heap.size + 1 + 1))] 71)).heap.size) :
    NandC ((((w.alloc (.map #[] 0)).alloc (.map #[] 0)).alloc (.map #[] 0)).alloc (.cells #[.int .i64 g.a, .int .i64 g.b, .int .i64 g.c, .int .i64 g.d, .int .i64 g.e, .pointer pp, .map (some w.heap.size), .map (some (w.heap.size + 1)), .map (some (w.heap.size + 1 + 1))] 71)) L (w.heap.size + 1 + 1 + 1) w.heap.size (w.heap.size + 1) (w.heap.size + 1 + 1) pp g 0 (nNew g) := by
  have h1 := MapIs.made w Try.prog 84
  have h2 := MapIs.made (w.alloc (.map #[] 0)) Try.prog 84
  have h3 := MapIs.made ((w.alloc (.map #[] 0)).alloc (.map #[] 0)) Try.prog 84
  have hk := Blk.new (((w.alloc (.map #[] 0)).alloc (.map #[] 0)).alloc (.map #[] 0)) [.int .i64 g.a, .int .i64 g.b, .int .i64 g.c, .int .i64 g.d, .int .i64 g.e, .pointer pp, .map (some w.heap.size), .map (some (w.heap.size + 1)), .map (some (w.heap.size + 1 + 1))] 71
  simp only [World.size_alloc] at h2 h3 hk
  have g1 : ∀ (W : World) (k : Nat) (f : Value → Option Value) (o : Obj), MapIs W Try.prog 84 k 0 f → MapIs (W.alloc o) Try.prog 84 k 0 f := fun W k f o h => h.stay (Below.heap_alloc _ _ _ h.lt)
  refine ⟨hk, ⟨_, g1 _ _ _ _ (g1 _ _ _ _ (g1 _ _ _ _ h1)), fun b p _ => Or.inl ⟨rfl, rfl⟩⟩, ⟨_, g1 _ _ _ _ (g1 _ _ _ _ h2), fun b _ => rfl⟩, ⟨_, g1 _ _ _ _ h3, fun b _ => rfl⟩, NOk.new hok, hok, by omega, by omega, fun x hx => ?_, hL2⟩
  simp at hx
  omega

set_option maxHeartbeats 2000000 in
theorem nand_new (g : Geo) (pp : Option Addr) (w : World) (hok : g.ok) :
    Calls Try.prog 8 #[g.val, .pointer pp] w fun e w' => ∃ cb m1 m2 m3, e = .returned (.tuple #[.pointer (some ⟨cb, 0, none⟩), .int .i64 0]) ∧ (∀ x ∈ [cb, m1, m2, m3], w.heap.size ≤ x ∧ x < w'.heap.size) ∧
      (∀ L, (∀ x ∈ [cb, m1, m2, m3], x < L) → L ≤ w'.heap.size → NandC w' L cb m1 m2 m3 pp g 0 (nNew g)) ∧ Below w.heap.size w w' := by
  obtain ⟨w0, rfl⟩ : ∃ w0 : World, w0 = w := ⟨_, rfl⟩
  rcases g with ⟨a, b, c, d, e⟩
  show Calls Try.prog 8 #[.agg #[.int .i64 a, .int .i64 b, .int .i64 c, .int .i64 d, .int .i64 e], .pointer pp] w0 _
  have hbx := Blk.new w0 [.int .i64 a, .int .i64 b, .int .i64 c, .int .i64 d, .int .i64 e] 23
  have hbel := below_alloc w0 (.cells [.int .i64 a, .int .i64 b, .int .i64 c, .int .i64 d, .int .i64 e].toArray 23 (0, 0))
  have HD := Lib.hid (decide_eq_true hok)
  have HOK := Lib.hid hok
  have hmk := @run_makeMap Try.prog
  clear hok
  go_enter Try.func8, Try.ntmps8
  go_upto_region 1 with fail
  have c0 := hbx.cell 0 _ rfl
  have c1 := hbx.cell 1 _ rfl
  have c2 := hbx.cell 2 _ rfl
  have c3 := hbx.cell 3 _ rfl
  have c4 := hbx.cell 4 _ rfl
  go_upto_region 3 with (go_at_call 39; refine (nor_right ⟨a, b, c, d, e⟩ _).mono ?_; rintro e' w1 ⟨rfl, hb1⟩; rw [HD.out])
  have hk := hbx.below hb1
  have d0 := hk.cell 0 _ rfl
  have d1 := hk.cell 1 _ rfl
  have d2 := hk.cell 2 _ rfl
  have d3 := hk.cell 3 _ rfl
  have d4 := hk.cell 4 _ rfl
  have hb10 := hbel.trans (hb1.mono hbel.size)
  clear c0 c1 c2 c3 c4 hb1 hbel hbx hk
  have hs0 := hb10.size
  go_wp2_with fail
  go_ret2
  refine ⟨_, _, _, _, rfl, fun x hx => ?_, fun L hL hL2 => nand_made w1 ⟨a, b, c, d, e⟩ pp HOK.out L (by have := hL (w1.heap.size + 1 + 1 + 1) (by simp); omega) hL2, (((hb10.alloc hs0 _).alloc (by simp; omega) _).alloc (by simp; omega) _).alloc (by simp; omega) _⟩
  simp at hx
  simp only [World.size_alloc]
  omega

theorem Pow.head' {w : World} {b : Nat} {F : List Nat} {s : PS} (h : Pow w b F s) : b ∈ F := by
  obtain ⟨m, G, h1, h2, rfl, h3⟩ := h
  simp

/-- A function value of the program that turns a byte by t. -/
def Turns (w : World) (fv : Value) (t : UInt8 → UInt8) : Prop :=
  ∀ W, Below w.heap.size w W → ∀ (A : Option Addr) (n c : Nat) (l : List UInt8), Byts W A l → n = l.length → l.length ≤ 100000 →
    Calls Try.prog 47 #[.slice A n c, fv] W (Ret fun v w' => ∃ g, v = .slice (some ⟨g, 0, none⟩) n n ∧ W.heap.size ≤ g ∧ Own w' W.heap.size v (l.map t) ∧ Below W.heap.size W w')
theorem Turns.below {w w' : World} {fv : Value} {t : UInt8 → UInt8} (h : Turns w fv t) (hb : Below w.heap.size w w') : Turns w' fv t := fun W hW => h W (hb.trans (hW.mono hb.size))
theorem turns_id (w : World) : Turns w (.func (.func 42) #[] #[]) (fun x => x) := fun W _ A n c l hb hn hl => turned_id A n c l W hb hn hl
theorem turns_and (w : World) : Turns w (.func (.func 46) #[] #[]) (fun x => x &&& 170) := fun W _ A n c l hb hn hl => turned_and A n c l W hb hn hl
theorem turns_or (w : World) (q : Nat) (m : UInt8) (hc : w.cell? ⟨q, 0, none⟩ = some (.int .u8 (m.toNat : Int))) : Turns w (.func (.func 44) #[] #[.pointer (some ⟨q, 0, none⟩)]) (fun x => x ||| m) := fun W hW A n c l hb hn hl =>
  turned_or A n c l W hb hn hl m q ((hW.cell (p := ⟨q, 0, none⟩) (World.block_lt_of_cell? w _ hc)).trans hc)
theorem turns_orE (w : World) (q : Nat) (m : UInt8) (hc : w.cell? ⟨q, 0, none⟩ = some (.int .u8 (m.toNat : Int))) : Turns w (.func (.func 48) #[] #[.pointer (some ⟨q, 0, none⟩)]) (fun x => x ||| m) := fun W hW A n c l hb hn hl =>
  turned_orE A n c l W hb hn hl m q ((hW.cell (p := ⟨q, 0, none⟩) (World.block_lt_of_cell? w _ hc)).trans hc)

/-- What stands while a page is programmed. -/
structure CtxN (w0 : World) (L cb m1 m2 m3 pb : Nat) (g : Geo) (N : Nat) (n : NSt) (FP : List Nat) (s : PS) (A A' : Option Addr) (d sp : List UInt8) (fv : Value) (t : UInt8 → UInt8) (w : World) : Prop where
  c : NandC w L cb m1 m2 m3 (some ⟨pb, 0, none⟩) g N n
  p : Pow w pb FP s
  y1 : Byts w A d
  y2 : Byts w A' sp
  tn : Turns w fv t
  bel : Below w0.heap.size w0 w
theorem CtxN.below {w0 w w' : World} {L cb m1 m2 m3 pb : Nat} {g : Geo} {N : Nat} {n : NSt} {FP : List Nat} {s : PS} {A A' : Option Addr} {d sp : List UInt8} {fv : Value} {t : UInt8 → UInt8} (h : CtxN w0 L cb m1 m2 m3 pb g N n FP s A A' d sp fv t w) (hx : Below w.heap.size w w') : CtxN w0 L cb m1 m2 m3 pb g N n FP s A A' d sp fv t w' :=
  ⟨h.c.below hx, h.p.below hx, h.y1.below hx, h.y2.below hx, h.tn.below hx, h.bel.trans (hx.mono h.bel.size)⟩

theorem turnB_torn {s : PS} (h : s.torn = true) : turnB s = fun x => x ||| s.mask := by funext x; unfold turnB; rw [if_pos h]
theorem turnB_fail {s : PS} (h : s.torn = false) (h2 : s.next.failing = true) : turnB s = fun x => x &&& 170 := by funext x; unfold turnB; rw [if_neg (by rw [h]; decide), if_pos h2]
theorem turnB_ok {s : PS} (h : s.torn = false) (h2 : s.next.failing = false) : turnB s = fun x => x := by funext x; unfold turnB; rw [if_neg (by rw [h]; decide), if_neg (by rw [h2]; decide)]
theorem pkey_ne {b p b' p' : Int} (h : ¬ (b' = b ∧ p' = p)) : (Value.agg #[.int .i64 b', .int .i64 p']) ≠ .agg #[.int .i64 b, .int .i64 p] := fun e => by
  simp at e
  exact h e

section
variable {w : World} {L cb m1 m2 m3 pb : Nat} {g : Geo} {N : Nat} {n : NSt} {FP : List Nat} {s : PS}

/-- A page is laid into the maps. -/
theorem NandC.put {w4 w5 w6 : World} {pp : Option Addr} (h : NandC w4 L cb m1 m2 m3 pp g N n) (b p : Int) (D S : List UInt8) {f1 f2 : Value → Option Value} {A1 A2 : Option Addr} {c1 c2 : Nat}
    (hf1 : ∀ b p, nOk g b p → Cont w4 L (f1 (.agg #[.int .i64 b, .int .i64 p])) (n.pg b p) (blankP g)) (hf2 : ∀ b, (Lit.int .i64 b).wf = true → (f2 (.agg #[.int .i64 b, .int .i64 0])).getD (.int .i64 0) = .int .i64 (n.nx b))
    (hy1 : Byts w4 A1 D) (hb1 : ∀ x, A1 = some x → L ≤ x.block ∧ x.off = 0) (hc1 : D.length ≤ c1 ∧ c1 ≤ maxLen) (hy2 : Byts w4 A2 S) (hb2 : ∀ x, A2 = some x → L ≤ x.block ∧ x.off = 0) (hc2 : S.length ≤ c2 ∧ c2 ≤ maxLen)
    (hm5 : MapIs w5 Try.prog 84 m1 (N + 1) (updV f1 (.agg #[.int .i64 b, .int .i64 p]) (some (.agg #[.slice A1 D.length c1, .slice A2 S.length c2])))) (hg5 : w4.grownBy w5 (some m1))
    (hm6 : MapIs w6 Try.prog 84 m2 (N + 1) (updV f2 (.agg #[.int .i64 b, .int .i64 0]) (some (.int .i64 (p + 1))))) (hg6 : w5.grownBy w6 (some m2))
    (hn : NOk g ⟨upP n.pg b p (D, S), up1 n.nx b (p + 1), n.er⟩ (N + 1)) : NandC w6 L cb m1 m2 m3 pp g (N + 1) ⟨upP n.pg b p (D, S), up1 n.nx b (p + 1), n.er⟩ := by
  have ho5 := Only.of_grown hg5
  have ho6 := Only.of_grown hg6
  obtain ⟨h1, h2, h3, ⟨f3, h4, h4'⟩, h5, h6, h7, h8, h9, h10⟩ := h
  have hs5 : ∀ x ∈ [m1], x < L := fun x hx => h9 x (by simp at hx ⊢; omega)
  have hs6 : ∀ x ∈ [m2], x < L := fun x hx => h9 x (by simp at hx ⊢; omega)
  refine ⟨(h1.only ho5 (by simp; omega)).only ho6 (by simp; omega), ⟨_, hm5.only ho6 (by simp; omega), fun x y hxy => ?_⟩, ⟨_, hm6, fun x hx => ?_⟩, ⟨f3, ((h4.only ho5 (by simp; omega)).only ho6 (by simp; omega)).mono (Nat.le_succ N), h4'⟩, hn, h6, h7, h8, h9, Nat.le_trans h10 (Nat.le_trans ho5.size ho6.size)⟩
  · show Cont w6 L _ (upP n.pg b p (D, S) x y) _
    by_cases e : x = b ∧ y = p
    · obtain ⟨rfl, rfl⟩ := e
      rw [upP_same, updV_same]
      have : Cont w4 L (some (.agg #[.slice A1 D.length c1, .slice A2 S.length c2])) (D, S) (blankP g) := Or.inr ⟨A1, c1, A2, c2, rfl, hc1, hc2, hy1, hy2, hb1, hb2⟩
      exact (this.only ho5 hs5).only ho6 hs6
    · rw [upP_other _ _ e, updV_other _ _ _ (pkey_ne e)]
      exact ((hf1 x y hxy).only ho5 hs5).only ho6 hs6
  · show _ = Value.int .i64 (up1 n.nx b (p + 1) x)
    by_cases e : x = b
    · subst e
      rw [up1_same, updV_same]
      rfl
    · rw [up1_other _ _ e, updV_other _ _ _ (pkey_ne (fun h => e h.1))]
      exact hf2 x hx

set_option maxHeartbeats 8000000 in
theorem nand_program (h : NandC w L cb m1 m2 m3 (some ⟨pb, 0, none⟩) g N n) (hN : N ≤ 1000000000) (hp : Pow w pb FP s) (hd : (∀ x ∈ FP, x ∉ [cb, m1, m2, m3]) ∧ pb < L) (b p : Int) (hb : -9223372036854775808 ≤ b ∧ b ≤ 9223372036854775807) (hpp : -9223372036854775808 ≤ p ∧ p ≤ 9223372036854775807)
    (A : Option Addr) (k c : Nat) (d : List UInt8) (hy : Byts w A d) (hk : d.length = k) (hk2 : k ≤ 9223372036854775807) (A' : Option Addr) (k' c' : Nat) (sp : List UInt8) (hy' : Byts w A' sp) (hk' : sp.length = k') (hk2' : k' ≤ 9223372036854775807)
    (hA : ∀ x, A = some x → 0 < d.length → x.block ≠ pb) (hA' : ∀ x, A' = some x → 0 < sp.length → x.block ≠ pb) (hdone : s.done ≤ 900000000000) {r : Int} {n' : NSt} {s' : PS} (hE : nProg g s n b p d sp = (r, n', s')) :
    Calls Try.prog 12 #[.pointer (some ⟨cb, 0, none⟩), .int .i64 b, .int .i64 p, .slice A k c, .slice A' k' c'] w fun e w' => e = .returned (.int .i64 r) ∧ NandC w' L cb m1 m2 m3 (some ⟨pb, 0, none⟩) g (N + 1) n' ∧ Pow w' pb FP s' ∧ Only [m1, m2, pb] w w' := by
  obtain ⟨w0, rfl⟩ : ∃ w0 : World, w0 = w := ⟨_, rfl⟩
  unfold nProg at hE
  by_cases hok : nOk g b p
  · rw [if_pos hok] at hE
    have H1 := Lib.hid (nand_ask h b p)
    rw [nAsk_pos hok] at H1
    have c4 := h.blk.cell 4 _ rfl
    by_cases hsz : (d.length : Int) ≠ g.e ∨ sp.length ≠ 16
    · rw [if_pos hsz] at hE
      simp only [Prod.mk.injEq] at hE
      obtain ⟨rfl, rfl, rfl⟩ := hE
      have HF := Lib.hid (And.intro (h.mono (Nat.le_succ N)) hp)
      rw [hk, hk'] at hsz
      by_cases h4 : (k : Int) = g.e
      · have h4' : ((k : Int) != g.e) = false := by simp; exact h4
        have h16 : ((k' : Int) != 16) = true := by simp; omega
        clear h hp hsz h4 hA hA' hy hy' hk hk' hd
        go_enter Try.func12, Try.ntmps12
        go_wp2_with (go_at_call 40; refine H1.out.mono ?_; rintro e w' ⟨rfl, rfl⟩)
        go_ret
        exact ⟨rfl, HF.out.1, HF.out.2, Only.refl _ _⟩
      · have h4' : ((k : Int) != g.e) = true := by simp; exact h4
        clear h hp hsz h4 hA hA' hy hy' hk hk' hd
        go_enter Try.func12, Try.ntmps12
        go_wp2_with (go_at_call 40; refine H1.out.mono ?_; rintro e w' ⟨rfl, rfl⟩)
        go_ret
        exact ⟨rfl, HF.out.1, HF.out.2, Only.refl _ _⟩
    · rw [if_neg hsz] at hE
      have h4 : ((k : Int) != g.e) = false := by simp; omega
      have h16 : ((k' : Int) != 16) = false := by simp; omega
      have H2 := Lib.hid (nand_programmed h b hb)
      by_cases hord : p ≠ n.nx b
      · rw [if_pos hord] at hE
        simp only [Prod.mk.injEq] at hE
        obtain ⟨rfl, rfl, rfl⟩ := hE
        have HF := Lib.hid (And.intro (h.mono (Nat.le_succ N)) hp)
        have hne : (p != n.nx b) = true := by simp; exact hord
        clear h hp hsz hA hA' hy hy' hk hk' hd
        go_enter Try.func12, Try.ntmps12
        go_wp2_with (first | (go_at_call 40; refine H1.out.mono ?_; rintro e w' ⟨rfl, rfl⟩) | (go_at_call 14; refine H2.out.mono ?_; rintro e w' ⟨rfl, rfl⟩))
        go_ret
        exact ⟨rfl, HF.out.1, HF.out.2, Only.refl _ _⟩
      · rw [if_neg hord] at hE
        have hpe : p = n.nx b := by omega
        have hne : (p != p) = false := by simp
        rw [← hpe] at H2
        have c5 := h.blk.cell 5 _ rfl
        have hpF := hp.head'
        have HST := Lib.hid (pow_step pb FP s w0 hp (by omega))
        have hcn : ∀ x ∈ [cb, m1, m2, m3], x ∉ [pb] := fun x hx hm => by simp at hm; subst hm; exact hd.1 _ hpF hx
        have HC1 := Lib.hid (fun (W : World) (ho : Only [pb] w0 W) => h.only ho hcn (fun x hx => by simp at hx; subst hx; exact hd.2))
        have HY1 := Lib.hid (fun (W : World) (ho : Only [pb] w0 W) => And.intro (hy.only ho (fun x e h0 hm => hA x e h0 (by simpa using hm))) (hy'.only ho (fun x e h0 hm => hA' x e h0 (by simpa using hm))))
        have HSZ := Lib.hid hsz
        have HPE := Lib.hid hpe
        have HKK := Lib.hid (And.intro hk hk')
        have HD := Lib.hid hd
        have HOK := Lib.hid hok
        have hgo := h.ok
        unfold Geo.ok at hgo
        have hkl : k ≤ 256 := by rw [← hk]; omega
        have hkl' : k' ≤ 256 := by rw [← hk']; omega
        have HG := Lib.hid hgo
        have hpl : 0 ≤ p ∧ p < 32 := by unfold nOk at hok; omega
        clear hgo h hp hsz hA hA' hy hy' hk hk' hd hcn hpe hord hok
        go_enter Try.func12, Try.ntmps12
        go_upto_region 8 with (first | (go_at_call 40; refine H1.out.mono ?_; rintro e w' ⟨rfl, rfl⟩) | (go_at_call 14; refine H2.out.mono ?_; rintro e w' ⟨rfl, rfl⟩))
        obtain ⟨di, hdi⟩ : ∃ x, s.did = x := ⟨_, rfl⟩
        obtain ⟨tr, htr⟩ : ∃ x, s.torn = x := ⟨_, rfl⟩
        rw [hdi, htr] at hE HST
        by_cases hoff : di = false ∧ tr = false
        · rw [if_pos hoff] at hE
          simp only [Prod.mk.injEq] at hE
          obtain ⟨rfl, rfl, rfl⟩ := hE
          obtain ⟨rfl, rfl⟩ := hoff
          go_wp2_with (go_at_call 41; refine HST.out.mono ?_; rintro e w1 ⟨rfl, hp1, ho1⟩)
          go_ret
          exact ⟨rfl, (HC1.out _ ho1).mono (Nat.le_succ N), hp1, ho1.mono (by simp)⟩
        · rw [if_neg hoff] at hE
          simp only [Prod.mk.injEq] at hE
          obtain ⟨hr, hn', rfl⟩ := hE
          have HR := Lib.hid (And.intro hr hn')
          have HDT := Lib.hid (And.intro hdi htr)
          have hnd := s.next_done_le
          clear hr hn' hdi htr
          go_upto_block 0 with (go_at_call 41; refine HST.out.mono ?_; rintro e w1 ⟨rfl, hp1, ho1⟩)
          have d5 := (HC1.out w1 ho1).blk.cell 5 _ rfl
          go_cut [14, 15] (fun v14 v15 w' => v15 = .int .i64 r ∧ Turns w' v14 (turnB s) ∧ Only [pb] w0 w' ∧ Pow w' pb FP s.next)
          case first =>
            cases tr with
            | true =>
              have hM := pow_mask pb FP s.next w1 hp1
              rw [s.next_mask] at hM
              have HM := Lib.hid hM
              have HT := Lib.hid (turns_or (w1.alloc (.cells #[.int .u8 (s.mask.toNat : Int)] 5)) w1.heap.size s.mask (new_cell w1 [.int .u8 (s.mask.toNat : Int)] 5 (0, 0) 0 _ rfl))
              have HP := Lib.hid (And.intro (ho1.alloc (.cells #[.int .u8 (s.mask.toNat : Int)] 5)) (hp1.below (below_alloc w1 (.cells #[.int .u8 (s.mask.toNat : Int)] 5))))
              clear hM hp1 ho1 hoff
              go_wp2_with (go_at_call 43; refine HM.out.mono ?_; rintro e w' ⟨rfl, rfl⟩)
              go_meet
              refine ⟨?_, by rw [turnB_torn HDT.out.2]; exact HT.out, HP.out.1, HP.out.2⟩
              rw [← HR.out.1]
              unfold progR
              rw [if_pos HDT.out.2]
            | false =>
              obtain rfl : di = true := by
                cases di with
                | true => rfl
                | false => exact absurd ⟨rfl, rfl⟩ hoff
              have HF := Lib.hid (pow_fails pb FP s.next w1 hp1 (by omega))
              obtain ⟨fa, hfa⟩ : ∃ x, s.next.failing = x := ⟨_, rfl⟩
              rw [hfa] at HF
              have HFA := Lib.hid hfa
              clear hfa hoff
              cases fa with
              | true =>
                go_wp2_with (go_at_call 45; refine HF.out.mono ?_; rintro e w' ⟨rfl, mm, rfl⟩)
                go_meet
                refine ⟨?_, by rw [turnB_fail HDT.out.2 HFA.out]; exact turns_and _, ho1.drewN mm, hp1.below (below_drewN (Below.refl _ _) mm)⟩
                rw [← HR.out.1]
                unfold progR
                rw [if_neg (by rw [HDT.out.2]; decide), if_pos HFA.out]
              | false =>
                go_wp2_with (go_at_call 45; refine HF.out.mono ?_; rintro e w' ⟨rfl, mm, rfl⟩)
                go_meet
                refine ⟨?_, by rw [turnB_ok HDT.out.2 HFA.out]; exact turns_id _, ho1.drewN mm, hp1.below (below_drewN (Below.refl _ _) mm)⟩
                rw [← HR.out.1]
                unfold progR
                rw [if_neg (by rw [HDT.out.2]; decide), if_neg (by rw [HFA.out]; decide)]
          case rest =>
            clear hp1 ho1 d5
            obtain ⟨rfl, hT, ho2, hp2⟩ := hcut
            obtain ⟨w2, rfl⟩ : ∃ w2, w2 = wc := ⟨_, rfl⟩
            have hC : CtxN w2 L cb m1 m2 m3 pb g N n FP s.next A A' d sp u14 (turnB s) w2.drew := (CtxN.mk (HC1.out _ ho2) hp2 (HY1.out _ ho2).1 (HY1.out _ ho2).2 hT (Below.refl _ _) : CtxN w2 L cb m1 m2 m3 pb g N n FP s.next A A' d sp u14 (turnB s) w2).below (Below.refl _ _).drew
            have HR2 := HR
            have hwb := wfOf hb
            have hwp := wfOf hpp
            obtain ⟨kl, hkey⟩ := place_key b p hwb hwp
            obtain ⟨kl2, hkey2⟩ := place_key b 0 hwb (by decide)
            have hNm : N < maxLen := by unfold maxLen; omega
            have hll : d.length ≤ 100000 := by rw [HKK.out.1]; omega
            have hll' : sp.length ≤ 100000 := by rw [HKK.out.2]; omega
            have HLL := Lib.hid (And.intro hll hll')
            have HLE : Hid (L ≤ w2.drew.heap.size) := hC.c.le
            have hsz2 := Nat.le_refl w2.drew.heap.size
            have c6 := hC.c.blk.cell 6 _ rfl
            have q6 := (HC1.out w2 ho2).blk.cell 6 _ rfl
            have HTn : Hid (∀ W, Below w2.heap.size w2 W → ∀ (A : Option Addr) (n c : Nat) (l : List UInt8), Byts W A l → n = l.length → l.length ≤ 100000 →
                Calls Try.prog 47 #[.slice A n c, u14] W (Ret fun v w' => ∃ g, v = .slice (some ⟨g, 0, none⟩) n n ∧ W.heap.size ≤ g ∧ Own w' W.heap.size v (l.map (turnB s)) ∧ Below W.heap.size W w')) := hT
            clear hll hll' hT hp2
            go_upto_region 17 with fail
            have hX := (Below.refl w2.heap.size w2).drew
            go_region_with (first
                  | (go_at_call 47; (with_reducible refine (HTn.out _ hX A k c d hC.y1 HKK.out.1.symm HLL.out.1).mono ?_); rintro e w3 ⟨v1, rfl, q1, rfl, hq1, hv1, hx⟩; replace hX := hX.trans (hx.mono hX.size); have hX3 := hX.size; replace hC := hC.below hx; have c6 := hC.c.blk.cell 6 _ rfl; clear hx)
                  | (go_at_call 47; (with_reducible refine (HTn.out _ hX A' k' c' sp hC.y2 HKK.out.2.symm HLL.out.2).mono ?_); rintro e w4 ⟨v2, rfl, q2, rfl, hq2, hv2, hx⟩; have hv12 := hv1.below hx; have hq12 := hx.size; replace hX := hX.trans (hx.mono hX.size); replace hC := hC.below hx; have c6 := hC.c.blk.cell 6 _ rfl; clear hx; obtain ⟨f1, hm1, hf1⟩ := hC.c.pages; obtain ⟨w5, hput, hm5, hg5⟩ := hm1.put (val := .agg #[.slice (some ⟨q1, 0, none⟩) k k, .slice (some ⟨q2, 0, none⟩) k' k']) placeKeyed Try.underlying68 hNm hkey))
            all_goals
              have ho5 := Only.of_grown hg5
              have hd1 := hC.c.d1
              have c7 := (hC.c.blk.only ho5 (by simp; omega)).cell 7 _ rfl
              obtain ⟨f2, hm2, hf2⟩ := hC.c.cnts
              have hm25 := hm2.only ho5 (by have := hC.c.d2; simp; omega)
              have hlo : L ≤ w2.heap.size := (HC1.out w2 ho2).le
              have hy1 := hv12.byts
              have hy2 := hv2.byts
              have HF := Lib.hid (And.intro hC (And.intro hv12 (And.intro hv2 (And.intro hX (And.intro hf1 (And.intro hm5 (And.intro hg5 hf2)))))))
              have HB := Lib.hid (And.intro hq1 hq2)
              have hq12' : w2.heap.size ≤ w3.heap.size := hX3
              clear hy1 hy2 hC hv12 hv2 hv1 hX hf1 hm5 hg5 hf2 hput hm1 hm2 hkey c6 q6 ho5 hd1 hq1 hq2
              go_wp2_with (at_mapUpdate; refine wpList_wanted (by rfl) fun K hK => wp_mapUpdate_is _ _ _ rfl placeKeyed Try.underlying69 rfl hm25 hNm rfl rfl hkey2 ?_; intro w6 hm6 hg6; refine hK _ _ ?_; clear hK K)
              go_ret
              obtain ⟨hC, hv12, hv2, hX, hf1, hm5, hg5, hf2⟩ := HF.out
              have ho5 := Only.of_grown hg5
              have ho6 := Only.of_grown hg6
              have e1 : (d.map (turnB s)).length = k := by rw [List.length_map]; exact HKK.out.1
              have e2 : (sp.map (turnB s)).length = k' := by rw [List.length_map]; exact HKK.out.2
              have hnok : NOk g ⟨upP n.pg b p (d.map (turnB s), sp.map (turnB s)), up1 n.nx b (p + 1), n.er⟩ (N + 1) := by
                have h1 := hC.c.n.prog (s := s) b p d sp
                unfold nProg at h1
                rw [if_pos HOK.out, if_neg HSZ.out, if_neg (fun h => h HPE.out), if_neg (by rw [HDT.out.1, HDT.out.2]; exact hoff)] at h1
                exact h1.mono (Nat.le_succ N)
              have hq1 := HB.out.1
              have hq2 := HB.out.2
              have hXs := hX.size
              obtain ⟨hr, rfl⟩ := HR.out
              refine ⟨rfl, hC.c.put b p (d.map (turnB s)) (sp.map (turnB s)) hf1 hf2 hv12.read (fun x e => by cases e; exact ⟨Nat.le_trans hlo hq1, rfl⟩) ⟨by rw [e1]; exact Nat.le_refl _, by unfold maxLen; omega⟩ hv2.read (fun x e => by cases e; exact ⟨Nat.le_trans (Nat.le_trans hlo hq12') hq2, rfl⟩) ⟨by rw [e2]; exact Nat.le_refl _, by unfold maxLen; omega⟩ (by rw [e1, e2]; exact hm5) hg5 hm6 hg6 hnok,
                (hC.p.only ho5 (fun x hx hm => HD.out.1 x hx (by simp at hm ⊢; omega))).only ho6 (fun x hx hm => HD.out.1 x hx (by simp at hm ⊢; omega)), ?_⟩
              exact (((ho2.mono (by simp)).trans (Only.of_below hX _)).trans (ho5.mono (by simp))).trans (ho6.mono (by simp))
  · rw [if_neg hok] at hE
    simp only [Prod.mk.injEq] at hE
    obtain ⟨rfl, rfl, rfl⟩ := hE
    have H1 := Lib.hid (nand_ask h b p)
    rw [nAsk_neg hok] at H1
    have HF := Lib.hid (And.intro (h.mono (Nat.le_succ N)) hp)
    clear h hp hA hA' hy hy' hk hk' hd
    go_enter Try.func12, Try.ntmps12
    go_wp2_with (go_at_call 40; refine H1.out.mono ?_; rintro e w' ⟨rfl, rfl⟩)
    go_ret
    exact ⟨rfl, HF.out.1, HF.out.2, Only.refl _ _⟩
end
end Go.Proofs.Ytionjddcahgpkaa
