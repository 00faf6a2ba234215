/- Erasing a block. -/
import Derived.Test.YtionjddcahgpkaaNand2
set_option linter.unusedVariables false
set_option maxRecDepth 100000
set_option linter.unusedSimpArgs false
namespace Go.Proofs.Ytionjddcahgpkaa
open Go.RowKit
open Go.Maps (Keyed)

/-- The first j pages of a block changed by F. -/
def pgTo (F : List UInt8 × List UInt8 → List UInt8 × List UInt8) (pg : Int → Int → List UInt8 × List UInt8) (b : Int) (j : Nat) : Int → Int → List UInt8 × List UInt8 := fun x y => if x = b ∧ 0 ≤ y ∧ y < (j : Int) then F (pg x y) else pg x y
theorem pgTo_zero (F : List UInt8 × List UInt8 → List UInt8 × List UInt8) (pg : Int → Int → List UInt8 × List UInt8) (b : Int) : pgTo F pg b 0 = pg := by
  funext x y; unfold pgTo; rw [if_neg (by omega)]
theorem pgTo_succ (F : List UInt8 × List UInt8 → List UInt8 × List UInt8) (pg : Int → Int → List UInt8 × List UInt8) (b : Int) (j : Nat) : upP (pgTo F pg b j) b (j : Int) (F (pg b (j : Int))) = pgTo F pg b (j + 1) := by
  funext x y
  by_cases e : x = b ∧ y = (j : Int)
  · obtain ⟨rfl, rfl⟩ := e
    rw [upP_same]
    unfold pgTo
    rw [if_pos ⟨rfl, by omega, by omega⟩]
  · rw [upP_other _ _ e]
    unfold pgTo
    by_cases h : x = b ∧ 0 ≤ y ∧ y < (j : Int)
    · rw [if_pos h, if_pos ⟨h.1, h.2.1, by omega⟩]
    · rw [if_neg h, if_neg (by omega)]
theorem pgTo_at (F : List UInt8 × List UInt8 → List UInt8 × List UInt8) (pg : Int → Int → List UInt8 × List UInt8) (b : Int) (j : Nat) : pgTo F pg b j b (j : Int) = pg b (j : Int) := by
  unfold pgTo; rw [if_neg (by omega)]
theorem upP_self (pg : Int → Int → List UInt8 × List UInt8) (b p : Int) : upP pg b p (pg b p) = pg := by
  funext x y
  by_cases e : x = b ∧ y = p
  · obtain ⟨rfl, rfl⟩ := e
    rw [upP_same]
  · rw [upP_other _ _ e]
theorem NOk.up {g : Geo} {n : NSt} {N : Nat} (h : NOk g n N) (b p : Int) {v : List UInt8 × List UInt8} (hv : (v.1.length : Int) = g.e ∧ v.2.length = 16) : NOk g ⟨upP n.pg b p v, n.nx, n.er⟩ N := by
  refine ⟨fun x y hxy => ?_, h.nx, h.er, h.out⟩
  show ((upP n.pg b p v x y).1.length : Int) = g.e ∧ (upP n.pg b p v x y).2.length = 16
  by_cases e : x = b ∧ y = p
  · obtain ⟨rfl, rfl⟩ := e
    rw [upP_same]
    exact hv
  · rw [upP_other _ _ e]
    exact h.sz x y hxy

section
variable {L cb m1 m2 m3 : Nat} {pp : Option Addr} {g : Geo} {N : Nat} {n : NSt}
theorem NandC.congr {w : World} (h : NandC w L cb m1 m2 m3 pp g N n) {n' : NSt} (h1 : ∀ b p, nOk g b p → n'.pg b p = n.pg b p) (h2 : n'.nx = n.nx) (h3 : n'.er = n.er) : NandC w L cb m1 m2 m3 pp g N n' := by
  obtain ⟨a1, ⟨f, a2, a2'⟩, a3, a4, ⟨b1, b2, b3, b4⟩, a6, a7, a8, a9, a10⟩ := h
  refine ⟨a1, ⟨f, a2, fun b p hb => by rw [h1 b p hb]; exact a2' b p hb⟩, by rw [h2]; exact a3, by rw [h3]; exact a4, ⟨fun b p hb => by rw [h1 b p hb]; exact b1 b p hb, by rw [h2]; exact b2, by rw [h3]; exact b3, by rw [h2, h3]; exact b4⟩, a6, a7, a8, a9, a10⟩
theorem NandC.put1 {w4 w5 : World} (h : NandC w4 L cb m1 m2 m3 pp g N n) (b p : Int) (D S : List UInt8) {f1 : Value → Option Value} {A1 A2 : Option Addr} {c1 c2 : Nat}
    (hf1 : ∀ b p, nOk g b p → Cont w4 L (f1 (.agg #[.int .i64 b, .int .i64 p])) (n.pg b p) (blankP g))
    (hy1 : Byts w4 A1 D) (hb1 : ∀ x, A1 = some x → L ≤ x.block ∧ x.off = 0) (hc1 : D.length ≤ c1 ∧ c1 ≤ maxLen) (hy2 : Byts w4 A2 S) (hb2 : ∀ x, A2 = some x → L ≤ x.block ∧ x.off = 0) (hc2 : S.length ≤ c2 ∧ c2 ≤ maxLen)
    (hm5 : MapIs w5 Try.prog 84 m1 (N + 1) (updV f1 (.agg #[.int .i64 b, .int .i64 p]) (some (.agg #[.slice A1 D.length c1, .slice A2 S.length c2])))) (hg5 : w4.grownBy w5 (some m1))
    (hsz : (D.length : Int) = g.e ∧ S.length = 16) : NandC w5 L cb m1 m2 m3 pp g (N + 1) ⟨upP n.pg b p (D, S), n.nx, n.er⟩ := by
  have ho5 := Only.of_grown hg5
  obtain ⟨h1, h2, ⟨f2, h3, h3'⟩, ⟨f3, h4, h4'⟩, h5, h6, h7, h8, h9, h10⟩ := h
  have hs5 : ∀ x ∈ [m1], x < L := fun x hx => h9 x (by simp at hx ⊢; omega)
  refine ⟨h1.only ho5 (by simp; omega), ⟨_, hm5, fun x y hxy => ?_⟩, ⟨f2, (h3.only ho5 (by simp; omega)).mono (Nat.le_succ N), h3'⟩, ⟨f3, (h4.only ho5 (by simp; omega)).mono (Nat.le_succ N), h4'⟩, (h5.up b p hsz).mono (Nat.le_succ N), h6, h7, h8, h9, Nat.le_trans h10 ho5.size⟩
  show Cont w5 L _ (upP n.pg b p (D, S) x y) _
  by_cases e : x = b ∧ y = p
  · obtain ⟨rfl, rfl⟩ := e
    rw [upP_same, updV_same]
    have : Cont w4 L (some (.agg #[.slice A1 D.length c1, .slice A2 S.length c2])) (D, S) (blankP g) := Or.inr ⟨A1, c1, A2, c2, rfl, hc1, hc2, hy1, hy2, hb1, hb2⟩
    exact this.only ho5 hs5
  · rw [upP_other _ _ e, updV_other _ _ _ (pkey_ne e)]
    exact (hf1 x y hxy).only ho5 hs5
theorem NandC.del1 {w4 w5 : World} (h : NandC w4 L cb m1 m2 m3 pp g N n) (b p : Int) {f1 : Value → Option Value}
    (hf1 : ∀ b p, nOk g b p → Cont w4 L (f1 (.agg #[.int .i64 b, .int .i64 p])) (n.pg b p) (blankP g))
    (hm5 : MapIs w5 Try.prog 84 m1 N (updV f1 (.agg #[.int .i64 b, .int .i64 p]) none)) (hg5 : w4.grownBy w5 (some m1)) : NandC w5 L cb m1 m2 m3 pp g N ⟨upP n.pg b p (blankP g), n.nx, n.er⟩ := by
  have ho5 := Only.of_grown hg5
  obtain ⟨h1, h2, ⟨f2, h3, h3'⟩, ⟨f3, h4, h4'⟩, h5, h6, h7, h8, h9, h10⟩ := h
  have hs5 : ∀ x ∈ [m1], x < L := fun x hx => h9 x (by simp at hx ⊢; omega)
  have hgo := h6
  unfold Geo.ok at hgo
  refine ⟨h1.only ho5 (by simp; omega), ⟨_, hm5, fun x y hxy => ?_⟩, ⟨f2, h3.only ho5 (by simp; omega), h3'⟩, ⟨f3, h4.only ho5 (by simp; omega), h4'⟩, h5.up b p (by show ((ffs g.e.toNat).length : Int) = g.e ∧ (ffs 16).length = 16; rw [ffs_length, ffs_length]; omega), h6, h7, h8, h9, Nat.le_trans h10 ho5.size⟩
  show Cont w5 L _ (upP n.pg b p (blankP g) x y) _
  by_cases e : x = b ∧ y = p
  · obtain ⟨rfl, rfl⟩ := e
    rw [upP_same, updV_same]
    exact Or.inl ⟨rfl, rfl⟩
  · rw [upP_other _ _ e, updV_other _ _ _ (pkey_ne e)]
    exact (hf1 x y hxy).only ho5 hs5
theorem NandC.cnt1 {w4 w5 : World} (h : NandC w4 L cb m1 m2 m3 pp g N n) (b v : Int) {f2 : Value → Option Value} (hf2 : ∀ b, (Lit.int .i64 b).wf = true → (f2 (.agg #[.int .i64 b, .int .i64 0])).getD (.int .i64 0) = .int .i64 (n.nx b))
    (hm5 : MapIs w5 Try.prog 84 m2 (N + 1) (updV f2 (.agg #[.int .i64 b, .int .i64 0]) (some (.int .i64 v)))) (hg5 : w4.grownBy w5 (some m2)) (hb : 0 ≤ b ∧ b < g.c) (hv : 0 ≤ v ∧ v ≤ g.d) : NandC w5 L cb m1 m2 m3 pp g (N + 1) ⟨n.pg, up1 n.nx b v, n.er⟩ := by
  have ho5 := Only.of_grown hg5
  obtain ⟨h1, ⟨f1, h2, h2'⟩, h3, ⟨f3, h4, h4'⟩, ⟨b1, b2, b3, b4⟩, h6, h7, h8, h9, h10⟩ := h
  have hs5 : ∀ x ∈ [m2], x < L := fun x hx => h9 x (by simp at hx ⊢; omega)
  refine ⟨h1.only ho5 (by simp; omega), ⟨f1, (h2.only ho5 (by simp; omega)).mono (Nat.le_succ N), fun x y hxy => (h2' x y hxy).only ho5 hs5⟩, ⟨_, hm5, fun x hx => ?_⟩, ⟨f3, (h4.only ho5 (by simp; omega)).mono (Nat.le_succ N), h4'⟩, ⟨b1, fun x => ?_, fun x => ⟨(b3 x).1, by have := (b3 x).2; show n.er x ≤ ((N + 1 : Nat) : Int); omega⟩, fun x hx => ?_⟩, h6, h7, h8, h9, Nat.le_trans h10 ho5.size⟩
  · show _ = Value.int .i64 (up1 n.nx b v x)
    by_cases e : x = b
    · subst e
      rw [up1_same, updV_same]
      rfl
    · rw [up1_other _ _ e, updV_other _ _ _ (pkey_ne (fun h => e h.1))]
      exact hf2 x hx
  · show 0 ≤ up1 n.nx b v x ∧ up1 n.nx b v x ≤ g.d
    by_cases e : x = b
    · rw [e, up1_same]; exact hv
    · rw [up1_other _ _ e]; exact b2 x
  · have e : x ≠ b := by rintro rfl; exact hx hb
    refine ⟨?_, (b4 x hx).2⟩
    show up1 n.nx b v x = 0
    rw [up1_other _ _ e]; exact (b4 x hx).1
theorem NandC.era1 {w4 w5 : World} (h : NandC w4 L cb m1 m2 m3 pp g N n) (b : Int) {f3 : Value → Option Value} (hf3 : ∀ b, (Lit.int .i64 b).wf = true → (f3 (.agg #[.int .i64 b, .int .i64 0])).getD (.int .i64 0) = .int .i64 (n.er b))
    (hm5 : MapIs w5 Try.prog 84 m3 (N + 1) (updV f3 (.agg #[.int .i64 b, .int .i64 0]) (some (.int .i64 (n.er b + 1))))) (ho5 : Only [m3] w4 w5) (hb : 0 ≤ b ∧ b < g.c) : NandC w5 L cb m1 m2 m3 pp g (N + 1) ⟨n.pg, n.nx, up1 n.er b (n.er b + 1)⟩ := by
  obtain ⟨h1, ⟨f1, h2, h2'⟩, ⟨f2, h3, h3'⟩, h4, ⟨b1, b2, b3, b4⟩, h6, h7, h8, h9, h10⟩ := h
  have hs5 : ∀ x ∈ [m3], x < L := fun x hx => h9 x (by simp at hx ⊢; omega)
  refine ⟨h1.only ho5 (by simp; omega), ⟨f1, (h2.only ho5 (by simp; omega)).mono (Nat.le_succ N), fun x y hxy => (h2' x y hxy).only ho5 hs5⟩, ⟨f2, (h3.only ho5 (by simp; omega)).mono (Nat.le_succ N), h3'⟩, ⟨_, hm5, fun x hx => ?_⟩, ⟨b1, b2, fun x => ?_, fun x hx => ?_⟩, h6, h7, h8, h9, Nat.le_trans h10 ho5.size⟩
  · show _ = Value.int .i64 (up1 n.er b (n.er b + 1) x)
    by_cases e : x = b
    · subst e
      rw [up1_same, updV_same]
      rfl
    · rw [up1_other _ _ e, updV_other _ _ _ (pkey_ne (fun h => e h.1))]
      exact hf3 x hx
  · show 0 ≤ up1 n.er b (n.er b + 1) x ∧ up1 n.er b (n.er b + 1) x ≤ ((N + 1 : Nat) : Int)
    by_cases e : x = b
    · rw [e, up1_same]; have := b3 b; omega
    · rw [up1_other _ _ e]; have := b3 x; omega
  · have e : x ≠ b := by rintro rfl; exact hx hb
    refine ⟨(b4 x hx).1, ?_⟩
    show up1 n.er b (n.er b + 1) x = 0
    rw [up1_other _ _ e]; exact (b4 x hx).2
end

/-- What stands while a page of a torn block is turned. -/
structure CtxE (w0 : World) (L cb m1 m2 m3 pb : Nat) (g : Geo) (N : Nat) (n : NSt) (FP : List Nat) (s : PS) (A A' : Option Addr) (d sp : List UInt8) (q8 q10 q11 : Nat) (m : UInt8) (b j : Int) (vs : List Value) (w : World) : Prop where
  c : NandC w L cb m1 m2 m3 (some ⟨pb, 0, none⟩) g N n
  p : Pow w pb FP s
  y1 : Byts w A d
  y2 : Byts w A' sp
  k : Blk w q10 84 [.int .i64 b, .int .i64 j]
  r : Blk w q11 82 vs
  mc : w.cell? ⟨q8, 0, none⟩ = some (.int .u8 (m.toNat : Int))
  bel : Below w0.heap.size w0 w
theorem CtxE.at7 {w0 w w' : World} {L cb m1 m2 m3 pb : Nat} {g : Geo} {N : Nat} {n : NSt} {FP : List Nat} {s : PS} {A A' : Option Addr} {d sp : List UInt8} {q8 q10 q11 : Nat} {m : UInt8} {b j : Int} {v1 v2 : Value} (h : CtxE w0 L cb m1 m2 m3 pb g N n FP s A A' d sp q8 q10 q11 m b j [v1, v2] w) (hg : w.grownBy w' (some m1)) :
    Hid (w'.cell? ⟨cb, 6, none⟩ = some (.map (some m1)) ∧ w'.cell? ⟨q10, 0, none⟩ = some (.int .i64 b) ∧ w'.cell? ⟨q10, 1, none⟩ = some (.int .i64 j) ∧ w'.cell? ⟨q11, 0, none⟩ = some v1 ∧ w'.cell? ⟨q11, 1, none⟩ = some v2) := by
  have ho := Only.of_grown hg
  have h1 := h.c.blk.only ho (by have := h.c.d1; simp; omega)
  have hm : ∃ D, w.heap[m1]? = some D ∧ ∀ c T q, D ≠ .cells c T q := by
    obtain ⟨f, ⟨D, ⟨es, clock, hb, r⟩, h2⟩, _⟩ := h.c.pages
    exact ⟨_, hb, fun c T q e => by cases e⟩
  obtain ⟨D, hD, hne⟩ := hm
  have n10 : q10 ∉ [m1] := fun e => by
    have e2 : q10 = m1 := by simpa using e
    have := h.k
    unfold Blk at this
    rw [e2, hD] at this
    cases this
    exact hne _ _ _ rfl
  have n11 : q11 ∉ [m1] := fun e => by
    have e2 : q11 = m1 := by simpa using e
    have := h.r
    unfold Blk at this
    rw [e2, hD] at this
    cases this
    exact hne _ _ _ rfl
  have h2 := h.k.only ho n10
  have h3 := h.r.only ho n11
  exact ⟨h1.cell 6 _ rfl, h2.cell 0 _ rfl, h2.cell 1 _ rfl, h3.cell 0 _ rfl, h3.cell 1 _ rfl⟩
theorem CtxE.below {w0 w w' : World} {L cb m1 m2 m3 pb : Nat} {g : Geo} {N : Nat} {n : NSt} {FP : List Nat} {s : PS} {A A' : Option Addr} {d sp : List UInt8} {q8 q10 q11 : Nat} {m : UInt8} {b j : Int} {vs : List Value} (h : CtxE w0 L cb m1 m2 m3 pb g N n FP s A A' d sp q8 q10 q11 m b j vs w) (hx : Below w.heap.size w w') : CtxE w0 L cb m1 m2 m3 pb g N n FP s A A' d sp q8 q10 q11 m b j vs w' :=
  ⟨h.c.below hx, h.p.below hx, h.y1.below hx, h.y2.below hx, h.k.below hx, h.r.below hx, (hx.cell (p := ⟨q8, 0, none⟩) (World.block_lt_of_cell? w _ h.mc)).trans h.mc, h.bel.trans (hx.mono h.bel.size)⟩

section
variable {w : World} {L cb m1 m2 m3 pb : Nat} {g : Geo} {N : Nat} {n : NSt} {FP : List Nat} {s : PS}

set_option maxHeartbeats 8000000 in
theorem nand_erase (h : NandC w L cb m1 m2 m3 (some ⟨pb, 0, none⟩) g N n) (hN : N ≤ 1000000000) (hp : Pow w pb FP s) (hd : (∀ x ∈ FP, x ∉ [cb, m1, m2, m3]) ∧ pb < L) (b : Int) (hb : -9223372036854775808 ≤ b ∧ b ≤ 9223372036854775807)
    (hdone : s.done ≤ 900000000000) {r : Int} {n' : NSt} {s' : PS} (hE : nErase g s n b = (r, n', s')) :
    Calls Try.prog 13 #[.pointer (some ⟨cb, 0, none⟩), .int .i64 b] w fun e w' => e = .returned (.int .i64 r) ∧ NandC w' L cb m1 m2 m3 (some ⟨pb, 0, none⟩) g (N + 40) n' ∧ Pow w' pb FP s' ∧ Only [m1, m2, m3, pb] w w' := by
  obtain ⟨w0, rfl⟩ : ∃ w0 : World, w0 = w := ⟨_, rfl⟩
  unfold nErase at hE
  by_cases hok : nOk g b 0
  · rw [if_pos hok] at hE
    have H1 := Lib.hid (nand_ask h b 0)
    rw [nAsk_pos hok] at H1
    have c5 := h.blk.cell 5 _ rfl
    have hpF := hp.head'
    have HST := Lib.hid (pow_step pb FP s w0 hp (by omega))
    have hcn : ∀ x ∈ [cb, m1, m2, m3], x ∉ [pb] := fun x hx hm => by simp at hm; subst hm; exact hd.1 _ hpF hx
    have HC1 := Lib.hid (fun (W : World) (ho : Only [pb] w0 W) => h.only ho hcn (fun x hx => by simp at hx; subst hx; exact hd.2))
    have HD := Lib.hid hd
    have HOK := Lib.hid hok
    have hgo := h.ok
    unfold Geo.ok at hgo
    obtain ⟨dd, hdd⟩ : ∃ k : Nat, g.d = (k : Int) := ⟨g.d.toNat, by omega⟩
    have hdl : 2 ≤ dd ∧ dd ≤ 32 := by omega
    have HDD := Lib.hid hdd
    have hbl : 0 ≤ b ∧ b < 64 := by unfold nOk at hok; omega
    have HG := Lib.hid hgo
    clear hgo h hp hd hcn hok hdd
    obtain ⟨tr, htr⟩ : ∃ x, s.torn = x := ⟨_, rfl⟩
    obtain ⟨di, hdi⟩ : ∃ x, s.did = x := ⟨_, rfl⟩
    rw [htr, hdi] at hE HST
    have HDT := Lib.hid (And.intro hdi htr)
    clear htr hdi
    have hnd := s.next_done_le
    cases tr with
    | true =>
      rw [if_pos rfl] at hE
      simp only [Prod.mk.injEq] at hE
      obtain ⟨rfl, hn', rfl⟩ := hE
      have HN' := Lib.hid hn'
      clear hn'
      go_enter Try.func13, Try.ntmps13
      go_upto_region 6 with (first | (go_at_call 40; refine H1.out.mono ?_; rintro e w' ⟨rfl, rfl⟩) | (go_at_call 41; refine HST.out.mono ?_; rintro e w1 ⟨rfl, hp1, ho1⟩))
      have hM := pow_mask pb FP s.next w1 hp1
      rw [s.next_mask] at hM
      have HM := Lib.hid hM
      have hc1 := HC1.out w1 ho1
      have d5 := hc1.blk.cell 5 _ rfl
      go_upto_region 7 with (go_at_call 43; refine HM.out.mono ?_; rintro e w' ⟨rfl, rfl⟩)
      have hba := below_alloc w1 (.cells #[.int .u8 (s.mask.toNat : Int)] 5)
      have hq8 := new_cell w1 [.int .u8 (s.mask.toNat : Int)] 5 (0, 0) 0 _ rfl
      have hc2 := hc1.below hba
      have hp2 := hp1.below hba
      have ho2 : Only [m1, pb] w0 (w1.alloc (.cells #[.int .u8 (s.mask.toNat : Int)] 5)) := (ho1.mono (by simp)).trans (Only.of_below hba _)
      have hz2 : w1.heap.size < (w1.alloc (.cells #[.int .u8 (s.mask.toNat : Int)] 5)).heap.size := by simp
      have hqm : w1.heap.size ∉ [cb, m1, m2, m3] := fun hm => Nat.lt_irrefl _ (hc1.lt _ hm)
      clear hM hba hc1 hp1 ho1 d5
      obtain ⟨q8, hq8e⟩ : ∃ q, w1.heap.size = q := ⟨_, rfl⟩
      rw [hq8e] at hq8 hz2 hqm ⊢
      generalize w1.alloc (.cells #[.int .u8 (s.mask.toNat : Int)] 5) = w2 at *
      have d3 := hc2.blk.cell 3 _ rfl
      rw [HDD.out] at d3
      obtain ⟨m, hm⟩ : ∃ m, s.mask = m := ⟨_, rfl⟩
      rw [hm] at hq8 HN'
      have HMM := Lib.hid hm
      clear hm
      go_upto_region 8 with fail
      go_loopw [41] (fun v41 wr => ∃ j : Nat, j ≤ dd ∧ v41 = .int .i64 (j : Int) ∧ NandC wr L cb m1 m2 m3 (some ⟨pb, 0, none⟩) g (N + j) ⟨pgTo (orP m) n.pg b j, n.nx, n.er⟩ ∧ Pow wr pb FP s.next ∧ wr.cell? ⟨q8, 0, none⟩ = some (.int .u8 (m.toNat : Int)) ∧ Only [m1, pb] w0 wr) (fun v41 _ => dd - (intOf v41).toNat)
      case atStart => exact ⟨0, Nat.zero_le _, rfl, by rw [pgTo_zero]; exact hc2, hp2, hq8, ho2⟩
      case round =>
        clear hc2 hp2 hq8 ho2 d3
        obtain ⟨j, hj, rfl, hc, hp, hmc, ho⟩ := hrel
        obtain ⟨wo, rfl⟩ : ∃ wo, wo = wr := ⟨_, rfl⟩
        by_cases hlt : j < dd
        · have hltI : (j : Int) < (dd : Int) := by omega
          have hjok : nOk g b (j : Int) := by have := HOK.out; have := HDD.out; unfold nOk at *; omega
          obtain ⟨kl, hkey⟩ := place_key b (j : Int) (wfOf hb) (wfOf (by omega))
          obtain ⟨f, hm1, hf⟩ := hc.pages
          have hfc := hf b (j : Int) hjok
          have hpgj : (pgTo (orP m) n.pg b j) b (j : Int) = n.pg b (j : Int) := pgTo_at _ _ _ _
          have hsz : ((n.pg b (j : Int)).1.length : Int) = g.e ∧ (n.pg b (j : Int)).2.length = 16 := by
            have := hc.n.sz b (j : Int) hjok
            simp only [hpgj] at this
            exact this
          simp only [hpgj] at hfc
          have hl6 : ∀ W, Below wo.heap.size wo W → (Instr.lookup 68 (.map (some m1)) (.agg #[.int .i64 b, .int .i64 (j : Int)]) true).run Try.prog W = .ok (.tuple #[(f (.agg #[.int .i64 b, .int .i64 (j : Int)])).getD (.agg #[.slice none 0 0, .slice none 0 0]), .bool (f (.agg #[.int .i64 b, .int .i64 (j : Int)])).isSome]) W := fun W hW =>
            (hm1.only (Only.of_below hW []) (by simp)).look placeKeyed Try.underlying68 (zeroC W) true hkey
          have hzc := zeroC
          go_upto_region 11 with fail
          have hb3 := below_alloc wo (.cells #[.int .i64 b, .int .i64 (j : Int)] 84)
          have hk3 := Blk.new wo [.int .i64 b, .int .i64 (j : Int)] 84
          have hz3 : wo.heap.size < (wo.alloc (.cells #[.int .i64 b, .int .i64 (j : Int)] 84)).heap.size := by simp
          have d6 := (hc.below hb3).blk.cell 6 _ rfl
          have hcbl := hc.lt cb (by simp)
          have HO := Lib.hid (And.intro hc (And.intro hp (And.intro hmc ho)))
          clear hm1 hf hc hp hmc ho hkey
          obtain ⟨q10, hq10⟩ : ∃ q, wo.heap.size = q := ⟨_, rfl⟩
          rw [hq10] at hk3 hz3 hcbl hb3 ⊢
          generalize wo.alloc (.cells #[.int .i64 b, .int .i64 (j : Int)] 84) = w3 at *
          have k0 := hk3.cell 0 _ rfl
          have k1 := hk3.cell 1 _ rfl
          have HQ10 := Lib.hid hq10
          have hb3' : Below wo.heap.size wo w3 := by rw [hq10]; exact hb3
          have HL6 := Lib.hid hl6
          have HB3 := Lib.hid hb3'
          clear hl6 hq10 hb3
          have HKE : Hid (∀ W, Below w3.heap.size w3 W → W.cell? ⟨cb, 6, none⟩ = some (.map (some m1)) ∧ W.cell? ⟨q10, 0, none⟩ = some (.int .i64 b) ∧ W.cell? ⟨q10, 1, none⟩ = some (.int .i64 (j : Int))) := fun W hW =>
            ⟨(hW.cell (p := ⟨cb, 6, none⟩) (by show cb < _; omega)).trans d6, (hW.cell (p := ⟨q10, 0, none⟩) (by show q10 < _; omega)).trans k0, (hW.cell (p := ⟨q10, 1, none⟩) (by show q10 < _; omega)).trans k1⟩
          rcases hfc with ⟨hf0, hv⟩ | ⟨A, c, A', c', hf1, hc1, hc2, hy1, hy2, hx1, hx2⟩
          · have l6 := HL6.out _ hb3'.drew
            have l6' := HL6.out _ (hb3'.trans ((below_alloc w3 (.cells #[.slice none 0 0, .slice none 0 0] 82)).drew.mono hb3'.size))
            rw [hf0] at l6 l6'
            simp only [if_true, Option.getD_none, Option.isSome_none] at l6 l6'
            have HV := Lib.hid hv
            clear hv hb3' hf0 hk3
            go_region_held3 (fun w' => w'.cell? ⟨cb, 6, none⟩ = some (.map (some m1)) ∧ w'.cell? ⟨q10, 0, none⟩ = some (.int .i64 b) ∧ w'.cell? ⟨q10, 1, none⟩ = some (.int .i64 (j : Int)))
              (first | exact ⟨d6, k0, k1⟩ | exact HKE.out _ (Below.refl _ _).drew | exact HKE.out _ (below_alloc w3 _).drew) (fail)
            all_goals
              obtain ⟨hc, hp, hmc, ho⟩ := HO.out
              have hX := HB3.out.trans ((below_alloc w3 (.cells #[.slice none 0 0, .slice none 0 0] 82)).drew.mono HB3.out.size)
              have hE2 : pgTo (orP m) n.pg b (j + 1) = pgTo (orP m) n.pg b j := by
                rw [← pgTo_succ, HV.out, orP_blank, ← HV.out, ← hpgj, upP_self]
              have hcX := (hc.below hX).mono (Nat.le_succ (N + j))
              rw [← hE2] at hcX
              have HF := Lib.hid (And.intro hcX (And.intro (hp.below hX) (And.intro ((hX.cell (p := ⟨q8, 0, none⟩) (World.block_lt_of_cell? wo _ hmc)).trans hmc) (ho.trans (Only.of_below hX _)))))
              clear hc hp hmc ho hX hcX hE2 d6 k0 k1 l6 l6' HKE HL6
              generalize (w3.alloc (.cells #[.slice none 0 0, .slice none 0 0] 82)).drew = w4 at *
              go_wp2_with fail
              go_roundw
              case rel => exact ⟨j + 1, by omega, by go_num, HF.out.1, HF.out.2.1, HF.out.2.2.1, HF.out.2.2.2⟩
              case measure => simp [intOf]; omega
          · obtain ⟨dn, hdn⟩ : ∃ k, (n.pg b (j : Int)).1.length = k := ⟨_, rfl⟩
            obtain ⟨sn, hsn⟩ : ∃ k, (n.pg b (j : Int)).2.length = k := ⟨_, rfl⟩
            obtain ⟨D, hD⟩ : ∃ D, (n.pg b (j : Int)).1 = D := ⟨_, rfl⟩
            obtain ⟨S, hS⟩ : ∃ S, (n.pg b (j : Int)).2 = S := ⟨_, rfl⟩
            rw [hdn, hsn] at hf1
            have hdl : dn ≤ 256 := by have := HG.out; omega
            have hsl : sn ≤ 256 := by omega
            rw [hD] at hdn hy1
            rw [hS] at hsn hy2
            have hov : orP m (n.pg b (j : Int)) = (D.map (· ||| m), S.map (· ||| m)) := by unfold orP; rw [hD, hS]
            have HSZ := Lib.hid hsz
            have HDS : Hid (D = (n.pg b (j : Int)).1 ∧ S = (n.pg b (j : Int)).2) := ⟨hD.symm, hS.symm⟩
            have HOV := Lib.hid hov
            have HDN := Lib.hid (And.intro hdn hsn)
            have l6 := HL6.out _ hb3'.drew
            have l6' := HL6.out _ (hb3'.trans ((below_alloc w3 (.cells [.slice A dn c, .slice A' sn c'].toArray 82 (0, 0))).drew.mono hb3'.size))
            have l6'' := HL6.out _ (hb3'.trans ((below_alloc w3 (.cells #[.slice none 0 0, .slice none 0 0] 82)).drew.mono hb3'.size))
            rw [hf1] at l6 l6' l6''
            simp only [if_true, Option.getD_some, Option.isSome_some] at l6 l6' l6''
            have hy1' := Lib.hid (hy1.below hb3')
            have hy2' := Lib.hid (hy2.below hb3')
            have HK3 := Lib.hid hk3
            clear hb3' hf1 hk3 hD hS hdn hsn hov hsz hy1 hy2
            go_region_held3 (fun w' => w'.cell? ⟨cb, 6, none⟩ = some (.map (some m1)) ∧ w'.cell? ⟨q10, 0, none⟩ = some (.int .i64 b) ∧ w'.cell? ⟨q10, 1, none⟩ = some (.int .i64 (j : Int)))
              (first | exact ⟨d6, k0, k1⟩ | exact HKE.out _ (Below.refl _ _).drew | exact HKE.out _ (below_alloc w3 _).drew) (fail)
            all_goals
              obtain ⟨hc, hp, hmc, ho⟩ := HO.out
              have hw3 := (below_alloc w3 (.cells [.slice A dn c, .slice A' sn c'].toArray 82 (0, 0))).drew
              have hX0 := HB3.out.trans (hw3.mono HB3.out.size)
              have hC : CtxE wo L cb m1 m2 m3 pb g (N + j) ⟨pgTo (orP m) n.pg b j, n.nx, n.er⟩ FP s.next A A' D S q8 q10 w3.heap.size m b (j : Int) [.slice A dn c, .slice A' sn c'] (w3.alloc (.cells [.slice A dn c, .slice A' sn c'].toArray 82 (0, 0))).drew :=
                ⟨hc.below hX0, hp.below hX0, hy1'.out.below hw3, hy2'.out.below hw3, HK3.out.below hw3, (Blk.new w3 _ _).drew, (hX0.cell (p := ⟨q8, 0, none⟩) (World.block_lt_of_cell? wo _ hmc)).trans hmc, hX0⟩
              clear hc hp hmc ho hw3 hX0 d6 k0 k1 l6 l6' l6'' HKE HL6 hy1' hy2' HK3
              generalize (w3.alloc (.cells [.slice A dn c, .slice A' sn c'].toArray 82 (0, 0))).drew = w4 at *
              obtain ⟨q11, hq11⟩ : ∃ q, w3.heap.size = q := ⟨_, rfl⟩
              rw [hq11] at hC ⊢
              clear hq11
              have hNm : N + j < maxLen := by unfold maxLen; omega
              obtain ⟨kl, hkey⟩ := place_key b (j : Int) (wfOf hb) (wfOf (by omega))
              have HLL := Lib.hid (And.intro (show D.length ≤ 100000 by rw [HDN.out.1]; omega) (show S.length ≤ 100000 by rw [HDN.out.2]; omega))
              have hLw : L ≤ w4.heap.size := hC.c.le
              go_upto_region 14 with fail
              replace hC := hC.below (Below.refl _ _).drew
              have hX := (Below.refl w4.heap.size w4).drew
              have c6 := hC.c.blk.cell 6 _ rfl; have k0 := hC.k.cell 0 _ rfl; have k1 := hC.k.cell 1 _ rfl; have r0 := hC.r.cell 0 _ rfl; have r1 := hC.r.cell 1 _ rfl
              go_region_held3 (fun w' => w'.cell? ⟨cb, 6, none⟩ = some (.map (some m1)) ∧ w'.cell? ⟨q10, 0, none⟩ = some (.int .i64 b) ∧ w'.cell? ⟨q10, 1, none⟩ = some (.int .i64 (j : Int)) ∧ w'.cell? ⟨q11, 0, none⟩ = some (.slice A dn c) ∧ w'.cell? ⟨q11, 1, none⟩ = some (.slice A' sn c'))
                (first | (with_reducible exact ⟨c6, k0, k1, r0, r1⟩) | (with_reducible exact HS7.out))
                (first
                | (go_at_call 47; (with_reducible refine (turned_orE A dn c D _ hC.y1 HDN.out.1.symm HLL.out.1 m q8 hC.mc).mono ?_); rintro e w5 ⟨v1, rfl, q1, rfl, hq1, hv1, hx⟩; replace hX := hX.trans (hx.mono hX.size); have hX3 := hX.size; replace hC := hC.below hx; have c6 := hC.c.blk.cell 6 _ rfl; have k0 := hC.k.cell 0 _ rfl; have k1 := hC.k.cell 1 _ rfl; have r0 := hC.r.cell 0 _ rfl; have r1 := hC.r.cell 1 _ rfl; clear hx)
                | (go_at_call 47; (with_reducible refine (turned_orE A' sn c' S _ hC.y2 HDN.out.2.symm HLL.out.2 m q8 hC.mc).mono ?_); rintro e w6 ⟨v2, rfl, q2, rfl, hq2, hv2, hx⟩; have hv12 := hv1.below hx; replace hX := hX.trans (hx.mono hX.size); replace hC := hC.below hx; have c6 := hC.c.blk.cell 6 _ rfl; have k0 := hC.k.cell 0 _ rfl; have k1 := hC.k.cell 1 _ rfl; have r0 := hC.r.cell 0 _ rfl; have r1 := hC.r.cell 1 _ rfl; clear hx; obtain ⟨f1, hm1, hf1⟩ := hC.c.pages; obtain ⟨w7, hput, hm7, hg7⟩ := hm1.put (val := .agg #[.slice (some ⟨q1, 0, none⟩) dn dn, .slice (some ⟨q2, 0, none⟩) sn sn]) placeKeyed Try.underlying68 hNm hkey; have HS7 := hC.at7 hg7))
              all_goals
                have ho7 := Only.of_grown hg7
                have hX6 := hC.bel
                have e1 : (D.map (· ||| m)).length = dn := by rw [List.length_map]; exact HDN.out.1
                have e2 : (S.map (· ||| m)).length = sn := by rw [List.length_map]; exact HDN.out.2
                have hput2 := hC.c.put1 b (j : Int) (D.map (· ||| m)) (S.map (· ||| m)) hf1 hv12.read (fun x e => by cases e; exact ⟨Nat.le_trans hLw hq1, rfl⟩) ⟨by rw [e1]; exact Nat.le_refl _, by unfold maxLen; omega⟩ hv2.read (fun x e => by cases e; exact ⟨Nat.le_trans (Nat.le_trans hLw hX3) hq2, rfl⟩) ⟨by rw [e2]; exact Nat.le_refl _, by unfold maxLen; omega⟩ (by rw [e1, e2]; exact hm7) hg7 (by have := HSZ.out; rw [e1, e2]; exact ⟨by rw [← HDN.out.1, HDS.out.1]; exact this.1, by rw [← HDN.out.2, HDS.out.2]; exact this.2⟩)
                have hE3 : upP (pgTo (orP m) n.pg b j) b (j : Int) (D.map (· ||| m), S.map (· ||| m)) = pgTo (orP m) n.pg b (j + 1) := by rw [← HOV.out, pgTo_succ]
                rw [hE3] at hput2
                have hm8 : q8 ≠ m1 := fun e => hqm (by simp [e])
                have hq8l := World.block_lt_of_cell? _ _ hC.mc
                have HF := Lib.hid (And.intro hput2 (And.intro (hC.p.only ho7 (fun x hx hm => HD.out.1 x hx (by simp at hm ⊢; omega))) (And.intro ((ho7.cell (p := ⟨q8, 0, none⟩) hq8l (by simpa using hm8)).trans hC.mc) ((HO.out.2.2.2.trans (Only.of_below hX6 _)).trans (ho7.mono (by simp))))))
                clear hput2 hput hC hv1 hv12 hv2 hX hX6 hm1 hf1 hm7 hg7 ho7 c6 k0 k1 r0 r1 HS7 hE3 hm8 hq8l
                go_wp2_with fail
                go_roundw
                case rel => exact ⟨j + 1, by omega, by go_num, HF.out.1, HF.out.2.1, HF.out.2.2.1, HF.out.2.2.2⟩
                case measure => simp [intOf]; omega
        · obtain rfl : j = dd := by omega
          have hltI : ¬ (j : Int) < (j : Int) := by omega
          have hc' : NandC wo L cb m1 m2 m3 (some ⟨pb, 0, none⟩) g (N + 40) n' := by
            have h1 := (hc.mono (M := N + 40) (by omega)).congr (n' := n') (fun x y hxy => by
              rw [← HN'.out]
              show (if x = b then orP m (n.pg x y) else n.pg x y) = pgTo (orP m) n.pg b j x y
              unfold pgTo
              have := HDD.out
              unfold nOk at hxy
              by_cases e : x = b
              · rw [if_pos e, if_pos ⟨e, by omega, by omega⟩]
              · rw [if_neg e, if_neg (fun h => e h.1)]) (by rw [← HN'.out]) (by rw [← HN'.out])
            exact h1
          have HF := Lib.hid (And.intro hc' (And.intro hp (ho.mono (S' := [m1, m2, m3, pb]) (by simp))))
          clear hc hp hmc ho hc'
          go_wp2_with fail
          go_ret
          exact ⟨rfl, HF.out.1, HF.out.2.1, HF.out.2.2⟩
    | false =>
      rw [if_neg (by decide)] at hE
      cases di with
      | false =>
        rw [if_pos rfl] at hE
        simp only [Prod.mk.injEq] at hE
        obtain ⟨rfl, rfl, rfl⟩ := hE
        go_enter Try.func13, Try.ntmps13
        go_wp2_with (first | (go_at_call 40; refine H1.out.mono ?_; rintro e w' ⟨rfl, rfl⟩) | (go_at_call 41; refine HST.out.mono ?_; rintro e w1 ⟨rfl, hp1, ho1⟩))
        go_ret
        exact ⟨rfl, (HC1.out _ ho1).mono (by omega), hp1, ho1.mono (by simp)⟩
      | true =>
        rw [if_neg (by decide)] at hE
        obtain ⟨fa, hfa⟩ : ∃ x, s.next.failing = x := ⟨_, rfl⟩
        rw [hfa] at hE
        have HFA := Lib.hid hfa
        clear hfa
        cases fa with
        | true =>
          rw [if_pos rfl] at hE
          simp only [Prod.mk.injEq] at hE
          obtain ⟨rfl, rfl, rfl⟩ := hE
          go_enter Try.func13, Try.ntmps13
          go_wp2_with (first | (go_at_call 40; refine H1.out.mono ?_; rintro e w' ⟨rfl, rfl⟩) | (go_at_call 41; refine HST.out.mono ?_; rintro e w1 ⟨rfl, hp1, ho1⟩; have d5 := (HC1.out w1 ho1).blk.cell 5 _ rfl) | (go_at_call 45; refine (pow_fails pb FP s.next w1 hp1 (by omega)).mono ?_; rintro e w' ⟨rfl, mm, rfl⟩; rw [HFA.out]))
          go_ret
          exact ⟨rfl, ((HC1.out _ ho1).drewN mm).mono (by omega), hp1.below (below_drewN (Below.refl _ _) mm), (ho1.drewN mm).mono (by simp)⟩
        | false =>
          rw [if_neg (by decide)] at hE
          simp only [Prod.mk.injEq] at hE
          obtain ⟨rfl, hn', rfl⟩ := hE
          have HN' := Lib.hid hn'
          clear hn'
          go_enter Try.func13, Try.ntmps13
          go_upto_region 21 with (first | (go_at_call 40; refine H1.out.mono ?_; rintro e w' ⟨rfl, rfl⟩) | (go_at_call 41; refine HST.out.mono ?_; rintro e w1 ⟨rfl, hp1, ho1⟩; have d5 := (HC1.out w1 ho1).blk.cell 5 _ rfl) | (go_at_call 45; refine (pow_fails pb FP s.next w1 hp1 (by omega)).mono ?_; rintro e w' ⟨rfl, mm, rfl⟩; rw [HFA.out]))
          have hc2 := (HC1.out _ ho1).drewN mm
          have hp2 := hp1.below (w' := w1.drewN mm) (below_drewN (Below.refl _ _) mm)
          have ho2 : Only [m1, pb] w0 (w1.drewN mm) := (ho1.drewN mm).mono (by simp)
          clear hp1 ho1 d5
          generalize w1.drewN mm = w2 at *
          have d3 := hc2.blk.cell 3 _ rfl
          rw [HDD.out] at d3
          go_upto_region 22 with fail
          go_loopw [87] (fun v87 wr => ∃ j : Nat, j ≤ dd ∧ v87 = .int .i64 (j : Int) ∧ NandC wr L cb m1 m2 m3 (some ⟨pb, 0, none⟩) g N ⟨pgTo (fun _ => blankP g) n.pg b j, n.nx, n.er⟩ ∧ Pow wr pb FP s.next ∧ Only [m1, pb] w0 wr) (fun v87 _ => dd - (intOf v87).toNat)
          case atStart => exact ⟨0, Nat.zero_le _, rfl, by rw [pgTo_zero]; exact hc2, hp2, ho2⟩
          case round =>
            clear hc2 hp2 ho2 d3
            obtain ⟨j, hj, rfl, hc, hp, ho⟩ := hrel
            obtain ⟨wo, rfl⟩ : ∃ wo, wo = wr := ⟨_, rfl⟩
            by_cases hlt : j < dd
            · have hltI : (j : Int) < (dd : Int) := by omega
              obtain ⟨kl, hkey⟩ := place_key b (j : Int) (wfOf hb) (wfOf (by omega))
              obtain ⟨f1, hm1, hf1⟩ := hc.pages
              have c6 := hc.blk.cell 6 _ rfl
              have HF := Lib.hid (And.intro hc (And.intro hp (And.intro ho hf1)))
              clear hc hp ho hf1
              go_wp2_with (refine wpList_wanted (by rfl) fun K hK => wp_delete_is _ _ rfl placeKeyed Try.underlying68 rfl hm1 rfl hkey ?_; intro w5 hm5 hg5; refine hK _ _ ?_; clear hK K)
              obtain ⟨hc, hp, ho, hf1⟩ := HF.out
              have ho5 := Only.of_grown hg5
              have hd1 := hc.del1 b (j : Int) hf1 hm5 hg5
              have hE3 : upP (pgTo (fun _ => blankP g) n.pg b j) b (j : Int) (blankP g) = pgTo (fun _ => blankP g) n.pg b (j + 1) := pgTo_succ (fun _ => blankP g) n.pg b j
              rw [hE3] at hd1
              go_roundw
              case rel => exact ⟨j + 1, by omega, by go_num, hd1, hp.only ho5 (fun x hx hm => HD.out.1 x hx (by simp at hm ⊢; omega)), ho.trans (ho5.mono (by simp))⟩
              case measure => simp [intOf]; omega
            · obtain rfl : j = dd := by omega
              have hltI : ¬ (j : Int) < (j : Int) := by omega
              obtain ⟨kl2, hkey2⟩ := place_key b 0 (wfOf hb) (by decide)
              obtain ⟨f2, hm2, hf2⟩ := hc.cnts
              have c7 := hc.blk.cell 7 _ rfl
              have hNm : N < maxLen := by unfold maxLen; omega
              have HF := Lib.hid (And.intro hc (And.intro hp (And.intro ho hf2)))
              clear hc hp ho hf2
              go_upto_region 27 with (at_mapUpdate; refine wpList_wanted (by rfl) fun K hK => wp_mapUpdate_is _ _ _ rfl placeKeyed Try.underlying69 rfl hm2 hNm rfl rfl hkey2 ?_; intro w5 hm5 hg5; refine hK _ _ ?_; clear hK K)
              obtain ⟨hc, hp, ho, hf2⟩ := HF.out
              have ho5 := Only.of_grown hg5
              have hc5 := hc.cnt1 b 0 hf2 hm5 hg5 HOK.out.1 (by have := HDD.out; omega)
              have hp5 := hp.only ho5 (fun x hx hm => HD.out.1 x hx (by simp at hm ⊢; omega))
              have hoA : Only [m1, m2, m3, pb] w0 w5 := (ho.mono (by simp)).trans (ho5.mono (by simp))
              clear hc hp ho hf2 hm2 hm5 hg5 ho5 c7 HF
              obtain ⟨f3, hmap, hf3⟩ := hc5.ers
              have hwb := wfOf hb
              have hmapd : MapIs w5.drew Try.prog 84 m3 (N + 1) f3 := hmap.stay rfl
              have hlook := hmapd.look placeKeyed Try.underlying69 (zeroInt w5.drew) false hkey2
              rw [hf3 _ hwb] at hlook
              simp only [Bool.false_eq_true, if_false] at hlook
              obtain ⟨st, w6, w7, hent, hg6, hlook6, hsto, hg7, hmap7⟩ := hmapd.bump2 placeLaw Try.underlying69 zeroInt (by unfold maxLen; omega) (.int .i64 (n.er b + 1)) hkey2
              rw [hf3 _ hwb] at hent hlook6
              simp only at hent hlook6 hlook
              have c8 := hc5.blk.cell 8 _ rfl
              have heb : 0 ≤ n.er b ∧ n.er b ≤ ((N + 1 : Nat) : Int) := hc5.n.er b
              have hwc : IntKind.i64.wrap (n.er b + 1) = n.er b + 1 := IntWalk.i64_in _ (by omega)
              have c8d : w5.drew.cell? ⟨cb, 8, none⟩ = some (.map (some m3)) := c8
              have hcl : cb < w5.heap.size := hc5.lt cb (by simp)
              have hne : some cb ≠ some m3 := by intro e; cases e; exact hc5.d1.2.2 rfl
              have c86 := (hg6.cell_far ⟨cb, 8, none⟩ hcl hne).trans c8d
              have c87 := (hg7.cell_far ⟨cb, 8, none⟩ (Nat.lt_of_lt_of_le hcl hg6.size) hne).trans c86
              have HE := Lib.hid heb
              clear heb
              go_region_held3 (fun w' => w'.cell? ⟨cb, 8, none⟩ = some (.map (some m3))) (first | (with_reducible exact c8) | (with_reducible exact c8d) | (with_reducible exact c86) | (with_reducible exact c87))
                (first | go_at_call 0)
              all_goals
                have ho7 : Only [m3] w5 w7 := (((Only.refl [m3] w5).drew).trans (Only.of_grown hg6)).trans (Only.of_grown hg7)
                have hc7 := hc5.era1 b hf3 hmap7 ho7 HOK.out.1
                have hcF : NandC w7 L cb m1 m2 m3 (some ⟨pb, 0, none⟩) g (N + 40) n' := (hc7.mono (M := N + 40) (by omega)).congr (n' := n') (fun x y hxy => by
                    rw [← HN'.out]
                    show (if x = b then blankP g else n.pg x y) = pgTo (fun _ => blankP g) n.pg b j x y
                    unfold pgTo
                    have := HDD.out
                    unfold nOk at hxy
                    by_cases e : x = b
                    · rw [if_pos e, if_pos ⟨e, by omega, by omega⟩]
                    · rw [if_neg e, if_neg (fun h => e h.1)]) (by rw [← HN'.out]) (by rw [← HN'.out])
                have hpF := hp5.only ho7 (fun x hx hm => HD.out.1 x hx (by simp at hm ⊢; omega))
                have HF := Lib.hid (And.intro hcF (And.intro hpF (hoA.trans (ho7.mono (by simp)))))
                clear hc5 hc7 hcF hpF hmap hmapd hmap7 hlook hlook6 hent hsto c8 c8d c86 c87 hf3 hp5 hg6 hg7 ho7 hoA
                go_wp2_with fail
                go_ret
                exact ⟨rfl, HF.out.1, HF.out.2.1, HF.out.2.2⟩
  · rw [if_neg hok] at hE
    simp only [Prod.mk.injEq] at hE
    obtain ⟨rfl, rfl, rfl⟩ := hE
    have H1 := Lib.hid (nand_ask h b 0)
    rw [nAsk_neg hok] at H1
    have HF := Lib.hid (And.intro (h.mono (M := N + 40) (by omega)) hp)
    clear h hp
    go_enter Try.func13, Try.ntmps13
    go_wp2_with (go_at_call 40; refine H1.out.mono ?_; rintro e w' ⟨rfl, rfl⟩)
    go_ret
    exact ⟨rfl, HF.out.1, HF.out.2, Only.refl _ _⟩
end
end Go.Proofs.Ytionjddcahgpkaa
