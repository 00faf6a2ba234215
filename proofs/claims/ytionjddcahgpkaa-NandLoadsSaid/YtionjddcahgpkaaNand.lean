/- The contracts of package nand: a chip of pages as it lies in memory; what is asked, and read. -/
import Derived.Test.YtionjddcahgpkaaNandP
import Derived.Test.YtionjddcahgpkaaNandT
import Derived.Test.YtionjddcahgpkaaMapInc
import Derived.Test.YtionjddcahgpkaaRep
import Derived.Test.YtionjddcahgpkaaPowerF
import Derived.Deep.RegionHeld3
import Derived.Carry
set_option linter.unusedVariables false
set_option maxRecDepth 100000
set_option linter.unusedSimpArgs false
namespace Go.Proofs.Ytionjddcahgpkaa
open Go.RowKit
open Go.Maps (Keyed)

theorem Blk.below {w w' : World} {b : Nat} {T : TypeId} {cs : List Value} (h : Blk w b T cs) (hb : Below w.heap.size w w') : Blk w' b T cs := h.stay (hb.block b h.lt)
theorem placeLaw : WideMaps.KeyLaw Try.prog 84 := deep_law_gate (by kernel_rfl) (of_decide_eq_true (by kernel_rfl)) (of_decide_eq_true (by kernel_rfl)) (by kernel_rfl) (by kernel_rfl)
theorem placeKeyed : Keyed Try.prog 84 := Keyed.of_law placeLaw
theorem wfOf {x : Int} (hx : -9223372036854775808 ≤ x ∧ x ≤ 9223372036854775807) : (Lit.int .i64 x).wf = true := by
  simp [Lit.wf, IntKind.min, IntKind.max, IntKind.signed, IntKind.bits]; omega
theorem place_key (x y : Int) (h : (Lit.int .i64 x).wf = true) (h' : (Lit.int .i64 y).wf = true) : ∃ kl, keyOf Try.prog 84 (.agg #[.int .i64 x, .int .i64 y]) = some kl :=
  key_struct2 (of_decide_eq_true (by kernel_rfl)) Try.underlying84 (by kernel_rfl) (by kernel_rfl) (by kernel_rfl) (by kernel_rfl) rfl rfl rfl rfl Try.underlying3 (by kernel_rfl) x y h h'
theorem zeroC (w : World) : (zeroValue 82).run Try.prog w = .ok (.agg #[.slice none 0 0, .slice none 0 0]) w := by kernel_rfl
theorem zeroInt (w : World) : (zeroValue 3).run Try.prog w = .ok (.int .i64 0) w := by kernel_rfl

theorem nAsk_pos {g : Geo} {b p : Int} (h : nOk g b p) : nAsk g b p = 0 := if_pos h
theorem nAsk_neg {g : Geo} {b p : Int} (h : ¬ nOk g b p) : nAsk g b p = 1 := if_neg h

/-- A row of the call's own, or one that is full. -/
def RowF (w : World) (B : Nat) (v : Value) (l : List UInt8) : Prop := Own w B v l ∨ ∃ q, v = .slice (some ⟨q, 0, none⟩) l.length l.length ∧ MemC w q l.length l ∧ B ≤ q ∧ l.length ≤ 1000000
theorem RowF.byts {w : World} {B : Nat} {v : Value} {l : List UInt8} (h : RowF w B v l) : ∃ A c, v = .slice A l.length c ∧ (l.length ≤ c ∧ c ≤ maxLen) ∧ Byts w A l ∧ ∀ x, A = some x → B ≤ x.block := by
  rcases h with h | ⟨q, rfl, hm, hq, hl⟩
  · obtain ⟨A, c, e, hc, hb, hx⟩ := h.byts
    exact ⟨A, c, e, hc, hb, fun x e => (hx x e).1⟩
  · exact ⟨_, _, rfl, ⟨Nat.le_refl _, by unfold maxLen; omega⟩, hm.read, fun x e => by cases e; exact hq⟩
theorem RowF.below {w w' : World} {B : Nat} {v : Value} {l : List UInt8} (h : RowF w B v l) (hb : Below w.heap.size w w') : RowF w' B v l := by
  rcases h with h | ⟨q, rfl, hm, hq, hl⟩
  · exact Or.inl (h.below hb)
  · exact Or.inr ⟨q, rfl, hm.below hb, hq, hl⟩
theorem RowF.mono {w : World} {B B' : Nat} {v : Value} {l : List UInt8} (h : RowF w B v l) (hB : B' ≤ B) : RowF w B' v l := by
  rcases h with h | ⟨q, rfl, hm, hq, hl⟩
  · exact Or.inl (h.mono hB)
  · exact Or.inr ⟨q, rfl, hm, Nat.le_trans hB hq, hl⟩

theorem RowF.only {w w' : World} {B : Nat} {v : Value} {l : List UInt8} {S : List Nat} (h : RowF w B v l) (ho : Only S w w') (hS : ∀ x ∈ S, x < B) : RowF w' B v l := by
  rcases h with h | ⟨q, rfl, hm, hq, hl⟩
  · exact Or.inl (h.only ho (fun x hx hm => by have := hS x hm; have := (h.lt hx).1; omega))
  · exact Or.inr ⟨q, rfl, hm.only ho (fun hm => by have := hS _ hm; omega), hq, hl⟩

/-- What the map of pages holds at a key. -/
def Cont (w : World) (L : Nat) (o : Option Value) (v bl : List UInt8 × List UInt8) : Prop :=
  (o = none ∧ v = bl) ∨ ∃ A c A' c', o = some (.agg #[.slice A v.1.length c, .slice A' v.2.length c']) ∧ (v.1.length ≤ c ∧ c ≤ maxLen) ∧ (v.2.length ≤ c' ∧ c' ≤ maxLen) ∧ Byts w A v.1 ∧ Byts w A' v.2 ∧ (∀ x, A = some x → L ≤ x.block ∧ x.off = 0) ∧ (∀ x, A' = some x → L ≤ x.block ∧ x.off = 0)
theorem Cont.only {w w' : World} {L : Nat} {o : Option Value} {v bl : List UInt8 × List UInt8} {S : List Nat} (h : Cont w L o v bl) (ho : Only S w w') (hS : ∀ x ∈ S, x < L) : Cont w' L o v bl := by
  rcases h with h | ⟨A, c, A', c', h1, h2, h3, h4, h5, h6, h7⟩
  · exact Or.inl h
  · refine Or.inr ⟨A, c, A', c', h1, h2, h3, h4.only ho (fun x e h0 hm => ?_), h5.only ho (fun x e h0 hm => ?_), h6, h7⟩
    · have := hS _ hm; have := (h6 x e).1; omega
    · have := hS _ hm; have := (h7 x e).1; omega

/-- A chip at block cb, its maps at m1, m2, m3; what its pages have lies from block L on. -/
structure NandC (w : World) (L cb m1 m2 m3 : Nat) (pp : Option Addr) (g : Geo) (N : Nat) (n : NSt) : Prop where
  blk : Blk w cb 71 [.int .i64 g.a, .int .i64 g.b, .int .i64 g.c, .int .i64 g.d, .int .i64 g.e, .pointer pp, .map (some m1), .map (some m2), .map (some m3)]
  pages : ∃ f, MapIs w Try.prog 84 m1 N f ∧ ∀ b p, nOk g b p → Cont w L (f (.agg #[.int .i64 b, .int .i64 p])) (n.pg b p) (blankP g)
  cnts : ∃ f, MapIs w Try.prog 84 m2 N f ∧ ∀ b, (Lit.int .i64 b).wf = true → (f (.agg #[.int .i64 b, .int .i64 0])).getD (.int .i64 0) = .int .i64 (n.nx b)
  ers : ∃ f, MapIs w Try.prog 84 m3 N f ∧ ∀ b, (Lit.int .i64 b).wf = true → (f (.agg #[.int .i64 b, .int .i64 0])).getD (.int .i64 0) = .int .i64 (n.er b)
  n : NOk g n N
  ok : g.ok
  d1 : cb ≠ m1 ∧ cb ≠ m2 ∧ cb ≠ m3
  d2 : m1 ≠ m2 ∧ m1 ≠ m3 ∧ m2 ≠ m3
  up : ∀ x ∈ [cb, m1, m2, m3], x < L
  le : L ≤ w.heap.size

section
variable {w w' : World} {L cb m1 m2 m3 : Nat} {pp : Option Addr} {g : Geo} {N : Nat} {n : NSt} {S : List Nat}
theorem NandC.only (h : NandC w L cb m1 m2 m3 pp g N n) (ho : Only S w w') (hn : ∀ x ∈ [cb, m1, m2, m3], x ∉ S) (hS : ∀ x ∈ S, x < L) : NandC w' L cb m1 m2 m3 pp g N n := by
  obtain ⟨h1, ⟨f, h2, h2'⟩, ⟨f3, h3, h3'⟩, ⟨f4, h4, h4'⟩, h5, h6, h7, h8, h9, h10⟩ := h
  exact ⟨h1.only ho (hn cb (by simp)), ⟨f, h2.only ho (hn m1 (by simp)), fun b p hb => (h2' b p hb).only ho hS⟩, ⟨f3, h3.only ho (hn m2 (by simp)), h3'⟩, ⟨f4, h4.only ho (hn m3 (by simp)), h4'⟩, h5, h6, h7, h8, h9, Nat.le_trans h10 ho.size⟩
theorem NandC.below (h : NandC w L cb m1 m2 m3 pp g N n) (hb : Below w.heap.size w w') : NandC w' L cb m1 m2 m3 pp g N n :=
  h.only (Only.of_below hb []) (fun x _ => by simp) (fun x hx => by cases hx)
theorem NandC.lt (h : NandC w L cb m1 m2 m3 pp g N n) : ∀ x ∈ [cb, m1, m2, m3], x < w.heap.size := by
  obtain ⟨h1, ⟨f, h2, h2'⟩, ⟨f3, h3, h3'⟩, ⟨f4, h4, h4'⟩, h5⟩ := h
  intro x hx
  simp at hx
  rcases hx with rfl | rfl | rfl | rfl
  · exact h1.lt
  · exact h2.lt
  · exact h3.lt
  · exact h4.lt
theorem NandC.drewN (h : NandC w L cb m1 m2 m3 pp g N n) (k : Nat) : NandC (w.drewN k) L cb m1 m2 m3 pp g N n := h.below (below_drewN (Below.refl _ _) k)
theorem NandC.mono (h : NandC w L cb m1 m2 m3 pp g N n) {M : Nat} (hm : N ≤ M) : NandC w L cb m1 m2 m3 pp g M n := by
  obtain ⟨h1, ⟨f, h2, h2'⟩, ⟨f3, h3, h3'⟩, ⟨f4, h4, h4'⟩, h5, h6, h7, h8, h9, h10⟩ := h
  exact ⟨h1, ⟨f, h2.mono hm, h2'⟩, ⟨f3, h3.mono hm, h3'⟩, ⟨f4, h4.mono hm, h4'⟩, h5.mono hm, h6, h7, h8, h9, h10⟩

set_option maxHeartbeats 1000000 in
theorem nand_ask (h : NandC w L cb m1 m2 m3 pp g N n) (b p : Int) :
    Calls Try.prog 40 #[.pointer (some ⟨cb, 0, none⟩), .int .i64 b, .int .i64 p] w fun e w' => e = .returned (.int .i64 (nAsk g b p)) ∧ w = w' := by
  have c2 := h.blk.cell 2 _ rfl
  have c3 := h.blk.cell 3 _ rfl
  by_cases h1 : b < 0
  · have E := Lib.hid (show nAsk g b p = 1 from nAsk_neg (by unfold nOk; omega))
    rw [E.out]
    go_enter Try.func40, Try.ntmps40
    go_wp2_with fail
    go_ret
    exact ⟨rfl, rfl⟩
  · by_cases h2 : g.c ≤ b
    · have E := Lib.hid (show nAsk g b p = 1 from nAsk_neg (by unfold nOk; omega))
      rw [E.out]
      go_enter Try.func40, Try.ntmps40
      go_wp2_with fail
      go_ret
      exact ⟨rfl, rfl⟩
    · by_cases h3 : p < 0
      · have E := Lib.hid (show nAsk g b p = 1 from nAsk_neg (by unfold nOk; omega))
        rw [E.out]
        go_enter Try.func40, Try.ntmps40
        go_wp2_with fail
        go_ret
        exact ⟨rfl, rfl⟩
      · by_cases h4 : g.d ≤ p
        · have E := Lib.hid (show nAsk g b p = 1 from nAsk_neg (by unfold nOk; omega))
          rw [E.out]
          go_enter Try.func40, Try.ntmps40
          go_wp2_with fail
          go_ret
          exact ⟨rfl, rfl⟩
        · have E := Lib.hid (show nAsk g b p = 0 from nAsk_pos (by unfold nOk; omega))
          rw [E.out]
          go_enter Try.func40, Try.ntmps40
          go_wp2_with fail
          go_ret
          exact ⟨rfl, rfl⟩
theorem nand_ask_nil (b p : Int) (w : World) :
    Calls Try.prog 40 #[.pointer none, .int .i64 b, .int .i64 p] w fun e w' => e = .returned (.int .i64 2) ∧ w = w' := by
  go_enter Try.func40, Try.ntmps40
  go_wp2_with fail
  go_ret
  exact ⟨rfl, rfl⟩

theorem nand_programmed (h : NandC w L cb m1 m2 m3 pp g N n) (b : Int) (hb : -9223372036854775808 ≤ b ∧ b ≤ 9223372036854775807) :
    Calls Try.prog 14 #[.pointer (some ⟨cb, 0, none⟩), .int .i64 b] w fun e w' => e = .returned (.int .i64 (n.nx b)) ∧ w = w' := by
  obtain ⟨f, hm, hf⟩ := h.cnts
  obtain ⟨kl, hkey⟩ := place_key b 0 (wfOf hb) (by decide)
  have hlook := hm.look placeKeyed Try.underlying69 (zeroInt w) false hkey
  rw [hf _ (wfOf hb)] at hlook
  simp only [Bool.false_eq_true, if_false] at hlook
  have c7 := h.blk.cell 7 _ rfl
  clear hm hf hkey
  go_enter Try.func14, Try.ntmps14
  go_wp2_with fail
  go_ret
  exact ⟨rfl, rfl⟩
theorem nand_erases (h : NandC w L cb m1 m2 m3 pp g N n) (b : Int) (hb : -9223372036854775808 ≤ b ∧ b ≤ 9223372036854775807) :
    Calls Try.prog 22 #[.pointer (some ⟨cb, 0, none⟩), .int .i64 b] w fun e w' => e = .returned (.int .i64 (n.er b)) ∧ w = w' := by
  obtain ⟨f, hm, hf⟩ := h.ers
  obtain ⟨kl, hkey⟩ := place_key b 0 (wfOf hb) (by decide)
  have hlook := hm.look placeKeyed Try.underlying69 (zeroInt w) false hkey
  rw [hf _ (wfOf hb)] at hlook
  simp only [Bool.false_eq_true, if_false] at hlook
  have c8 := h.blk.cell 8 _ rfl
  clear hm hf hkey
  go_enter Try.func22, Try.ntmps22
  go_wp2_with fail
  go_ret
  exact ⟨rfl, rfl⟩
end
theorem nand_blank (k : Nat) (w : World) (h0 : 0 < k) (hk : k ≤ 1000000) :
    Calls Try.prog 57 #[.int .i64 (k : Int)] w (Ret fun v w' => RowF w' w.heap.size v (ffs k) ∧ Below w.heap.size w w') := by
  have ho := byts_one w 255
  have hb := below_alloc w (.cells #[.int .u8 ((255 : UInt8).toNat : Int)] 5)
  go_enter Try.func57, Try.ntmps57
  go_wp2_with (go_at_call 64; refine (repeat_ff _ _ k _ ho h0 hk).mono ?_; rintro e w1 ⟨v, rfl, q, rfl, hq, hq2, hm, hb1⟩)
  go_ret
  refine Ret.mk ⟨Or.inr ⟨q, ?_, ?_, by rw [World.size_alloc] at hq; omega, by rw [ffs_length]; exact hk⟩, hb.trans (hb1.mono hb.size)⟩
  · rw [ffs_length]; rfl
  · rw [ffs_length]; exact hm

/-- What stands while a page is looked up: the result's block q, the chip's form. -/
structure CtxAt (w0 : World) (B q cb : Nat) (e : Int) (A A' : Option Addr) (D D' : List UInt8) (w : World) : Prop where
  bel : Below w0.heap.size w0 w
  k4 : Blk w q 82 [.slice none 0 0, .slice none 0 0]
  c4 : w.cell? ⟨cb, 4, none⟩ = some (.int .i64 e)
  lt : cb < w.heap.size
  sz : B ≤ w.heap.size
  y1 : Byts w A D
  y2 : Byts w A' D'
theorem CtxAt.below {w0 w w' : World} {B q cb : Nat} {e : Int} {A A' : Option Addr} {D D' : List UInt8} (h : CtxAt w0 B q cb e A A' D D' w) (hx : Below w.heap.size w w') : CtxAt w0 B q cb e A A' D D' w' :=
  ⟨h.bel.trans (hx.mono h.bel.size), h.k4.below hx, (hx.cell (p := ⟨cb, 4, none⟩) h.lt).trans h.c4, Nat.lt_of_lt_of_le h.lt hx.size, Nat.le_trans h.sz hx.size, h.y1.below hx, h.y2.below hx⟩
theorem CtxAt.fin {w0 w : World} {B q cb : Nat} {e : Int} {A A' : Option Addr} {D D' D1 D2 : List UInt8} {v1 v2 : Value} (h : CtxAt w0 B q cb e A A' D D' w) (h1 : RowF w B v1 D1) (h2 : RowF w B v2 D2) (hq : q < B) (hB : w0.heap.size ≤ B) (hq0 : w0.heap.size ≤ q) :
    Blk ((w.setCell ⟨q, 0, none⟩ v1).setCell ⟨q, 1, none⟩ v2) q 82 [v1, v2] ∧ RowF ((w.setCell ⟨q, 0, none⟩ v1).setCell ⟨q, 1, none⟩ v2) w0.heap.size v1 D1 ∧ RowF ((w.setCell ⟨q, 0, none⟩ v1).setCell ⟨q, 1, none⟩ v2) w0.heap.size v2 D2 ∧ Below w0.heap.size w0 ((w.setCell ⟨q, 0, none⟩ v1).setCell ⟨q, 1, none⟩ v2) := by
  have ho : Only [q] w ((w.setCell ⟨q, 0, none⟩ v1).setCell ⟨q, 1, none⟩ v2) := ((Only.refl [q] w).setCell (Or.inl (by simp)) _).setCell (Or.inl (by simp)) _
  refine ⟨(h.k4.set 0 v1).set 1 v2, (h1.only ho (fun x hx => by simp at hx; omega)).mono hB, (h2.only ho (fun x hx => by simp at hx; omega)).mono hB, (h.bel.setCell hq0 _).setCell hq0 _⟩

section
variable {w : World} {L cb m1 m2 m3 : Nat} {pp : Option Addr} {g : Geo} {N : Nat} {n : NSt}
set_option maxHeartbeats 4000000 in
theorem nand_at (h : NandC w L cb m1 m2 m3 pp g N n) (b p : Int) (hok : nOk g b p) :
    Calls Try.prog 49 #[.pointer (some ⟨cb, 0, none⟩), .agg #[.int .i64 b, .int .i64 p]] w fun e w' => ∃ v1 v2, e = .returned (.agg #[v1, v2]) ∧ RowF w' w.heap.size v1 (n.pg b p).1 ∧ RowF w' w.heap.size v2 (n.pg b p).2 ∧ Below w.heap.size w w' := by
  obtain ⟨w0, rfl⟩ : ∃ w0 : World, w0 = w := ⟨_, rfl⟩
  have hgo := h.ok
  unfold Geo.ok at hgo
  have hok' := hok
  unfold nOk at hok'
  have hcl := h.lt cb (by simp)
  have hwb : (Lit.int .i64 b).wf = true := wfOf (by omega)
  have hwp : (Lit.int .i64 p).wf = true := wfOf (by omega)
  obtain ⟨kl, hkey⟩ := place_key b p hwb hwp
  obtain ⟨f, hm, hf⟩ := h.pages
  have hfc := hf b p hok
  obtain ⟨D, hD⟩ : ∃ D, (n.pg b p).1 = D := ⟨_, rfl⟩
  obtain ⟨S, hS⟩ : ∃ S, (n.pg b p).2 = S := ⟨_, rfl⟩
  have hsz := h.n.sz b p hok
  rw [hD, hS] at hsz ⊢
  have c6 := h.blk.cell 6 _ rfl
  have c4 := h.blk.cell 4 _ rfl
  have hzc := zeroC
  have hl6 : ∀ W, Below w0.heap.size w0 W → (Instr.lookup 68 (.map (some m1)) (.agg #[.int .i64 b, .int .i64 p]) true).run Try.prog W = .ok (.tuple #[(f (.agg #[.int .i64 b, .int .i64 p])).getD (.agg #[.slice none 0 0, .slice none 0 0]), .bool (f (.agg #[.int .i64 b, .int .i64 p])).isSome]) W := fun W hW =>
    (hm.only (Only.of_below hW []) (by simp)).look placeKeyed Try.underlying68 (zeroC W) true hkey
  have HL6 := Lib.hid hl6
  have hb1 := (below_alloc w0 (.cells #[.int .i64 b, .int .i64 p] 84)).alloc (by simp) (.cells #[.slice none 0 0, .slice none 0 0] 82)
  have hk3 := ((Blk.new w0 [.int .i64 b, .int .i64 p] 84)).alloc (.cells #[.slice none 0 0, .slice none 0 0] 82)
  have hk4 := Blk.new (w0.alloc (.cells #[.int .i64 b, .int .i64 p] 84)) [.slice none 0 0, .slice none 0 0] 82
  rw [World.size_alloc] at hk4
  clear hl6 hm hf hkey hwb hwp
  go_enter Try.func49, Try.ntmps49
  go_upto_region 1 with fail
  generalize (w0.alloc (.cells #[.int .i64 b, .int .i64 p] 84)).alloc (.cells #[.slice none 0 0, .slice none 0 0] 82) = w1 at *
  have k0 := hk3.cell 0 _ rfl
  have k1 := hk3.cell 1 _ rfl
  have hz1 : w0.heap.size + 1 < w1.heap.size := hk4.lt
  have d6 := (hb1.cell (p := ⟨cb, 6, none⟩) hcl).trans c6
  have d4 := (hb1.cell (p := ⟨cb, 4, none⟩) hcl).trans c4
  have l6 := HL6.out _ hb1.drew
  have l6' := HL6.out _ (hb1.trans ((below_alloc w1 (.cells #[.slice none 0 0, .slice none 0 0] 82)).drew.mono hb1.size))
  have HB1 := Lib.hid (And.intro hb1 (And.intro hk3 hk4))
  have HKE : Hid (∀ W, Below w1.heap.size w1 W → W.cell? ⟨cb, 6, none⟩ = some (.map (some m1)) ∧ W.cell? ⟨w0.heap.size, 0, none⟩ = some (.int .i64 b) ∧ W.cell? ⟨w0.heap.size, 1, none⟩ = some (.int .i64 p)) := fun W hW =>
    ⟨(hW.cell (p := ⟨cb, 6, none⟩) (by show cb < _; omega)).trans d6, (hW.cell (p := ⟨w0.heap.size, 0, none⟩) (by show w0.heap.size < _; omega)).trans k0, (hW.cell (p := ⟨w0.heap.size, 1, none⟩) (by show w0.heap.size < _; omega)).trans k1⟩
  have HS := Lib.hid (And.intro hD hS)
  have HC := Lib.hid h
  clear hb1 hk3 hk4 hD hS c6 c4 h
  rcases hfc with ⟨hf0, hv⟩ | ⟨A, c, A', c', hf1, hc1, hc2, hy1, hy2, hx1, hx2⟩
  · rw [hf0] at l6 l6'
    simp only [if_true, Option.getD_none, Option.isSome_none] at l6 l6'
    go_region_held3 (fun w' => w'.cell? ⟨cb, 6, none⟩ = some (.map (some m1)) ∧ w'.cell? ⟨w0.heap.size, 0, none⟩ = some (.int .i64 b) ∧ w'.cell? ⟨w0.heap.size, 1, none⟩ = some (.int .i64 p))
      (first | exact ⟨d6, k0, k1⟩ | exact HKE.out _ (Below.refl _ _).drew | exact HKE.out _ (below_alloc w1 _).drew) (fail)
    all_goals
      have hw2 := (below_alloc w1 (.cells #[.slice none 0 0, .slice none 0 0] 82)).drew
      have hC0 : CtxAt w0 w1.heap.size (w0.heap.size + 1) cb g.e none none [] [] (w1.alloc (.cells #[.slice none 0 0, .slice none 0 0] 82)).drew := (CtxAt.mk HB1.out.1 HB1.out.2.2 d4 (by omega) (Nat.le_refl _) (Byts.nil _ _) (Byts.nil _ _)).below hw2
      have hC := hC0
      have c4 := hC.c4
      clear hC0 hw2 d6 d4 l6 l6' k0 k1 HKE HL6
      generalize (w1.alloc (.cells #[.slice none 0 0, .slice none 0 0] 82)).drew = w2 at *
      obtain ⟨E, hE⟩ : ∃ E : Nat, g.e = (E : Int) := ⟨g.e.toNat, by omega⟩
      have hE1 : 0 < E ∧ E ≤ 256 := by omega
      have hdv : D = ffs E ∧ S = ffs 16 := by
        have h1 : D = (blankP g).1 := by rw [← HS.out.1, hv]
        have h2 : S = (blankP g).2 := by rw [← HS.out.2, hv]
        unfold blankP at h1 h2
        rw [hE] at h1
        exact ⟨by rw [h1]; congr 1, h2⟩
      have HDV := Lib.hid hdv
      rw [hE] at c4
      clear hdv hv hgo HS HC hsz hE
      go_upto_region 3 with fail
      go_wp2_with (first
        | (go_at_call 57; (with_reducible refine (nand_blank E _ hE1.1 (by omega)).mono ?_); rintro e w3 ⟨v1, rfl, hv1, hx⟩; replace hv1 := hv1.mono hC.sz; replace hC := hC.below hx; obtain ⟨A1, r1, rfl, -, -, -⟩ := hv1.byts; clear hx)
        | (go_at_call 57; refine (nand_blank 16 _ (by decide) (by decide)).mono ?_; rintro e w4 ⟨v2, rfl, hv2, hx⟩; replace hv2 := hv2.mono hC.sz; replace hC := hC.below hx; replace hv1 := hv1.below hx; obtain ⟨A2, r2, rfl, -, -, -⟩ := hv2.byts; clear hx; have q0 := hC.k4.cell 0 _ rfl; have q1 := hC.k4.cell 1 _ rfl; have z0 := hC.k4.frz 0; have z1 := hC.k4.frz 1))
      have HF := Lib.hid (hC.fin hv1 hv2 (by omega) (by omega) (by omega))
      clear hC hv1 hv2 q0 q1 z0 z1 c4
      obtain ⟨hb4, hr1, hr2, hbl⟩ := HF.out
      have e0 := hb4.cell 0 _ rfl
      have e1 := hb4.cell 1 _ rfl
      refine bodyPost_ret (v := .agg #[.slice A1 (ffs E).length r1, .slice A2 (ffs 16).length r2]) (by simp [results, Try.results49, go_sem, e0, e1]) rfl ⟨_, _, rfl, by rw [HDV.out.1]; exact hr1, by rw [HDV.out.2]; exact hr2, hbl⟩
  · rw [HS.out.1, HS.out.2] at hf1
    rw [HS.out.1] at hc1 hy1
    rw [HS.out.2] at hc2 hy2
    have hdl : D.length ≤ 256 := by omega
    have hsl : S.length ≤ 256 := by omega
    have HSZ := Lib.hid hsz
    clear hsz
    obtain ⟨dn, hdn⟩ : ∃ k, D.length = k := ⟨_, rfl⟩
    obtain ⟨sn, hsn⟩ : ∃ k, S.length = k := ⟨_, rfl⟩
    rw [hdn, hsn] at hf1
    rw [hdn] at hc1 hdl
    rw [hsn] at hc2 hsl
    rw [hf1] at l6 l6'
    simp only [if_true, Option.getD_some, Option.isSome_some] at l6 l6'
    have HDN := Lib.hid (And.intro hdn hsn)
    have hy1' := Lib.hid (hy1.below HB1.out.1)
    have hy2' := Lib.hid (hy2.below HB1.out.1)
    clear hf1 hdn hsn hx1 hx2 hy1 hy2
    go_region_held3 (fun w' => w'.cell? ⟨cb, 6, none⟩ = some (.map (some m1)) ∧ w'.cell? ⟨w0.heap.size, 0, none⟩ = some (.int .i64 b) ∧ w'.cell? ⟨w0.heap.size, 1, none⟩ = some (.int .i64 p))
      (first | exact ⟨d6, k0, k1⟩ | exact HKE.out _ (Below.refl _ _).drew | exact HKE.out _ (below_alloc w1 _).drew) (fail)
    all_goals
      have hw2 := (below_alloc w1 (.cells [.slice A dn c, .slice A' sn c'].toArray 82 (0, 0))).drew
      have hC : CtxAt w0 (w1.heap.size + 1) (w0.heap.size + 1) cb g.e A A' D S (w1.alloc (.cells [.slice A dn c, .slice A' sn c'].toArray 82 (0, 0))).drew := by
        obtain ⟨a1, a2, a3, a4, a5, a6, a7⟩ := (CtxAt.mk HB1.out.1 HB1.out.2.2 d4 (by omega) (Nat.le_refl _) hy1'.out hy2'.out : CtxAt w0 w1.heap.size (w0.heap.size + 1) cb g.e A A' D S w1).below hw2
        exact ⟨a1, a2, a3, a4, by simp, a6, a7⟩
      have hk5 : Blk (w1.alloc (.cells [.slice A dn c, .slice A' sn c'].toArray 82 (0, 0))).drew w1.heap.size 82 [.slice A dn c, .slice A' sn c'] := (Blk.new w1 _ _).drew
      clear hw2 d6 d4 l6 l6' k0 k1 HKE HL6
      generalize (w1.alloc (.cells [.slice A dn c, .slice A' sn c'].toArray 82 (0, 0))).drew = w2 at *
      obtain ⟨q5, hq5⟩ : ∃ q, w1.heap.size = q := ⟨_, rfl⟩
      obtain ⟨q4, hq4⟩ : ∃ q, w0.heap.size + 1 = q := ⟨_, rfl⟩
      rw [hq5] at hk5 hC ⊢
      rw [hq4] at hC ⊢
      have h45 : q4 < q5 := by omega
      have HQ := Lib.hid (And.intro hq4 hq5)
      have HR : Hid (∀ W, Below w2.heap.size w2 W → (W.cell? ⟨q5, 0, none⟩ = some (.slice A dn c) ∧ W.cell? ⟨q5, 1, none⟩ = some (.slice A' sn c')) ∧ ∀ u1 u2, ((W.setCell ⟨q4, 0, none⟩ u1).setCell ⟨q4, 1, none⟩ u2).cell? ⟨q5, 0, none⟩ = some (.slice A dn c) ∧ ((W.setCell ⟨q4, 0, none⟩ u1).setCell ⟨q4, 1, none⟩ u2).cell? ⟨q5, 1, none⟩ = some (.slice A' sn c')) := fun W hW => by
        have hb := hk5.below hW
        refine ⟨⟨hb.cell 0 _ rfl, hb.cell 1 _ rfl⟩, fun u1 u2 => ?_⟩
        have hb2 := (hb.set_other (p := ⟨q4, 0, none⟩) (by show q5 ≠ q4; omega) u1).set_other (p := ⟨q4, 1, none⟩) (by show q5 ≠ q4; omega) u2
        exact ⟨hb2.cell 0 _ rfl, hb2.cell 1 _ rfl⟩
      have r0 := hk5.cell 0 _ rfl
      have r1 := hk5.cell 1 _ rfl
      clear hk5 hq4 hq5
      go_upto_region 4 with fail
      replace hC := hC.below (Below.refl _ _).drew
      have hX := (Below.refl w2.heap.size w2).drew
      have hln : D.length ≤ 140737488355328 := by rw [HDN.out.1]; omega
      have hls : S.length ≤ 140737488355328 := by rw [HDN.out.2]; omega
      have HLN := Lib.hid (And.intro hln hls)
      clear hln hls
      go_region_held3 (fun w' => w'.cell? ⟨q5, 0, none⟩ = some (.slice A dn c) ∧ w'.cell? ⟨q5, 1, none⟩ = some (.slice A' sn c'))
        (first | exact ⟨r0, r1⟩ | exact (HR.out _ hX).1 | exact (HR.out _ hX).2 _ _)
        (first
          | (go_at_call 58; (with_reducible refine (clone_byts A dn c D _ hC.y1 HDN.out.1.symm HLN.out.1).mono ?_); rintro e w3 ⟨v1, rfl, hv1, hx⟩; have hv1 : RowF w3 (q5 + 1) v1 D := Or.inl (hv1.mono hC.sz); replace hX := hX.trans (hx.mono hX.size); (try replace hv2 := hv2.below hx); replace hC := hC.below hx; obtain ⟨A1, c1, rfl, -, -, -⟩ := hv1.byts; clear hx; have e0 := hC.k4.cell 0 _ rfl; have e1 := hC.k4.cell 1 _ rfl; have z0 := hC.k4.frz 0; have z1 := hC.k4.frz 1)
          | (go_at_call 58; (with_reducible refine (clone_byts A' sn c' S _ hC.y2 HDN.out.2.symm HLN.out.2).mono ?_); rintro e w3 ⟨v2, rfl, hv2, hx⟩; have hv2 : RowF w3 (q5 + 1) v2 S := Or.inl (hv2.mono hC.sz); replace hX := hX.trans (hx.mono hX.size); (try replace hv1 := hv1.below hx); replace hC := hC.below hx; obtain ⟨A2, c2, rfl, -, -, -⟩ := hv2.byts; clear hx; have e0 := hC.k4.cell 0 _ rfl; have e1 := hC.k4.cell 1 _ rfl; have z0 := hC.k4.frz 0; have z1 := hC.k4.frz 1))
      all_goals
        have HF := Lib.hid (hC.fin hv1 hv2 (by omega) (by have := HQ.out.1; have := HQ.out.2; omega) (by have := HQ.out.1; omega))
        clear hC hv1 hv2 e0 e1 z0 z1 r0 r1 hX HR
        go_wp2_with fail
        obtain ⟨hb4, hr1, hr2, hbl⟩ := HF.out
        have e0 := hb4.cell 0 _ rfl
        have e1 := hb4.cell 1 _ rfl
        refine bodyPost_ret (v := .agg #[.slice A1 D.length c1, .slice A2 S.length c2]) (by simp [results, Try.results49, go_sem, e0, e1]) rfl ⟨_, _, rfl, hr1, hr2, hbl⟩

/-- Reading a page. -/
theorem nand_read (h : NandC w L cb m1 m2 m3 pp g N n) (b p : Int) {k1 k2 : Nat} (h1 : (nRead g n b p).1.length = k1) (h2 : (nRead g n b p).2.length = k2) :
    Calls Try.prog 15 #[.pointer (some ⟨cb, 0, none⟩), .int .i64 b, .int .i64 p] w fun e w' => ∃ A1 c1 A2 c2, e = .returned (.tuple #[.slice A1 k1 c1, .slice A2 k2 c2, .int .i64 (nAsk g b p)]) ∧ RowF w' w.heap.size (.slice A1 k1 c1) (nRead g n b p).1 ∧ RowF w' w.heap.size (.slice A2 k2 c2) (nRead g n b p).2 ∧ Below w.heap.size w w' := by
  obtain ⟨w0, rfl⟩ : ∃ w0 : World, w0 = w := ⟨_, rfl⟩
  by_cases hok : nOk g b p
  · have hr : nRead g n b p = n.pg b p := if_pos hok
    have ha : nAsk g b p = 0 := nAsk_pos hok
    rw [hr] at h1 h2 ⊢
    have H1 := Lib.hid (nand_ask h b p)
    rw [ha] at H1 ⊢
    have HK := Lib.hid (And.intro h1 h2)
    have HC := Lib.hid (nand_at h b p hok)
    clear hr ha h1 h2
    go_enter Try.func15, Try.ntmps15
    go_upto_region 4 with (go_at_call 40; refine H1.out.mono ?_; rintro e w' ⟨rfl, rfl⟩)
    go_upto_region 5 with (go_at_call 49; refine HC.out.mono ?_; rintro e w1 ⟨v1, v2, rfl, hv1, hv2, hx⟩; obtain ⟨A1, c1, e1, -⟩ := hv1.byts; obtain ⟨A2, c2, e2, -⟩ := hv2.byts; subst e1; subst e2; rw [HK.out.1] at hv1 ⊢; rw [HK.out.2] at hv2 ⊢)
    have hbl := below_alloc w1 (.cells [.slice A1 k1 c1, .slice A2 k2 c2].toArray 82 (0, 0))
    have hk := Blk.new w1 [.slice A1 k1 c1, .slice A2 k2 c2] 82
    have HF := Lib.hid (And.intro (hv1.below hbl) (And.intro (hv2.below hbl) (hx.trans (hbl.mono hx.size))))
    clear hv1 hv2 hx hbl H1 HC h
    generalize w1.alloc (.cells [.slice A1 k1 c1, .slice A2 k2 c2].toArray 82 (0, 0)) = w2 at *
    have e0 := hk.cell 0 _ rfl
    have e1 := hk.cell 1 _ rfl
    go_region
    go_wp2_with fail
    go_ret3
    exact ⟨A1, c1, A2, c2, rfl, HF.out.1.below (Below.refl _ _).drew, HF.out.2.1.below (Below.refl _ _).drew, HF.out.2.2.drew⟩
  · have hr : nRead g n b p = ([], []) := if_neg hok
    have ha : nAsk g b p = 1 := nAsk_neg hok
    rw [hr] at h1 h2 ⊢
    obtain rfl : k1 = 0 := h1.symm
    obtain rfl : k2 = 0 := h2.symm
    have H1 := Lib.hid (nand_ask h b p)
    rw [ha] at H1 ⊢
    clear hr ha h1 h2
    go_enter Try.func15, Try.ntmps15
    go_wp2_with (go_at_call 40; refine H1.out.mono ?_; rintro e w' ⟨rfl, rfl⟩)
    go_ret3
    exact ⟨none, 0, none, 0, rfl, Or.inl (Own.nil _ _), Or.inl (Own.nil _ _), Below.refl _ _⟩
theorem nand_read_nil (b p : Int) (w : World) :
    Calls Try.prog 15 #[.pointer none, .int .i64 b, .int .i64 p] w fun e w' => e = .returned (.tuple #[.slice none 0 0, .slice none 0 0, .int .i64 2]) ∧ w = w' := by
  go_enter Try.func15, Try.ntmps15
  go_wp2_with (go_at_call 40; refine (nand_ask_nil _ _ _).mono ?_; rintro e w' ⟨rfl, rfl⟩)
  go_ret3
  exact ⟨rfl, rfl⟩
end
end Go.Proofs.Ytionjddcahgpkaa
