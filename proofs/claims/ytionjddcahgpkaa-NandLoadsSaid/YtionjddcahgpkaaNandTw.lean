/- The program's chip of pages and the reference's, side by side; the deeds that NandPlays is given. -/
import Derived.Test.YtionjddcahgpkaaRefNand4
import Derived.Test.YtionjddcahgpkaaLawNand3
import Derived.Test.YtionjddcahgpkaaReads
set_option linter.unusedVariables false
set_option maxRecDepth 100000
set_option linter.unusedSimpArgs false
namespace Go.Proofs.Ytionjddcahgpkaa
open Go.RowKit

theorem Byts.ltD {w : World} {A : Option Addr} {l : List UInt8} (h : Byts w A l) : ∀ a, A = some a → 0 < l.length → a.block < w.heap.size := fun a e h0 => by
  rcases h with rfl | ⟨b, off, rfl, hc⟩
  · simp at h0
  · cases e
    exact World.block_lt_of_cell? w _ (hc 0 h0)

/-- Other numbers of steps that fail, in a row that came in. -/
theorem RPow.whichArg {w : World} {b : Nat} {G : List Nat} {s : PS} {A : Option Addr} {c : Nat} {l : List Int} (h : RPow w b G s) (hi : Ints w A l) (hA : ∀ x, A = some x → 0 < l.length → x.block ≠ b ∧ x.block < w.heap.size) (hl : l.length ≤ 140737488351232) :
    ∃ G', RPow (w.setCell ⟨b, 4, none⟩ (.slice A l.length c)) b G' (s.failOn l) ∧ ∀ y ∈ G', y = b ∨ ∃ x, A = some x ∧ 0 < l.length ∧ y = x.block := by
  obtain ⟨A0, c0, H, h1, h2, rfl, h3, h4, h5, h6, h7, h8⟩ := h
  have hi' : Ints (w.setCell ⟨b, 4, none⟩ (.slice A l.length c)) A l := hi.only ((Only.refl [b] w).setCell (by simp) _) (fun x e h0 => by simpa using (hA x e h0).1)
  have hb' : Blk (w.setCell ⟨b, 4, none⟩ (.slice A l.length c)) b 56 [.bool s.off, .int .i64 s.left, .int .u8 (s.mask.toNat : Int), .int .i64 (s.done : Int), .slice A l.length c] := h1.set 4 (.slice A l.length c)
  by_cases h0 : 0 < l.length
  · cases A with
    | none =>
      rcases hi with rfl | ⟨b', off, e, _⟩
      · simp at h0
      · cases e
    | some x =>
      have hx := hA x rfl h0
      refine ⟨[b, x.block], ⟨some x, c, [x.block], hb', hi', rfl, by simp; omega, fun y e _ => by cases e; simp, fun y hy => ?_, h6, h7, hl⟩, fun y hy => ?_⟩
      · simp at hy
        subst hy
        simpa [World.setCell] using hx.2
      · simp at hy
        rcases hy with rfl | rfl
        · exact Or.inl rfl
        · exact Or.inr ⟨x, rfl, h0, rfl⟩
  · exact ⟨[b], ⟨A, c, [], hb', hi', rfl, by simp, (fun y e h => (h0 h).elim), (fun y hy => absurd hy (by simp)), h6, h7, hl⟩, fun y hy => Or.inl (by simpa using hy)⟩

/-- A chip that holds nothing from its own heap's end on holds nothing: what it will hold lies from any later end on. -/
theorem NandC.raise {w w' : World} {cb m1 m2 m3 : Nat} {pp : Option Addr} {g : Geo} {N : Nat} {n : NSt} (h : NandC w w.heap.size cb m1 m2 m3 pp g N n) (hb : Below w.heap.size w w') : NandC w' w'.heap.size cb m1 m2 m3 pp g N n := by
  obtain ⟨h1, ⟨f, h2, h2'⟩, ⟨f3, h3, h3'⟩, ⟨f4, h4, h4'⟩, h5, h6, h7, h8, h9, h10⟩ := h
  have ho := Only.of_below hb []
  refine ⟨h1.only ho (by simp), ⟨f, h2.only ho (by simp), fun b p hbp => ?_⟩, ⟨f3, h3.only ho (by simp), h3'⟩, ⟨f4, h4.only ho (by simp), h4'⟩, h5, h6, h7, h8, fun x hx => Nat.lt_of_lt_of_le (h9 x hx) hb.size, Nat.le_refl _⟩
  rcases h2' b p hbp with hc | ⟨A, c, A', c', e, hc, hc', hy, hy', hx, hx'⟩
  · exact Or.inl hc
  · have hl := h5.sz b p hbp
    have hg := h6
    unfold Geo.ok at hg
    obtain ⟨b', off, rfl, hcell⟩ := hy.at (k := 0) (by omega)
    have h1 := World.block_lt_of_cell? w _ hcell
    have h2 := (hx _ rfl).1
    simp only at h1 h2
    omega

/-- The program's chip and its power. -/
structure NA (w : World) (L cb m1 m2 m3 pb sa sz gc gd ge : Nat) (FP : List Nat) (N : Nat) (n : NSt) (s : PS) : Prop where
  c : NandC w L cb m1 m2 m3 (some ⟨pb, 0, none⟩) ⟨sa, sz, gc, gd, ge⟩ N n
  p : Pow w pb FP s
/-- The reference's. -/
structure NB (w : World) (rb bb nb kb qb sa sz gc gd ge : Nat) (GP : List Nat) (N : Nat) (n : NSt) (s : PS) : Prop where
  r : ∃ l, RNand w rb bb nb kb (some ⟨qb, 0, none⟩) sa sz gc gd ge l N n
  q : RPow w qb GP s
/-- They do not meet; what is theirs lies from B on and below L. -/
structure Meet (B L cb m1 m2 m3 pb rb bb nb kb qb : Nat) (FP GP : List Nat) : Prop where
  a : ∀ x ∈ [cb, m1, m2, m3, pb], B ≤ x ∧ x < L
  b : ∀ x ∈ [rb, bb, nb, kb, qb], B ≤ x ∧ x < L
  ab : ∀ x ∈ [cb, m1, m2, m3, pb], x ∉ [rb, bb, nb, kb, qb]
  p : pb ∉ [cb, m1, m2, m3]
  q : qb ∉ [rb, bb, nb, kb]
  fp : ∀ x ∈ FP, x = pb ∨ L ≤ x
  gp : ∀ x ∈ GP, x = qb ∨ x < B

section
variable {w w' : World} {B L cb m1 m2 m3 pb rb bb nb kb qb sa sz gc gd ge : Nat} {FP GP : List Nat} {N : Nat} {n n' : NSt} {s s' : PS}
theorem NA.below (h : NA w L cb m1 m2 m3 pb sa sz gc gd ge FP N n s) (hb : Below w.heap.size w w') : NA w' L cb m1 m2 m3 pb sa sz gc gd ge FP N n s := ⟨h.c.below hb, h.p.below hb⟩
theorem NB.below (h : NB w rb bb nb kb qb sa sz gc gd ge GP N n s) (hb : Below w.heap.size w w') : NB w' rb bb nb kb qb sa sz gc gd ge GP N n s := ⟨by obtain ⟨l, hr⟩ := h.r; exact ⟨l, hr.below hb⟩, h.q.below hb⟩
theorem NA.mono (h : NA w L cb m1 m2 m3 pb sa sz gc gd ge FP N n s) {M : Nat} (hm : N ≤ M) : NA w L cb m1 m2 m3 pb sa sz gc gd ge FP M n s := ⟨h.c.mono hm, h.p⟩
theorem NB.mono (h : NB w rb bb nb kb qb sa sz gc gd ge GP N n s) {M : Nat} (hm : N ≤ M) : NB w rb bb nb kb qb sa sz gc gd ge GP M n s := ⟨by obtain ⟨l, hr⟩ := h.r; exact ⟨l, hr.mono hm⟩, h.q⟩
theorem NA.drewN (h : NA w L cb m1 m2 m3 pb sa sz gc gd ge FP N n s) (k : Nat) : NA (w.drewN k) L cb m1 m2 m3 pb sa sz gc gd ge FP N n s := h.below (below_drewN (Below.refl _ _) k)
theorem NB.drewN (h : NB w rb bb nb kb qb sa sz gc gd ge GP N n s) (k : Nat) : NB (w.drewN k) rb bb nb kb qb sa sz gc gd ge GP N n s := h.below (below_drewN (Below.refl _ _) k)
theorem NA.off (h : NA w L cb m1 m2 m3 pb sa sz gc gd ge FP N n s) (hm : Meet B L cb m1 m2 m3 pb rb bb nb kb qb FP GP) (ho : Only [bb, nb, kb, qb] w w') : NA w' L cb m1 m2 m3 pb sa sz gc gd ge FP N n s := by
  refine ⟨h.c.only ho (fun x hx hx2 => hm.ab x (by simp at hx ⊢; omega) (by simp at hx2 ⊢; omega)) (fun x hx => (hm.b x (by simp at hx ⊢; omega)).2), h.p.only ho (fun x hx hx2 => ?_)⟩
  have h1 := hm.b x (by simp at hx2 ⊢; omega)
  rcases hm.fp x hx with rfl | h2
  · exact hm.ab x (by simp) (by simp at hx2 ⊢; omega)
  · omega
theorem NB.off (h : NB w rb bb nb kb qb sa sz gc gd ge GP N n s) (hm : Meet B L cb m1 m2 m3 pb rb bb nb kb qb FP GP) (ho : Only [m1, m2, m3, pb] w w') : NB w' rb bb nb kb qb sa sz gc gd ge GP N n s := by
  obtain ⟨l, hr⟩ := h.r
  refine ⟨⟨l, hr.only ho (fun x hx hx2 => hm.ab x (by simp at hx2 ⊢; omega) (by simp at hx ⊢; omega))⟩, h.q.only ho (fun x hx hx2 => ?_)⟩
  have h1 := hm.a x (by simp at hx2 ⊢; omega)
  rcases hm.gp x hx with rfl | h2
  · exact hm.ab x (by simp at hx2 ⊢; omega) (by simp)
  · omega
theorem Meet.ha (hm : Meet B L cb m1 m2 m3 pb rb bb nb kb qb FP GP) : (∀ x ∈ FP, x ∉ [cb, m1, m2, m3]) ∧ pb < L := by
  refine ⟨fun x hx hx2 => ?_, (hm.a pb (by simp)).2⟩
  have h1 := hm.a x (by simp at hx2 ⊢; omega)
  rcases hm.fp x hx with rfl | h2
  · exact hm.p hx2
  · omega
theorem Meet.hb (hm : Meet B L cb m1 m2 m3 pb rb bb nb kb qb FP GP) : ∀ x ∈ GP, x ∉ [rb, bb, nb, kb] := by
  intro x hx hx2
  have h1 := hm.b x (by simp at hx2 ⊢; omega)
  rcases hm.gp x hx with rfl | h2
  · exact hm.q hx2
  · omega
theorem Meet.fresh (hm : Meet B L cb m1 m2 m3 pb rb bb nb kb qb FP GP) {a : World} (ha : Below B a w) (hs : B ≤ w.heap.size) (ho : Only [m1, m2, m3, pb] w w') : Below B a w' :=
  ha.trans (ho.below (fun x hx => (hm.a x (by simp at hx ⊢; omega)).1) hs)
theorem Meet.freshB (hm : Meet B L cb m1 m2 m3 pb rb bb nb kb qb FP GP) {a : World} (ha : Below B a w) (hs : B ≤ w.heap.size) (ho : Only [bb, nb, kb, qb] w w') : Below B a w' :=
  ha.trans (ho.below (fun x hx => (hm.b x (by simp at hx ⊢; omega)).1) hs)
theorem NA.pn (hm : Meet B L cb m1 m2 m3 pb rb bb nb kb qb FP GP) : ∀ x ∈ [cb, m1, m2, m3], x ∉ [pb] := fun x hx hx2 => by
  have := hm.p
  simp at hx2
  subst hx2
  exact this hx

theorem Meet.bytsA (hm : Meet B L cb m1 m2 m3 pb rb bb nb kb qb FP GP) {A : Option Addr} {l : List UInt8} (h : Byts w A l) (hA : ∀ a, A = some a → 0 < l.length → a.block < B ∨ L ≤ a.block) (ho : Only [m1, m2, m3, pb] w w') : Byts w' A l :=
  h.only ho (fun a e h0 hx => by
    have h1 := hm.a a.block (by simp at hx ⊢; omega)
    have h2 := hA a e h0
    omega)
theorem Meet.bytsB (hm : Meet B L cb m1 m2 m3 pb rb bb nb kb qb FP GP) {A : Option Addr} {l : List UInt8} (h : Byts w A l) (hA : ∀ a, A = some a → 0 < l.length → a.block < B ∨ L ≤ a.block) (ho : Only [bb, nb, kb, qb] w w') : Byts w' A l :=
  h.only ho (fun a e h0 hx => by
    have h1 := hm.b a.block (by simp at hx ⊢; omega)
    have h2 := hA a e h0
    omega)

theorem na_erase (h : NA w L cb m1 m2 m3 pb sa sz gc gd ge FP N n s) (hm : Meet B L cb m1 m2 m3 pb rb bb nb kb qb FP GP) (hN : N ≤ 1000000000) (b : Int) (hb : -9223372036854775808 ≤ b ∧ b ≤ 9223372036854775807) (hdone : s.done ≤ 900000000000) {r : Int} (hE : nErase ⟨sa, sz, gc, gd, ge⟩ s n b = (r, n', s')) :
    Calls Try.prog 13 #[.pointer (some ⟨cb, 0, none⟩), .int .i64 b] w fun e w' => e = .returned (.int .i64 r) ∧ NA w' L cb m1 m2 m3 pb sa sz gc gd ge FP (N + 40) n' s' ∧ Only [m1, m2, m3, pb] w w' :=
  (nand_erase h.c hN h.p hm.ha b hb hdone hE).mono fun e w1 ⟨he, hc, hp, ho⟩ => ⟨he, ⟨hc, hp⟩, ho⟩
theorem nb_erase (h : NB w rb bb nb kb qb sa sz gc gd ge GP N n s) (hm : Meet B L cb m1 m2 m3 pb rb bb nb kb qb FP GP) (hN : N ≤ 1000000000) (b : Int) (hb : -9223372036854775808 ≤ b ∧ b ≤ 9223372036854775807) (hdone : s.done ≤ 900000000000) {r : Int} (hE : nErase ⟨sa, sz, gc, gd, ge⟩ s n b = (r, n', s')) :
    Calls Try.prog 27 #[.pointer (some ⟨rb, 0, none⟩), .int .i64 b] w fun e w' => e = .returned (.int .i64 r) ∧ NB w' rb bb nb kb qb sa sz gc gd ge GP (N + 40) n' s' ∧ Only [bb, nb, kb, qb] w w' := by
  obtain ⟨l, hr⟩ := h.r
  exact (rnand_erase hr hN h.q hm.hb b hb hdone hE).mono fun e w1 ⟨he, l', hc, hp, ho⟩ => ⟨he, ⟨⟨l', hc.mono (by omega)⟩, hp⟩, ho⟩
theorem na_program (h : NA w L cb m1 m2 m3 pb sa sz gc gd ge FP N n s) (hm : Meet B L cb m1 m2 m3 pb rb bb nb kb qb FP GP) (hN : N ≤ 1000000000) (b p : Int) (hb : -9223372036854775808 ≤ b ∧ b ≤ 9223372036854775807) (hp : -9223372036854775808 ≤ p ∧ p ≤ 9223372036854775807)
    (A : Option Addr) (k c : Nat) (d : List UInt8) (hy : Byts w A d) (hk : d.length = k) (hk2 : k ≤ 9223372036854775807) (A' : Option Addr) (k' c' : Nat) (sp : List UInt8) (hy' : Byts w A' sp) (hk' : sp.length = k') (hk2' : k' ≤ 9223372036854775807)
    (hA : ∀ x, A = some x → 0 < d.length → x.block ≠ pb) (hA' : ∀ x, A' = some x → 0 < sp.length → x.block ≠ pb) (hdone : s.done ≤ 900000000000) {r : Int} (hE : nProg ⟨sa, sz, gc, gd, ge⟩ s n b p d sp = (r, n', s')) :
    Calls Try.prog 12 #[.pointer (some ⟨cb, 0, none⟩), .int .i64 b, .int .i64 p, .slice A k c, .slice A' k' c'] w fun e w' => e = .returned (.int .i64 r) ∧ NA w' L cb m1 m2 m3 pb sa sz gc gd ge FP (N + 40) n' s' ∧ Only [m1, m2, m3, pb] w w' :=
  (nand_program h.c hN h.p hm.ha b p hb hp A k c d hy hk hk2 A' k' c' sp hy' hk' hk2' hA hA' hdone hE).mono fun e w1 ⟨he, hc, hp, ho⟩ => ⟨he, ⟨hc.mono (by omega), hp⟩, ho.mono (by simp)⟩
theorem nb_program (h : NB w rb bb nb kb qb sa sz gc gd ge GP N n s) (hm : Meet B L cb m1 m2 m3 pb rb bb nb kb qb FP GP) (b p : Int) (hb : -9223372036854775808 ≤ b ∧ b ≤ 9223372036854775807) (hp : -9223372036854775808 ≤ p ∧ p ≤ 9223372036854775807)
    (A : Option Addr) (k c : Nat) (d : List UInt8) (hy : Byts w A d) (hk : d.length = k) (hk2 : k ≤ 9223372036854775807) (A' : Option Addr) (k' c' : Nat) (sp : List UInt8) (hy' : Byts w A' sp) (hk' : sp.length = k') (hk2' : k' ≤ 9223372036854775807)
    (hA : ∀ x, A = some x → 0 < d.length → x.block < B ∨ L ≤ x.block) (hA' : ∀ x, A' = some x → 0 < sp.length → x.block < B ∨ L ≤ x.block) (hdone : s.done ≤ 900000000000) {r : Int} (hE : nProg ⟨sa, sz, gc, gd, ge⟩ s n b p d sp = (r, n', s')) :
    Calls Try.prog 31 #[.pointer (some ⟨rb, 0, none⟩), .int .i64 b, .int .i64 p, .slice A k c, .slice A' k' c'] w fun e w' => e = .returned (.int .i64 r) ∧ NB w' rb bb nb kb qb sa sz gc gd ge GP (N + 40) n' s' ∧ Only [bb, nb, kb, qb] w w' := by
  obtain ⟨l, hr⟩ := h.r
  refine (rnand_program hr h.q hm.hb b p hb hp A k c d hy hk A' k' c' sp hy' hk' hk2 hk2' (fun h0 x e hx => ?_) (fun h0 x e hx => ?_) hdone hE).mono fun e w1 ⟨he, l', hc, hp, ho⟩ => ⟨he, ⟨⟨l', hc.mono (by omega)⟩, hp⟩, ho.mono (by simp)⟩
  · have h1 := hm.b x.block (by simp at hx ⊢; omega)
    have h2 := hA x e h0
    omega
  · have h1 := hm.b x.block (by simp at hx ⊢; omega)
    have h2 := hA' x e h0
    omega
theorem na_read (h : NA w L cb m1 m2 m3 pb sa sz gc gd ge FP N n s) (b p : Int) {D S : List UInt8} {a : Int} {k1 k2 : Nat} (hr : nRead ⟨sa, sz, gc, gd, ge⟩ n b p = (D, S)) (ha : nAsk ⟨sa, sz, gc, gd, ge⟩ b p = a) (h1 : D.length = k1) (h2 : S.length = k2) :
    Calls Try.prog 15 #[.pointer (some ⟨cb, 0, none⟩), .int .i64 b, .int .i64 p] w fun e w' => ∃ A1 c1 A2 c2, e = .returned (.tuple #[.slice A1 k1 c1, .slice A2 k2 c2, .int .i64 a]) ∧ Byts w' A1 D ∧ Byts w' A2 S ∧ Below w.heap.size w w' := by
  have h3 := nand_read h.c b p (k1 := k1) (k2 := k2) (by rw [hr]; exact h1) (by rw [hr]; exact h2)
  rw [hr, ha] at h3
  refine h3.mono fun e w1 ⟨A1, c1, A2, c2, he, hr1, hr2, hx⟩ => ?_
  obtain ⟨B1, d1, e1, hc1, hy1, hx1⟩ := hr1.byts
  obtain ⟨B2, d2, e2, hc2, hy2, hx2⟩ := hr2.byts
  simp only [Value.slice.injEq] at e1 e2
  obtain ⟨rfl, -, -⟩ := e1
  obtain ⟨rfl, -, -⟩ := e2
  exact ⟨A1, c1, A2, c2, he, hy1, hy2, hx⟩
theorem nb_read (h : NB w rb bb nb kb qb sa sz gc gd ge GP N n s) (b p : Int) {D S : List UInt8} {a : Int} {k1 k2 : Nat} (hr : nRead ⟨sa, sz, gc, gd, ge⟩ n b p = (D, S)) (ha : nAsk ⟨sa, sz, gc, gd, ge⟩ b p = a) (h1 : D.length = k1) (h2 : S.length = k2) :
    Calls Try.prog 33 #[.pointer (some ⟨rb, 0, none⟩), .int .i64 b, .int .i64 p] w fun e w' => ∃ A1 c1 A2 c2, e = .returned (.tuple #[.slice A1 k1 c1, .slice A2 k2 c2, .int .i64 a]) ∧ Byts w' A1 D ∧ Byts w' A2 S ∧ Below w.heap.size w w' := by
  obtain ⟨l, hR⟩ := h.r
  have h3 := rnand_read hR b p
  rw [hr, ha] at h3
  refine h3.mono fun e w1 ⟨v, u, he, hr1, hr2, hx⟩ => ?_
  obtain ⟨B1, d1, rfl, hc1, hy1, hx1⟩ := hr1.byts
  obtain ⟨B2, d2, rfl, hc2, hy2, hx2⟩ := hr2.byts
  rw [h1, h2] at he
  exact ⟨B1, d1, B2, d2, he, hy1, hy2, hx⟩
theorem na_cut (h : NA w L cb m1 m2 m3 pb sa sz gc gd ge FP N n s) (hm : Meet B L cb m1 m2 m3 pb rb bb nb kb qb FP GP) (k : Int) (m : UInt8) (hk : k ≤ 9223372036854775807) :
    Calls Try.prog 18 #[.pointer (some ⟨pb, 0, none⟩), .int .i64 k, .int .u8 (m.toNat : Int)] w fun e w' => e = .returned (.tuple #[]) ∧ NA w' L cb m1 m2 m3 pb sa sz gc gd ge FP N n (s.cut k m) ∧ Only [m1, m2, m3, pb] w w' :=
  (pow_cut pb FP s k m w h.p hk).mono fun e w1 ⟨he, hp, ho⟩ => ⟨he, ⟨h.c.only ho (NA.pn hm) (fun x hx => by simp at hx; subst hx; exact hm.ha.2), hp⟩, ho.mono (by simp)⟩
theorem nb_cut (h : NB w rb bb nb kb qb sa sz gc gd ge GP N n s) (hm : Meet B L cb m1 m2 m3 pb rb bb nb kb qb FP GP) (k : Int) (m : UInt8) (hk : k ≤ 9223372036854775807) :
    Calls Try.prog 28 #[.pointer (some ⟨qb, 0, none⟩), .int .i64 k, .int .u8 (m.toNat : Int)] w fun e w' => e = .returned (.tuple #[]) ∧ NB w' rb bb nb kb qb sa sz gc gd ge GP N n (s.cut k m) ∧ Only [bb, nb, kb, qb] w w' := by
  obtain ⟨l, hr⟩ := h.r
  exact (rpow_cut qb GP s k m w h.q hk).mono fun e w1 ⟨he, hp, ho⟩ => ⟨he, ⟨⟨l, hr.only ho (fun x hx hx2 => by simp at hx2; subst hx2; exact hm.q hx)⟩, hp⟩, ho.mono (by simp)⟩
theorem na_on (h : NA w L cb m1 m2 m3 pb sa sz gc gd ge FP N n s) (hm : Meet B L cb m1 m2 m3 pb rb bb nb kb qb FP GP) :
    Calls Try.prog 20 #[.pointer (some ⟨pb, 0, none⟩)] w fun e w' => e = .returned (.tuple #[]) ∧ NA w' L cb m1 m2 m3 pb sa sz gc gd ge FP N n s.on ∧ Only [m1, m2, m3, pb] w w' :=
  (pow_on pb FP s w h.p).mono fun e w1 ⟨he, hp, ho⟩ => ⟨he, ⟨h.c.only ho (NA.pn hm) (fun x hx => by simp at hx; subst hx; exact hm.ha.2), hp⟩, ho.mono (by simp)⟩
theorem nb_on (h : NB w rb bb nb kb qb sa sz gc gd ge GP N n s) (hm : Meet B L cb m1 m2 m3 pb rb bb nb kb qb FP GP) :
    Calls Try.prog 29 #[.pointer (some ⟨qb, 0, none⟩)] w fun e w' => e = .returned (.tuple #[]) ∧ NB w' rb bb nb kb qb sa sz gc gd ge GP N n s.on ∧ Only [bb, nb, kb, qb] w w' := by
  obtain ⟨l, hr⟩ := h.r
  exact (rpow_on qb GP s w h.q).mono fun e w1 ⟨he, hp, ho⟩ => ⟨he, ⟨⟨l, hr.only ho (fun x hx hx2 => by simp at hx2; subst hx2; exact hm.q hx)⟩, hp⟩, ho.mono (by simp)⟩

theorem nand_power {pp : Option Addr} {g : Geo} (h : NandC w L cb m1 m2 m3 pp g N n) :
    Calls Try.prog 26 #[.pointer (some ⟨cb, 0, none⟩)] w fun e w' => e = .returned (.pointer pp) ∧ w = w' := by
  have c5 := h.blk.cell 5 _ rfl
  clear h
  go_enter Try.func26, Try.ntmps26
  go_wp2_with fail
  go_ret
  exact ⟨rfl, rfl⟩
theorem nand_geometry {pp : Option Addr} {g : Geo} (h : NandC w L cb m1 m2 m3 pp g N n) :
    Calls Try.prog 25 #[.pointer (some ⟨cb, 0, none⟩)] w fun e w' => e = .returned (.agg #[.int .i64 g.a, .int .i64 g.b, .int .i64 g.c, .int .i64 g.d, .int .i64 g.e]) ∧ Below w.heap.size w w' := by
  have hlt := h.lt cb (by simp)
  have c0 := h.blk.cell 0 _ rfl
  have c1 := h.blk.cell 1 _ rfl
  have c2 := h.blk.cell 2 _ rfl
  have c3 := h.blk.cell 3 _ rfl
  have c4 := h.blk.cell 4 _ rfl
  clear h
  rcases g with ⟨a, b, c, d, e⟩
  go_enter Try.func25, Try.ntmps25
  go_wp2_with fail
  refine bodyPost_ret (v := .agg #[.int .i64 a, .int .i64 b, .int .i64 c, .int .i64 d, .int .i64 e]) (by simp [results, Try.results25, go_sem]) rfl ⟨rfl, ?_⟩
  exact (Below.refl _ _).alloc (Nat.le_refl _) _
theorem nand_geometry_nil : Calls Try.prog 25 #[.pointer none] w fun e w' => e = .returned (.agg #[.int .i64 0, .int .i64 0, .int .i64 0, .int .i64 0, .int .i64 0]) ∧ Below w.heap.size w w' := by
  go_enter Try.func25, Try.ntmps25
  go_wp2_with fail
  refine bodyPost_ret (v := .agg #[.int .i64 0, .int .i64 0, .int .i64 0, .int .i64 0, .int .i64 0]) (by simp [results, Try.results25, go_sem]) rfl ⟨rfl, ?_⟩
  exact (Below.refl _ _).alloc (Nat.le_refl _) _
end

theorem PS.nProg_done (g : Geo) (s : PS) (n : NSt) (b p : Int) (d sp : List UInt8) : (nProg g s n b p d sp).2.2.done ≤ s.done + 1 := by
  have h1 := s.next_done_le
  unfold nProg
  split
  · split
    · exact Nat.le_add_right _ _
    · split
      · exact Nat.le_add_right _ _
      · split <;> exact h1
  · exact Nat.le_add_right _ _
theorem PS.nErase_done (g : Geo) (s : PS) (n : NSt) (b : Int) : (nErase g s n b).2.2.done ≤ s.done + 1 := by
  have h1 := s.next_done_le
  unfold nErase
  split
  · split
    · exact h1
    · split
      · exact h1
      · split <;> exact h1
  · exact Nat.le_add_right _ _

/-- One thing that is done to a chip of pages. -/
structure OpD where
  kind : Int
  blk : Int
  pag : Int
  n : Int
  mask : UInt8
  d : List UInt8
  sp : List UInt8

/-- The slice of these as it came in. -/
def OpsD (w : World) (A : Option Addr) (ops : List OpD) : Prop :=
  ops = [] ∨ ∃ b off, A = some ⟨b, off, none⟩ ∧ ∀ i, (h : i < ops.length) → ∃ AL c AS c',
    (∀ j u, [Value.int .i64 ops[i].kind, .int .i64 ops[i].blk, .int .i64 ops[i].pag, .int .i64 ops[i].n, .int .u8 (ops[i].mask.toNat : Int), .slice AL ops[i].d.length c, .slice AS ops[i].sp.length c'][j]? = some u → w.cell? ⟨b, off + i * 7 + j, none⟩ = some u) ∧
    (Byts w AL ops[i].d ∧ (ops[i].d.length ≤ c ∧ c ≤ maxLen)) ∧ (Byts w AS ops[i].sp ∧ (ops[i].sp.length ≤ c' ∧ c' ≤ maxLen)) ∧ (-9223372036854775808 ≤ ops[i].blk ∧ ops[i].blk ≤ 9223372036854775807) ∧ (-9223372036854775808 ≤ ops[i].pag ∧ ops[i].pag ≤ 9223372036854775807) ∧ (-9223372036854775808 ≤ ops[i].n ∧ ops[i].n ≤ 9223372036854775807)

theorem opsD_of {w : World} {cs : List Value} (h : Rd Try.prog w 49 cs) : ∃ A c, ∃ ops : List OpD, cs = [.slice A ops.length c] ∧ (ops.length ≤ c ∧ c ≤ maxLen) ∧ OpsD w A ops := by
  obtain ⟨A, len, cap, rfl, h1, h2, _, h3⟩ := h.slice Try.underlying49 (sz := 7) (by kernel_rfl) (by omega)
  rcases h3 with rfl | ⟨b, off, rfl, hel⟩
  · exact ⟨A, cap, [], rfl, ⟨h1, h2⟩, Or.inl rfl⟩
  · have hx : ∀ i, i < len → ∃ o : OpD, ∃ AL c AS c',
        (∀ j u, [Value.int .i64 o.kind, .int .i64 o.blk, .int .i64 o.pag, .int .i64 o.n, .int .u8 (o.mask.toNat : Int), .slice AL o.d.length c, .slice AS o.sp.length c'][j]? = some u → w.cell? ⟨b, off + i * 7 + j, none⟩ = some u) ∧
        (Byts w AL o.d ∧ (o.d.length ≤ c ∧ c ≤ maxLen)) ∧ (Byts w AS o.sp ∧ (o.sp.length ≤ c' ∧ c' ≤ maxLen)) ∧ (-9223372036854775808 ≤ o.blk ∧ o.blk ≤ 9223372036854775807) ∧ (-9223372036854775808 ≤ o.pag ∧ o.pag ≤ 9223372036854775807) ∧ (-9223372036854775808 ≤ o.n ∧ o.n ≤ 9223372036854775807) := fun i hi => by
      obtain ⟨cs', hl, hc, hr⟩ := hel i hi
      obtain ⟨_, hf⟩ := hr.struct Try.underlying58
      have c1 : Try.prog.cellsOf 3 = 1 := by kernel_rfl
      have c2 : Try.prog.cellsOf 5 = 1 := by kernel_rfl
      have c3 : Try.prog.cellsOf 33 = 1 := by kernel_rfl
      have f0 : Rd Try.prog w 3 ((cs'.drop 0).take (Try.prog.cellsOf 3)) := hf 0 _ rfl
      have f1 : Rd Try.prog w 3 ((cs'.drop 1).take (Try.prog.cellsOf 3)) := hf 1 _ rfl
      have f2 : Rd Try.prog w 3 ((cs'.drop 2).take (Try.prog.cellsOf 3)) := hf 2 _ rfl
      have f3 : Rd Try.prog w 3 ((cs'.drop 3).take (Try.prog.cellsOf 3)) := hf 3 _ rfl
      have f4 : Rd Try.prog w 5 ((cs'.drop 4).take (Try.prog.cellsOf 5)) := hf 4 _ rfl
      have f5 : Rd Try.prog w 33 ((cs'.drop 5).take (Try.prog.cellsOf 33)) := hf 5 _ rfl
      have f6 : Rd Try.prog w 33 ((cs'.drop 6).take (Try.prog.cellsOf 33)) := hf 6 _ rfl
      rw [c1] at f0 f1 f2 f3
      rw [c2] at f4
      rw [c3] at f5 f6
      obtain ⟨n0, e0, w0⟩ := f0.int Try.underlying3
      obtain ⟨n1, e1, w1⟩ := f1.int Try.underlying3
      obtain ⟨n2, e2, w2⟩ := f2.int Try.underlying3
      obtain ⟨n3, e3, w3⟩ := f3.int Try.underlying3
      obtain ⟨n4, e4, w4⟩ := f4.int Try.underlying5
      obtain ⟨AL, c, l, e5, hcap, hby⟩ := f5.byts Try.underlying33 Try.underlying5 c2
      obtain ⟨AS, c', l', e6, hcap', hby'⟩ := f6.byts Try.underlying33 Try.underlying5 c2
      obtain ⟨y, rfl⟩ := byte_of (wf_u8 w4)
      match cs', hl with
      | [v0, v1, v2, v3, v4, v5, v6], _ =>
        obtain rfl := (List.cons.inj e0).1
        obtain rfl := (List.cons.inj e1).1
        obtain rfl := (List.cons.inj e2).1
        obtain rfl := (List.cons.inj e3).1
        obtain rfl := (List.cons.inj e4).1
        obtain rfl := (List.cons.inj e5).1
        obtain rfl := (List.cons.inj e6).1
        exact ⟨⟨n0, n1, n2, n3, y, l, l'⟩, AL, c, AS, c', hc, ⟨hby, hcap⟩, ⟨hby', hcap'⟩, wf_i64 w1, wf_i64 w2, wf_i64 w3⟩
    classical
    let f : Nat → OpD := fun i => if hi : i < len then Classical.choose (hx i hi) else ⟨0, 0, 0, 0, 0, [], []⟩
    have hf : ∀ i, (hi : i < len) → f i = Classical.choose (hx i hi) := fun i hi => dif_pos hi
    refine ⟨_, cap, (List.range len).map f, by simp, by simpa using ⟨h1, h2⟩, Or.inr ⟨b, off, rfl, fun i hi => ?_⟩⟩
    have hi' : i < len := by simpa using hi
    have := Classical.choose_spec (hx i hi')
    simpa [hf i hi'] using this
end Go.Proofs.Ytionjddcahgpkaa
