/- A chip, its power and rows of bytes, as they stand while a law goes on; the walk of NandTorn. -/
import Derived.Test.YtionjddcahgpkaaLawNand
set_option linter.unusedVariables false
set_option maxRecDepth 100000
set_option linter.unusedSimpArgs false
namespace Go.Proofs.Ytionjddcahgpkaa
open Go.RowKit

/-- A chip, its power, and rows of bytes that lie from block L on. -/
structure CtxT (w0 : World) (L cb m1 m2 m3 pb : Nat) (g : Geo) (N : Nat) (n : NSt) (FP : List Nat) (s : PS) (R : List (Option Addr × List UInt8)) (w : World) : Prop where
  c : NandC w L cb m1 m2 m3 (some ⟨pb, 0, none⟩) g N n
  p : Pow w pb FP s
  f : ∀ x ∈ FP, x ∉ [cb, m1, m2, m3]
  l : pb < L
  up : ∀ x ∈ [m1, m2, m3, pb], w0.heap.size ≤ x
  rows : ∀ e ∈ R, Byts w e.1 e.2 ∧ ∀ x, e.1 = some x → L ≤ x.block
  bel : Below w0.heap.size w0 w

section
variable {w0 w w' : World} {L cb m1 m2 m3 pb : Nat} {g : Geo} {N : Nat} {n : NSt} {FP : List Nat} {s : PS} {R : List (Option Addr × List UInt8)}
theorem CtxT.below (h : CtxT w0 L cb m1 m2 m3 pb g N n FP s R w) (hx : Below w.heap.size w w') : CtxT w0 L cb m1 m2 m3 pb g N n FP s R w' :=
  ⟨h.c.below hx, h.p.below hx, h.f, h.l, h.up, fun e he => ⟨(h.rows e he).1.below hx, (h.rows e he).2⟩, h.bel.trans (hx.mono h.bel.size)⟩
theorem CtxT.lo (h : CtxT w0 L cb m1 m2 m3 pb g N n FP s R w) : ∀ x ∈ [m1, m2, m3, pb], x < L := fun x hx => by
  have h1 := h.c.up m1 (by simp)
  have h2 := h.c.up m2 (by simp)
  have h3 := h.c.up m3 (by simp)
  have h4 := h.l
  simp at hx
  omega
theorem CtxT.turn (h : CtxT w0 L cb m1 m2 m3 pb g N n FP s R w) (ho : Only [m1, m2, m3, pb] w w') {N' : Nat} {n' : NSt} {FP' : List Nat} {s' : PS} (hc : NandC w' L cb m1 m2 m3 (some ⟨pb, 0, none⟩) g N' n') (hp : Pow w' pb FP' s') (hf : ∀ x ∈ FP', x ∉ [cb, m1, m2, m3]) : CtxT w0 L cb m1 m2 m3 pb g N' n' FP' s' R w' :=
  ⟨hc, hp, hf, h.l, h.up, fun e he => ⟨(h.rows e he).1.only ho (fun x hx h0 hm => by have := (h.rows e he).2 x hx; have := h.lo _ hm; omega), (h.rows e he).2⟩, h.bel.trans (ho.below h.up h.bel.size)⟩
theorem CtxT.row (h : CtxT w0 L cb m1 m2 m3 pb g N n FP s R w) {A : Option Addr} {l : List UInt8} (hb : Byts w A l) (hA : ∀ x, A = some x → L ≤ x.block) : CtxT w0 L cb m1 m2 m3 pb g N n FP s ((A, l) :: R) w :=
  ⟨h.c, h.p, h.f, h.l, h.up, fun e he => by rcases List.mem_cons.1 he with rfl | he; exact ⟨hb, hA⟩; exact h.rows e he, h.bel⟩
theorem CtxT.hd (h : CtxT w0 L cb m1 m2 m3 pb g N n FP s R w) : (∀ x ∈ FP, x ∉ [cb, m1, m2, m3]) ∧ pb < L := ⟨h.f, h.l⟩
theorem CtxT.pn (h : CtxT w0 L cb m1 m2 m3 pb g N n FP s R w) : ∀ x ∈ [cb, m1, m2, m3], x ∉ [pb] := fun x hx hm => by
  simp at hm
  subst hm
  exact h.f _ h.p.head' hx
theorem CtxT.onlyP (h : CtxT w0 L cb m1 m2 m3 pb g N n FP s R w) (ho : Only [pb] w w') {FP' : List Nat} {s' : PS} (hp : Pow w' pb FP' s') (hf : ∀ x ∈ FP', x ∉ [cb, m1, m2, m3]) : CtxT w0 L cb m1 m2 m3 pb g N n FP' s' R w' :=
  h.turn (ho.mono (by simp)) (h.c.only ho h.pn (fun x hx => by simp at hx; subst hx; exact h.l)) hp hf

theorem ct_program (h : CtxT w0 L cb m1 m2 m3 pb g N n FP s R w) (hN : N ≤ 1000000000) (b p : Int) (hb : -9223372036854775808 ≤ b ∧ b ≤ 9223372036854775807) (hp : -9223372036854775808 ≤ p ∧ p ≤ 9223372036854775807)
    (A : Option Addr) (k c : Nat) (d : List UInt8) (hm : (A, d) ∈ R) (hk : d.length = k) (hk2 : k ≤ 9223372036854775807) (A' : Option Addr) (k' c' : Nat) (sp : List UInt8) (hm' : (A', sp) ∈ R) (hk' : sp.length = k') (hk2' : k' ≤ 9223372036854775807) (hdone : s.done ≤ 900000000000) {r : Int} {n' : NSt} {s' : PS} (hE : nProg g s n b p d sp = (r, n', s')) :
    Calls Try.prog 12 #[.pointer (some ⟨cb, 0, none⟩), .int .i64 b, .int .i64 p, .slice A k c, .slice A' k' c'] w fun e w' => e = .returned (.int .i64 r) ∧ CtxT w0 L cb m1 m2 m3 pb g (N + 1) n' FP s' R w' ∧ Only [m1, m2, m3, pb] w w' := by
  have h1 := h.rows _ hm
  have h2 := h.rows _ hm'
  have hl := h.l
  refine (nand_program h.c hN h.p h.hd b p hb hp A k c d h1.1 hk hk2 A' k' c' sp h2.1 hk' hk2' (fun x e _ => by have := h1.2 x e; omega) (fun x e _ => by have := h2.2 x e; omega) hdone hE).mono ?_
  rintro e w1 ⟨rfl, hc, hp, ho⟩
  exact ⟨rfl, h.turn (ho.mono (by simp)) hc hp h.f, ho.mono (by simp)⟩
theorem ct_erase (h : CtxT w0 L cb m1 m2 m3 pb g N n FP s R w) (hN : N ≤ 1000000000) (b : Int) (hb : -9223372036854775808 ≤ b ∧ b ≤ 9223372036854775807) (hdone : s.done ≤ 900000000000) {r : Int} {n' : NSt} {s' : PS} (hE : nErase g s n b = (r, n', s')) :
    Calls Try.prog 13 #[.pointer (some ⟨cb, 0, none⟩), .int .i64 b] w fun e w' => e = .returned (.int .i64 r) ∧ CtxT w0 L cb m1 m2 m3 pb g (N + 40) n' FP s' R w' ∧ Only [m1, m2, m3, pb] w w' := by
  refine (nand_erase h.c hN h.p h.hd b hb hdone hE).mono ?_
  rintro e w1 ⟨rfl, hc, hp, ho⟩
  exact ⟨rfl, h.turn ho hc hp h.f, ho⟩
theorem ct_read (h : CtxT w0 L cb m1 m2 m3 pb g N n FP s R w) (b p : Int) {k1 k2 : Nat} (h1 : (nRead g n b p).1.length = k1) (h2 : (nRead g n b p).2.length = k2) :
    Calls Try.prog 15 #[.pointer (some ⟨cb, 0, none⟩), .int .i64 b, .int .i64 p] w fun e w' => ∃ A1 c1 A2 c2, e = .returned (.tuple #[.slice A1 k1 c1, .slice A2 k2 c2, .int .i64 (nAsk g b p)]) ∧ (k1 ≤ c1 ∧ k2 ≤ c2) ∧ CtxT w0 L cb m1 m2 m3 pb g N n FP s ((A1, (nRead g n b p).1) :: (A2, (nRead g n b p).2) :: R) w' ∧ Below w.heap.size w w' := by
  refine (nand_read h.c b p h1 h2).mono ?_
  rintro e w1 ⟨A1, c1, A2, c2, rfl, hr1, hr2, hx⟩
  have hL := h.c.le
  obtain ⟨B1, d1, e1, hc1, hy1, hx1⟩ := hr1.byts
  obtain ⟨B2, d2, e2, hc2, hy2, hx2⟩ := hr2.byts
  rw [h1] at e1 hc1
  rw [h2] at e2 hc2
  cases e1
  cases e2
  exact ⟨_, _, _, _, rfl, ⟨hc1.1, hc2.1⟩, ((h.below hx).row hy2 (fun x e => Nat.le_trans hL (hx2 x e))).row hy1 (fun x e => Nat.le_trans hL (hx1 x e)), hx⟩
theorem ct_on (h : CtxT w0 L cb m1 m2 m3 pb g N n FP s R w) :
    Calls Try.prog 20 #[.pointer (some ⟨pb, 0, none⟩)] w fun e w' => e = .returned (.tuple #[]) ∧ CtxT w0 L cb m1 m2 m3 pb g N n FP s.on R w' ∧ Only [m1, m2, m3, pb] w w' := by
  refine (pow_on pb FP s w h.p).mono ?_
  rintro e w1 ⟨rfl, hp, ho⟩
  exact ⟨rfl, h.onlyP ho hp h.f, ho.mono (by simp)⟩
theorem ct_cut (h : CtxT w0 L cb m1 m2 m3 pb g N n FP s R w) (k : Int) (m : UInt8) (hk : k ≤ 9223372036854775807) :
    Calls Try.prog 18 #[.pointer (some ⟨pb, 0, none⟩), .int .i64 k, .int .u8 (m.toNat : Int)] w fun e w' => e = .returned (.tuple #[]) ∧ CtxT w0 L cb m1 m2 m3 pb g N n FP (s.cut k m) R w' ∧ Only [m1, m2, m3, pb] w w' := by
  refine (pow_cut pb FP s k m w h.p hk).mono ?_
  rintro e w1 ⟨rfl, hp, ho⟩
  exact ⟨rfl, h.onlyP ho hp h.f, ho.mono (by simp)⟩
theorem ct_fail (h : CtxT w0 L cb m1 m2 m3 pb g N n FP s R w) (A : Option Addr) (c : Nat) (l : List Int) (hi : Ints w A l) (hwf : ∀ x ∈ l, (Lit.int .i64 x).wf = true) (hA : ∀ x, A = some x → 0 < l.length → L ≤ x.block) (hl : l.length ≤ 140737488351232) :
    Calls Try.prog 19 #[.pointer (some ⟨pb, 0, none⟩), .slice A l.length c] w fun e w' => e = .returned (.tuple #[]) ∧ (∃ FP', CtxT w0 L cb m1 m2 m3 pb g N n FP' (s.failOn l) R w') ∧ Only [m1, m2, m3, pb] w w' := by
  have hlt := h.c.lt
  have hl2 := h.l
  refine (pow_fail pb FP s A c l w h.p hi hwf (fun x e h0 => by have := hA x e h0; omega) hl).mono ?_
  rintro e w1 ⟨rfl, ⟨mb, hmb, hp⟩, ho⟩
  refine ⟨rfl, ⟨[pb, mb], h.onlyP ho hp (fun x hx hm => ?_)⟩, ho.mono (by simp)⟩
  simp only [List.mem_cons, List.not_mem_nil, or_false] at hx
  rcases hx with rfl | rfl
  · exact h.f _ h.p.head' hm
  · have := hlt _ hm; omega
end

theorem CtxT.own {w0 w w' : World} {L cb m1 m2 m3 pb : Nat} {g : Geo} {N : Nat} {n : NSt} {FP : List Nat} {s : PS} {R : List (Option Addr × List UInt8)} (h : CtxT w0 L cb m1 m2 m3 pb g N n FP s R w) {v : Value} {l : List UInt8} (ho : Own w L v l) (hx : Only [m1, m2, m3, pb] w w') : Own w' L v l :=
  ho.only hx (fun x e hm => by have := h.lo _ hm; have := (ho.lt e).1; omega)

/-- The first k bytes changed, the others as they were. -/
def mapTo (t : UInt8 → UInt8) (l : List UInt8) (k : Nat) : List UInt8 := (l.take k).map t ++ l.drop k
theorem mapTo_zero (t : UInt8 → UInt8) (l : List UInt8) : mapTo t l 0 = l := by simp [mapTo]
theorem mapTo_all (t : UInt8 → UInt8) (l : List UInt8) : mapTo t l l.length = l.map t := by simp [mapTo]
theorem mapTo_length (t : UInt8 → UInt8) (l : List UInt8) (k : Nat) : (mapTo t l k).length = l.length := by simp [mapTo]; omega
theorem mapTo_at (t : UInt8 → UInt8) (l : List UInt8) (k : Nat) (h : k < l.length) : (mapTo t l k)[k]'(by rw [mapTo_length]; exact h) = l[k] := by
  have e1 : ((l.take k).map t).length = k := by simp; omega
  unfold mapTo
  rw [List.getElem_append_right (by omega)]
  simp only [e1, Nat.sub_self, List.getElem_drop, Nat.add_zero]
theorem mapTo_set (t : UInt8 → UInt8) (l : List UInt8) (k : Nat) (h : k < l.length) : (mapTo t l k).set k (t l[k]) = mapTo t l (k + 1) := by
  have e1 : ((l.take k).map t).length = k := by simp; omega
  unfold mapTo
  rw [List.set_append_right _ _ (by omega), e1, Nat.sub_self, List.drop_eq_getElem_cons h, List.set_cons_zero, List.take_succ_eq_append_getElem h, List.map_append]
  simp
end Go.Proofs.Ytionjddcahgpkaa
