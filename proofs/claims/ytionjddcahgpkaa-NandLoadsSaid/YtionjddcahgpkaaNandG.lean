/- A chip stays while a row of slices grows; a geometry out of any one, and the box it lies in. -/
import Derived.Test.YtionjddcahgpkaaLawNand2
import Derived.Test.YtionjddcahgpkaaRowsR
import Derived.Test.YtionjddcahgpkaaNandS
set_option linter.unusedVariables false
set_option maxRecDepth 100000
set_option linter.unusedSimpArgs false
namespace Go.Proofs.Ytionjddcahgpkaa
open Go.RowKit

theorem playG_is (g : Geo) : ∃ sa sz gc gd ge : Nat, playG g = ⟨sa, sz, gc, gd, ge⟩ ∧ (Geo.mk sa sz gc gd ge).ok ∧ 2 ≤ sa ∧ sa ≤ 6 ∧ sa % 2 = 0 ∧ 256 ≤ sz ∧ sz ≤ 960 ∧ 4 ≤ gc ∧ gc ≤ 8 ∧ 2 ≤ gd ∧ gd ≤ 6 ∧ 16 ≤ ge ∧ ge ≤ 36 := by
  obtain ⟨h1, h2, h3, h4, h5⟩ := playG_bounds g
  have hok := playG_ok g
  refine ⟨2 + 2 * pmod g.a 3, 256 + 64 * pmod g.b 12, 4 + pmod g.c 5, 2 + pmod g.d 5, 16 + 4 * pmod g.e 6, ?_, ?_, by omega, by omega, by omega, by omega, by omega, by omega, by omega, by omega, by omega, by omega, by omega⟩
  · unfold playG
    simp
  · unfold playG at hok
    simpa using hok

theorem play_geometry_as (g0 g1 g2 g3 g4 : Int) (W : World) {sa sz gc gd ge : Nat} (h : playG ⟨g0, g1, g2, g3, g4⟩ = ⟨sa, sz, gc, gd, ge⟩) :
    Calls Try.prog 7 #[.agg #[.int .i64 g0, .int .i64 g1, .int .i64 g2, .int .i64 g3, .int .i64 g4]] W fun e w' => e = .returned (.agg #[.int .i64 (sa : Int), .int .i64 (sz : Int), .int .i64 (gc : Int), .int .i64 (gd : Int), .int .i64 (ge : Int)]) ∧ Below W.heap.size W w' := by
  have h1 := play_geometry ⟨g0, g1, g2, g3, g4⟩ W
  rw [h] at h1
  exact h1

/-- Five numbers in a block of the call's own are turned. -/
theorem box_turned {W1 : World} {xb : Nat} {T : TypeId} {v0 v1 v2 v3 v4 u0 u1 u2 u3 u4 : Value} (h : Blk W1 xb T [v0, v1, v2, v3, v4]) :
    Blk (((((W1.setCell ⟨xb, 0, none⟩ u0).setCell ⟨xb, 1, none⟩ u1).setCell ⟨xb, 2, none⟩ u2).setCell ⟨xb, 3, none⟩ u3).setCell ⟨xb, 4, none⟩ u4) xb T [u0, u1, u2, u3, u4] :=
  ((((h.set 0 u0).set 1 u1).set 2 u2).set 3 u3).set 4 u4
theorem box_below {W W1 : World} {xb B : Nat} {u0 u1 u2 u3 u4 : Value} (h : Below B W W1) (hx : B ≤ xb) :
    Below B W (((((W1.setCell ⟨xb, 0, none⟩ u0).setCell ⟨xb, 1, none⟩ u1).setCell ⟨xb, 2, none⟩ u2).setCell ⟨xb, 3, none⟩ u3).setCell ⟨xb, 4, none⟩ u4) :=
  ((((h.setCell hx _).setCell hx _).setCell hx _).setCell hx _).setCell hx _


theorem MapIs.nocell {w : World} {P : Program} {k : TypeId} {b n : Nat} {f : Value → Option Value} (h : MapIs w P k b n f) (i : Nat) : w.cell? ⟨b, i, none⟩ = none := by
  obtain ⟨D, ⟨es, clock, hb, r⟩, h2⟩ := h
  unfold World.cell?
  simp only [hb]
theorem NandC.grow {w w' : World} {L cb m1 m2 m3 : Nat} {pp : Option Addr} {g : Geo} {N : Nat} {n : NSt} {o : Option Nat} (h : NandC w L cb m1 m2 m3 pp g N n) (hg : w.grownBy w' o) (hh : ∀ q, o = some q → ∃ A k c, w.cell? ⟨q, 0, none⟩ = some (.slice A k c)) : NandC w' L cb m1 m2 m3 pp g N n := by
  cases o with
  | none => exact h.below (below_of_grown hg (Nat.le_refl _) (fun k e => by cases e))
  | some q =>
    have ho := Only.of_grown hg
    obtain ⟨A0, k0, c0, hs⟩ := hh q rfl
    have hok := h.ok
    unfold Geo.ok at hok
    obtain ⟨h1, ⟨f, h2, h2'⟩, ⟨f3, h3, h3'⟩, ⟨f4, h4, h4'⟩, h5, h6, h7, h8, h9, h10⟩ := h
    have n0 : cb ∉ [q] := fun e => by
      have e2 : cb = q := by simpa using e
      have := h1.cell 0 _ rfl
      rw [e2, hs] at this
      cases this
    have nm : ∀ (m n : Nat) (f : Value → Option Value), MapIs w Try.prog 84 m n f → m ∉ [q] := fun m n f hm e => by
      have e2 : m = q := by simpa using e
      have := hm.nocell 0
      rw [e2, hs] at this
      cases this
    have hby : ∀ (A : Option Addr) (l : List UInt8), Byts w A l → (∀ x, A = some x → L ≤ x.block ∧ x.off = 0) → Byts w' A l := fun A l hb hx => by
      refine hb.only ho (fun x e h0 hm => ?_)
      obtain ⟨b, off, e2, hc⟩ := hb.at h0
      rw [e] at e2
      cases e2
      have h00 := (hx _ e).2
      simp only at h00
      subst h00
      have e3 : b = q := by simpa using hm
      rw [Nat.zero_add, e3, hs] at hc
      cases hc
    refine ⟨h1.only ho n0, ⟨f, h2.only ho (nm _ _ _ h2), fun b p hb => ?_⟩, ⟨f3, h3.only ho (nm _ _ _ h3), h3'⟩, ⟨f4, h4.only ho (nm _ _ _ h4), h4'⟩, h5, h6, h7, h8, h9, Nat.le_trans h10 ho.size⟩
    rcases h2' b p hb with hn | ⟨A, c, A', c', a1, a2, a3, a4, a5, a6, a7⟩
    · exact Or.inl hn
    · exact Or.inr ⟨A, c, A', c', a1, a2, a3, hby _ _ a4 a6, hby _ _ a5 a7, a6, a7⟩
theorem Pow.grow {w w' : World} {b : Nat} {F : List Nat} {s : PS} {o : Option Nat} (h : Pow w b F s) (hg : w.grownBy w' o) (hh : ∀ q, o = some q → ∃ A k c, w.cell? ⟨q, 0, none⟩ = some (.slice A k c)) : Pow w' b F s := by
  cases o with
  | none => exact h.below (below_of_grown hg (Nat.le_refl _) (fun k e => by cases e))
  | some q =>
    obtain ⟨A0, k0, c0, hs⟩ := hh q rfl
    refine h.only (Only.of_grown hg) (fun x hx hm => ?_)
    have e2 : x = q := by simpa using hm
    obtain ⟨m, G, h1, h2, rfl, h3⟩ := h
    rcases List.mem_cons.1 hx with e | hx
    · have := h1.cell 0 _ rfl
      rw [← e, e2, hs] at this
      cases this
    · rcases h2 with ⟨_, _, rfl⟩ | ⟨mb, n, f, rfl, h4, _, rfl⟩
      · cases hx
      · have e3 : x = mb := by simpa using hx
        have := h4.nocell 0
        rw [← e3, e2, hs] at this
        cases this
theorem Blk.grow {w w' : World} {b : Nat} {T : TypeId} {x : Int} {cs : List Value} {o : Option Nat} (h : Blk w b T (.int .i64 x :: cs)) (hg : w.grownBy w' o) (hh : ∀ q, o = some q → ∃ A k c, w.cell? ⟨q, 0, none⟩ = some (.slice A k c)) : Blk w' b T (.int .i64 x :: cs) := by
  cases o with
  | none => exact h.below (below_of_grown hg (Nat.le_refl _) (fun k e => by cases e))
  | some q =>
    obtain ⟨A0, k0, c0, hs⟩ := hh q rfl
    refine h.only (Only.of_grown hg) (fun hm => ?_)
    have e2 : b = q := by simpa using hm
    have := h.cell 0 _ rfl
    rw [e2, hs] at this
    cases this

/-- What stands while NandStays goes on: the geometry's box q3, the chip, power, the rows that came in, the rows that are wanted. -/
structure CtxS (w0 : World) (q3 L cb m1 m2 m3 pb : Nat) (sa sz gc gd ge : Nat) (N : Nat) (n : NSt) (s : PS) (A : Option Addr) (xs : List (List UInt8)) (v : Value) (ws : List (List UInt8)) (w : World) : Prop where
  c : NandC w L cb m1 m2 m3 (some ⟨pb, 0, none⟩) ⟨sa, sz, gc, gd, ge⟩ N n
  p : Pow w pb [pb] s
  f : pb ∉ [cb, m1, m2, m3] ∧ pb < L
  k : Blk w q3 23 [.int .i64 (sa : Int), .int .i64 (sz : Int), .int .i64 (gc : Int), .int .i64 (gd : Int), .int .i64 (ge : Int)]
  kn : q3 ∉ [m1, m2, m3, pb]
  r : Rows w0 A xs
  wt : Want w L v ws
  up : ∀ x ∈ [m1, m2, m3, pb], w0.heap.size ≤ x
  bel : Below w0.heap.size w0 w
section
variable {w0 w w' : World} {q3 L cb m1 m2 m3 pb : Nat} {sa sz gc gd ge : Nat} {N : Nat} {n : NSt} {s : PS} {A : Option Addr} {xs ws : List (List UInt8)} {v : Value}
theorem CtxS.below (h : CtxS w0 q3 L cb m1 m2 m3 pb sa sz gc gd ge N n s A xs v ws w) (hx : Below w.heap.size w w') : CtxS w0 q3 L cb m1 m2 m3 pb sa sz gc gd ge N n s A xs v ws w' :=
  ⟨h.c.below hx, h.p.below hx, h.f, h.k.below hx, h.kn, h.r, h.wt.below hx, h.up, h.bel.trans (hx.mono h.bel.size)⟩
theorem CtxS.lo (h : CtxS w0 q3 L cb m1 m2 m3 pb sa sz gc gd ge N n s A xs v ws w) : ∀ x ∈ [m1, m2, m3, pb], x < L := fun x hx => by
  have h1 := h.c.up m1 (by simp)
  have h2 := h.c.up m2 (by simp)
  have h3 := h.c.up m3 (by simp)
  have h4 := h.f.2
  simp at hx
  omega
theorem CtxS.turn (h : CtxS w0 q3 L cb m1 m2 m3 pb sa sz gc gd ge N n s A xs v ws w) (ho : Only [m1, m2, m3, pb] w w') {N' : Nat} {n' : NSt} {s' : PS} (hc : NandC w' L cb m1 m2 m3 (some ⟨pb, 0, none⟩) ⟨sa, sz, gc, gd, ge⟩ N' n') (hp : Pow w' pb [pb] s') : CtxS w0 q3 L cb m1 m2 m3 pb sa sz gc gd ge N' n' s' A xs v ws w' :=
  ⟨hc, hp, h.f, h.k.only ho h.kn, h.kn, h.r, h.wt.only ho h.lo, h.up, h.bel.trans (ho.below h.up h.bel.size)⟩
theorem CtxS.hd (h : CtxS w0 q3 L cb m1 m2 m3 pb sa sz gc gd ge N n s A xs v ws w) : (∀ x ∈ [pb], x ∉ [cb, m1, m2, m3]) ∧ pb < L := ⟨fun x hx => by simp at hx; subst hx; exact h.f.1, h.f.2⟩
theorem CtxS.grow (h : CtxS w0 q3 L cb m1 m2 m3 pb sa sz gc gd ge N n s A xs v ws w) (hg : w.grownBy w' v.ownBlock) (hh : ∀ q, v.ownBlock = some q → ∃ A k c, w.cell? ⟨q, 0, none⟩ = some (.slice A k c)) {v' : Value} {ws' : List (List UInt8)} (hw : Want w' L v' ws') : CtxS w0 q3 L cb m1 m2 m3 pb sa sz gc gd ge N n s A xs v' ws' w' :=
  ⟨h.c.grow hg hh, h.p.grow hg hh, h.f, h.k.grow hg hh, h.kn, h.r, hw, h.up, h.bel.grown hg h.bel.size (fun q e => by
    obtain ⟨svs, h1, _⟩ := h.wt
    have e1 := (h1.lt e).1
    have e2 := h.lo pb (by simp)
    have e3 := h.up pb (by simp)
    omega)⟩
theorem CtxS.cells (h : CtxS w0 q3 L cb m1 m2 m3 pb sa sz gc gd ge N n s A xs v ws w) : w.cell? ⟨q3, 2, none⟩ = some (.int .i64 (gc : Int)) ∧ w.cell? ⟨q3, 3, none⟩ = some (.int .i64 (gd : Int)) ∧ w.cell? ⟨q3, 4, none⟩ = some (.int .i64 (ge : Int)) := ⟨h.k.cell 2 _ rfl, h.k.cell 3 _ rfl, h.k.cell 4 _ rfl⟩
end
end Go.Proofs.Ytionjddcahgpkaa
