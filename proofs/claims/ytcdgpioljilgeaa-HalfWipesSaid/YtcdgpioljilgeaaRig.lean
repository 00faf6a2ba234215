/- A chip together with its power: one word for both, and the contracts in it. -/
import Derived.Test.YtcdgpioljilgeaaNor5
import Derived.Test.YtcdgpioljilgeaaNorQ
import Derived.Test.YtcdgpioljilgeaaPlay
set_option linter.unusedVariables false
set_option maxRecDepth 100000
set_option linter.unusedSimpArgs false
namespace Go.Proofs.Ytcdgpioljilgeaa
open Go.RowKit

/-- A chip at cb (its bytes at bb, its counts at mb), its power at pb in the blocks of F; all from block B on. -/
structure Rig (B : Nat) (w : World) (cb bb mb pb : Nat) (F : List Nat) (g : Geo) (l : List UInt8) (N : Nat) (cnt : Int → Int) (s : PS) : Prop where
  c : Chip w cb bb mb (some ⟨pb, 0, none⟩) g l N cnt
  p : Pow w pb F s
  d : ∀ x ∈ F, x ∉ [cb, bb, mb]
  up : ∀ x ∈ [cb, bb, mb], B ≤ x
  upF : ∀ x ∈ F, B ≤ x

section
variable {B : Nat} {w w' : World} {cb bb mb pb : Nat} {F S : List Nat} {g : Geo} {l l' : List UInt8} {N : Nat} {cnt : Int → Int} {s s' : PS}

theorem Rig.below (h : Rig B w cb bb mb pb F g l N cnt s) (hb : Below w.heap.size w w') : Rig B w' cb bb mb pb F g l N cnt s :=
  ⟨h.c.below hb, h.p.below hb, h.d, h.up, h.upF⟩
theorem Rig.only (h : Rig B w cb bb mb pb F g l N cnt s) (ho : Only S w w') (h1 : ∀ x ∈ [cb, bb, mb], x ∉ S) (h2 : ∀ x ∈ F, x ∉ S) : Rig B w' cb bb mb pb F g l N cnt s :=
  ⟨h.c.only ho h1, h.p.only ho h2, h.d, h.up, h.upF⟩
theorem Rig.drewN (h : Rig B w cb bb mb pb F g l N cnt s) (n : Nat) : Rig B (w.drewN n) cb bb mb pb F g l N cnt s := h.below (below_drewN (Below.refl _ _) n)
theorem Rig.own (h : Rig B w cb bb mb pb F g l N cnt s) : ∀ x ∈ [bb, mb, pb], B ≤ x := by
  intro x hx
  simp at hx
  rcases hx with rfl | rfl | rfl
  · exact h.up _ (by simp)
  · exact h.up _ (by simp)
  · exact h.upF _ h.p.head
theorem Rig.own2 (h : Rig B w cb bb mb pb F g l N cnt s) : ∀ x ∈ [bb, pb], B ≤ x := fun x hx => h.own x (by simp at hx ⊢; omega)
theorem Rig.own1 (h : Rig B w cb bb mb pb F g l N cnt s) : ∀ x ∈ [pb], B ≤ x := fun x hx => h.own x (by simp at hx ⊢; omega)
theorem Rig.fresh (h : Rig B w cb bb mb pb F g l N cnt s) {a : World} {B0 : Nat} (hB : B0 ≤ B) (ha : Below B0 a w) (hs : B0 ≤ a.heap.size) (ho : Only [bb, mb, pb] w w') : Below B0 a w' :=
  ha.trans (ho.below (fun x hx => Nat.le_trans hB (h.own x hx)) (Nat.le_trans hs ha.size))
theorem Rig.pn (h : Rig B w cb bb mb pb F g l N cnt s) : pb ≠ cb ∧ pb ≠ bb ∧ pb ≠ mb := by
  have := h.d _ h.p.head
  simpa using this
theorem Rig.lt (h : Rig B w cb bb mb pb F g l N cnt s) : bb < w.heap.size ∧ pb < w.heap.size := ⟨h.c.lt bb (by simp), h.p.lt pb h.p.head⟩
theorem Rig.len (h : Rig B w cb bb mb pb F g l N cnt s) : l.length = (g.a * g.b).toNat := by have := h.c.len; omega

theorem rig_program (h : Rig B w cb bb mb pb F g l N cnt s) (x : Int) (hx : -9223372036854775808 ≤ x ∧ x ≤ 9223372036854775807) (A : Option Addr) (n c : Nat) (bs : List UInt8) (hb : Byts w A bs) (hn : n = bs.length) (hn2 : bs.length ≤ 9223372036854775807)
    (hA : 0 < bs.length → ∀ y, A = some y → y.block ≠ bb ∧ y.block ≠ pb) (hdone : s.done + bs.length ≤ 1000000000000) {r : Int} (hE : progE s l x bs = (r, l', s')) :
    Calls Try.prog 19 #[.pointer (some ⟨cb, 0, none⟩), .int .i64 x, .slice A n c] w fun e w' => e = .returned (.int .i64 r) ∧ Rig B w' cb bb mb pb F g l' N cnt s' ∧ Only [bb, pb] w w' := by
  have h1 := nor_program h.c h.p h.d x hx A n c bs hb hn hn2 hA hdone
  rw [hE] at h1
  exact h1.mono fun e w1 ⟨he, hc, hp, ho⟩ => ⟨he, ⟨hc, hp, h.d, h.up, h.upF⟩, ho⟩

theorem rig_erase (h : Rig B w cb bb mb pb F g l N cnt s) (hN : N ≤ 1000000000) (x : Int) (hx : -9223372036854775808 ≤ x ∧ x ≤ 9223372036854775807) (hdone : s.done ≤ 1000000000000) {r : Int} {cnt' : Int → Int} (hE : eraseE g s l cnt x = (r, l', s', cnt')) :
    Calls Try.prog 21 #[.pointer (some ⟨cb, 0, none⟩), .int .i64 x] w fun e w' => e = .returned (.int .i64 r) ∧ Rig B w' cb bb mb pb F g l' (N + 1) cnt' s' ∧ Only [bb, mb, pb] w w' := by
  have h1 := nor_erase h.c hN h.p h.d x hx hdone
  rw [hE] at h1
  exact h1.mono fun e w1 ⟨he, hc, hp, ho⟩ => ⟨he, ⟨hc, hp, h.d, h.up, h.upF⟩, ho⟩

theorem rig_cut (h : Rig B w cb bb mb pb F g l N cnt s) (n : Int) (k : UInt8) (hn : n ≤ 9223372036854775807) :
    Calls Try.prog 25 #[.pointer (some ⟨pb, 0, none⟩), .int .i64 n, .int .u8 (k.toNat : Int)] w fun e w' => e = .returned (.tuple #[]) ∧ Rig B w' cb bb mb pb F g l N cnt (s.cut n k) ∧ Only [pb] w w' :=
  (pow_cut pb F s n k w h.p hn).mono fun e w1 ⟨he, hp, ho⟩ => ⟨he, ⟨h.c.only ho (fun y hy => by have := h.pn; simp at hy ⊢; omega), hp, h.d, h.up, h.upF⟩, ho⟩
theorem rig_on (h : Rig B w cb bb mb pb F g l N cnt s) :
    Calls Try.prog 26 #[.pointer (some ⟨pb, 0, none⟩)] w fun e w' => e = .returned (.tuple #[]) ∧ Rig B w' cb bb mb pb F g l N cnt s.on ∧ Only [pb] w w' :=
  (pow_on pb F s w h.p).mono fun e w1 ⟨he, hp, ho⟩ => ⟨he, ⟨h.c.only ho (fun y hy => by have := h.pn; simp at hy ⊢; omega), hp, h.d, h.up, h.upF⟩, ho⟩

theorem rig_new {W : World} (hp : Pow W pb [pb] s) (hB : B ≤ pb) (hBw : B ≤ W.heap.size) (hok : g.ok) :
    Calls Try.prog 17 #[g.val, .pointer (some ⟨pb, 0, none⟩)] W fun e w' => ∃ cb bb mb, e = .returned (.tuple #[.pointer (some ⟨cb, 0, none⟩), .int .i64 0]) ∧ Rig B w' cb bb mb pb [pb] g (ffs (g.a * g.b).toNat) 0 (fun _ => 0) s ∧ Below W.heap.size W w' := by
  refine (nor_new g (some ⟨pb, 0, none⟩) W hok.wf).mono fun e w1 ⟨hb, hr⟩ => ?_
  rcases hr with ⟨hn, _⟩ | ⟨_, cb, bb, mb, he, h1, h2, h3, hc⟩
  · exact (hn hok).elim
  · have hpl := hp.lt pb (by simp)
    exact ⟨cb, bb, mb, he, ⟨hc, hp.below hb, fun x hx => by simp at hx ⊢; omega, fun x hx => by simp at hx; omega, fun x hx => by simp at hx; omega⟩, hb⟩
end

section
variable {B : Nat} {w : World} {cb bb mb pb : Nat} {F : List Nat} {g : Geo} {l : List UInt8} {N : Nat} {cnt : Int → Int} {s : PS}
theorem rig_read (h : Rig B w cb bb mb pb F g l N cnt s) (x n : Int) (hx : -9223372036854775808 ≤ x ∧ x ≤ 9223372036854775807) (hn : -9223372036854775808 ≤ n ∧ n ≤ 9223372036854775807) {m : List UInt8} {r : Int} (hr : askE l.length x n = r) (hm : readL l x n = m) {k : Nat} (hk : m.length = k) :
    Calls Try.prog 20 #[.pointer (some ⟨cb, 0, none⟩), .int .i64 x, .int .i64 n] w fun e w' => ∃ A c, e = .returned (.tuple #[.slice A k c, .int .i64 r]) ∧ (k ≤ c ∧ c ≤ maxLen) ∧ Byts w' A m ∧ (∀ y, A = some y → w.heap.size ≤ y.block) ∧ Below w.heap.size w w' := by
  subst hk
  have h1 := nor_read h.c x n hx hn
  rw [hr, hm] at h1
  refine h1.mono fun e w1 ⟨v, he, ho, hb⟩ => ?_
  obtain ⟨A, c, rfl, hc, hby, hA⟩ := ho.byts
  exact ⟨A, c, he, hc, hby, fun y hy => (hA y hy).1, hb⟩
end

theorem Byts.lt {w : World} {A : Option Addr} {l : List UInt8} (h : Byts w A l) (h0 : 0 < l.length) : ∀ x, A = some x → x.block < w.heap.size := by
  intro x hx
  obtain ⟨b, off, e, hc⟩ := h.at h0
  rw [hx] at e
  cases e
  exact World.block_lt_of_cell? w _ hc

theorem byts_cells (w : World) (l : List UInt8) (q : Nat × Nat) : Byts (w.alloc (.cells (l.map fun x => Value.int .u8 (x.toNat : Int)).toArray 5 q)) (some ⟨w.heap.size, 0, none⟩) l :=
  Or.inr ⟨_, _, rfl, fun i hi => by
    rw [Nat.zero_add]
    exact new_cell w _ _ q i _ (by rw [List.getElem?_map, List.getElem?_eq_getElem hi]; rfl)⟩

/-- The smallest geometry. -/
def smallG : Geo := ⟨2, 256, 4, 2, 16⟩
theorem smallG_ok : smallG.ok := by decide
theorem smallG_is : playG ⟨0, 0, 0, 0, 0⟩ = smallG := by
  have h : ∀ n : Nat, pmod 0 n = 0 := fun n => by
    unfold pmod
    have : IntKind.u64.wrap 0 = 0 := by simp [IntKind.wrap, IntKind.bits, IntKind.signed]
    rw [this, Int.zero_tmod]
    unfold wrap64
    decide
  unfold playG
  simp only [h]
  rfl
theorem smallG_size : (smallG.a * smallG.b).toNat = 512 := rfl
theorem play_small (w : World) : Calls Try.prog 16 #[.agg #[.int .i64 0, .int .i64 0, .int .i64 0, .int .i64 0, .int .i64 0]] w fun e w' => e = .returned (.agg #[.int .i64 2, .int .i64 256, .int .i64 4, .int .i64 2, .int .i64 16]) ∧ Below w.heap.size w w' := by
  have h := play_geometry ⟨0, 0, 0, 0, 0⟩ w
  rw [smallG_is] at h
  exact h
end Go.Proofs.Ytcdgpioljilgeaa
