/- The program's chip and the reference's, side by side; the deeds that NorPlays is given. -/
import Derived.Test.YtcdgpioljilgeaaLawNor
import Derived.Test.YtcdgpioljilgeaaRefNor5
import Derived.Test.YtcdgpioljilgeaaReads
import Derived.Test.YtcdgpioljilgeaaKinds
set_option linter.unusedVariables false
set_option maxRecDepth 100000
set_option linter.unusedSimpArgs false
namespace Go.Proofs.Ytcdgpioljilgeaa
open Go.RowKit

/-- The reference's chip and its power. -/
structure RRig (B : Nat) (w : World) (rb rl kb qb : Nat) (g : Geo) (l : List UInt8) (N : Nat) (cnt : Int → Int) (s : PS) : Prop where
  c : RNor w rb rl kb (some ⟨qb, 0, none⟩) g l N cnt
  p : RPow w qb [qb] s
  d : ∀ x ∈ [qb], x ∉ [rb, rl, kb]
  up : ∀ x ∈ [rb, rl, kb, qb], B ≤ x

/-- Blocks of the one are not the other's. -/
def Apart (cb bb mb pb rb rl kb qb : Nat) : Prop := ∀ x ∈ [cb, bb, mb, pb], x ∉ [rb, rl, kb, qb]

section
variable {B : Nat} {w w' : World} {cb bb mb pb rb rl kb qb : Nat} {S : List Nat} {g : Geo} {l l' : List UInt8} {N : Nat} {cnt cnt' : Int → Int} {s s' : PS}

theorem RRig.below (h : RRig B w rb rl kb qb g l N cnt s) (hb : Below w.heap.size w w') : RRig B w' rb rl kb qb g l N cnt s :=
  ⟨h.c.below hb, h.p.below hb, h.d, h.up⟩
theorem RRig.only (h : RRig B w rb rl kb qb g l N cnt s) (ho : Only S w w') (h1 : ∀ x ∈ [rb, rl, kb, qb], x ∉ S) : RRig B w' rb rl kb qb g l N cnt s :=
  ⟨h.c.only ho (fun x hx => h1 x (by simp at hx ⊢; omega)), h.p.only ho (fun x hx => h1 x (by simp at hx ⊢; omega)), h.d, h.up⟩
theorem RRig.drewN (h : RRig B w rb rl kb qb g l N cnt s) (n : Nat) : RRig B (w.drewN n) rb rl kb qb g l N cnt s := h.below (below_drewN (Below.refl _ _) n)
theorem RRig.lt (h : RRig B w rb rl kb qb g l N cnt s) : rb < w.heap.size ∧ rl < w.heap.size ∧ kb < w.heap.size ∧ qb < w.heap.size :=
  ⟨h.c.lt rb (by simp), h.c.lt rl (by simp), h.c.lt kb (by simp), h.p.lt qb (by simp)⟩
theorem RRig.fresh (h : RRig B w rb rl kb qb g l N cnt s) {a : World} {B0 : Nat} (hB : B0 ≤ B) (ha : Below B0 a w) (hs : B0 ≤ a.heap.size) (ho : Only [rl, kb, qb] w w') : Below B0 a w' :=
  ha.trans (ho.below (fun x hx => Nat.le_trans hB (h.up x (by simp at hx ⊢; omega))) (Nat.le_trans hs ha.size))
theorem RRig.offL (h : RRig B w rb rl kb qb g l N cnt s) (ha : Apart cb bb mb pb rb rl kb qb) (ho : Only [bb, mb, pb] w w') : RRig B w' rb rl kb qb g l N cnt s :=
  h.only ho (fun x hx hx2 => ha x (by simp at hx2 ⊢; omega) hx)
theorem Rig.offR (h : Rig B w cb bb mb pb [pb] g l N cnt s) (ha : Apart cb bb mb pb rb rl kb qb) (ho : Only [rl, kb, qb] w w') : Rig B w' cb bb mb pb [pb] g l N cnt s :=
  h.only ho (fun x hx hx2 => ha x (by simp at hx ⊢; omega) (by simp at hx2 ⊢; omega)) (fun x hx hx2 => ha x (by simp at hx ⊢; omega) (by simp at hx2 ⊢; omega))

theorem rrig_program (h : RRig B w rb rl kb qb g l N cnt s) (x : Int) (hx : -9223372036854775808 ≤ x ∧ x ≤ 9223372036854775807) (A : Option Addr) (n c : Nat) (bs : List UInt8) (hb : Byts w A bs) (hn : n = bs.length) (hn2 : bs.length ≤ 9223372036854775807)
    (hA : 0 < bs.length → ∀ y, A = some y → y.block ≠ rl ∧ y.block ≠ qb) (hdone : s.done + bs.length ≤ 1000000000000) {r : Int} (hE : progE s l x bs = (r, l', s')) :
    Calls Try.prog 38 #[.pointer (some ⟨rb, 0, none⟩), .int .i64 x, .slice A n c] w fun e w' => e = .returned (.int .i64 r) ∧ RRig B w' rb rl kb qb g l' N cnt s' ∧ Only [rl, kb, qb] w w' := by
  have h1 := rnor_program h.c h.p h.d x hx A n c bs hb hn hn2 hA hdone
  rw [hE] at h1
  exact h1.mono fun e w1 ⟨he, hc, hp, ho⟩ => ⟨he, ⟨hc, hp, h.d, h.up⟩, ho.mono (by simp)⟩

theorem rrig_erase (h : RRig B w rb rl kb qb g l N cnt s) (hN : N ≤ 1000000000) (x : Int) (hx : -9223372036854775808 ≤ x ∧ x ≤ 9223372036854775807) (hdone : s.done ≤ 1000000000000) {r : Int} (hE : eraseE g s l cnt x = (r, l', s', cnt')) :
    Calls Try.prog 34 #[.pointer (some ⟨rb, 0, none⟩), .int .i64 x] w fun e w' => e = .returned (.int .i64 r) ∧ RRig B w' rb rl kb qb g l' (N + 1) cnt' s' ∧ Only [rl, kb, qb] w w' := by
  have h1 := rnor_erase h.c hN h.p h.d x hx hdone
  rw [hE] at h1
  exact h1.mono fun e w1 ⟨he, hc, hp, ho⟩ => ⟨he, ⟨hc, hp, h.d, h.up⟩, ho⟩

theorem RRig.pn (h : RRig B w rb rl kb qb g l N cnt s) : ∀ y ∈ [rb, rl, kb], y ∉ [qb] := fun y hy => by
  have := h.d qb (by simp)
  simp at this hy ⊢
  omega
theorem rrig_cut (h : RRig B w rb rl kb qb g l N cnt s) (n : Int) (k : UInt8) (hn : n ≤ 9223372036854775807) :
    Calls Try.prog 35 #[.pointer (some ⟨qb, 0, none⟩), .int .i64 n, .int .u8 (k.toNat : Int)] w fun e w' => e = .returned (.tuple #[]) ∧ RRig B w' rb rl kb qb g l N cnt (s.cut n k) ∧ Only [rl, kb, qb] w w' :=
  (rpow_cut qb [qb] s n k w h.p hn).mono fun e w1 ⟨he, hp, ho⟩ => ⟨he, ⟨h.c.only ho h.pn, hp, h.d, h.up⟩, ho.mono (by simp)⟩
theorem rrig_on (h : RRig B w rb rl kb qb g l N cnt s) :
    Calls Try.prog 36 #[.pointer (some ⟨qb, 0, none⟩)] w fun e w' => e = .returned (.tuple #[]) ∧ RRig B w' rb rl kb qb g l N cnt s.on ∧ Only [rl, kb, qb] w w' :=
  (rpow_on qb [qb] s w h.p).mono fun e w1 ⟨he, hp, ho⟩ => ⟨he, ⟨h.c.only ho h.pn, hp, h.d, h.up⟩, ho.mono (by simp)⟩

theorem rrig_read (h : RRig B w rb rl kb qb g l N cnt s) (x n : Int) (hx : -9223372036854775808 ≤ x ∧ x ≤ 9223372036854775807) (hn : -9223372036854775808 ≤ n ∧ n ≤ 9223372036854775807) {m : List UInt8} {r : Int} (hr : askE l.length x n = r) (hm : readL l x n = m) {k : Nat} (hk : m.length = k) :
    Calls Try.prog 40 #[.pointer (some ⟨rb, 0, none⟩), .int .i64 x, .int .i64 n] w fun e w' => ∃ A c, e = .returned (.tuple #[.slice A k c, .int .i64 r]) ∧ (k ≤ c ∧ c ≤ maxLen) ∧ Byts w' A m ∧ (∀ y, A = some y → w.heap.size ≤ y.block) ∧ Below w.heap.size w w' := by
  subst hk
  have h1 := rnor_read h.c x n hx hn
  rw [hr, hm] at h1
  refine h1.mono fun e w1 ⟨v, he, ho, hb⟩ => ?_
  obtain ⟨A, c, rfl, hc, hby, hA⟩ := ho.byts
  exact ⟨A, c, he, hc, hby, fun y hy => (hA y hy).1, hb⟩

theorem rrig_new {W : World} (hp : RPow W qb [qb] s) (hB : B ≤ qb) (hBw : B ≤ W.heap.size) (hok : g.ok) :
    Calls Try.prog 33 #[g.val, .pointer (some ⟨qb, 0, none⟩)] W fun e w' => ∃ rb rl kb, e = .returned (.tuple #[.pointer (some ⟨rb, 0, none⟩), .int .i64 0]) ∧ RRig B w' rb rl kb qb g (ffs (g.a * g.b).toNat) 0 (fun _ => 0) s ∧ Below W.heap.size W w' ∧ W.heap.size ≤ rb ∧ W.heap.size ≤ rl ∧ W.heap.size ≤ kb := by
  refine (rnor_new g (some ⟨qb, 0, none⟩) W hok).mono fun e w1 ⟨hb, rb, rl, kb, he, h1, h2, h3, hc⟩ => ?_
  have hpl := hp.lt qb (by simp)
  exact ⟨rb, rl, kb, he, ⟨hc, hp.below hb, fun x hx => by simp at hx ⊢; omega, fun x hx => by simp at hx; omega⟩, hb, h1, h2, h3⟩
end

theorem rig_new2 {B : Nat} {pb : Nat} {g : Geo} {s : PS} {W : World} (hp : Pow W pb [pb] s) (hB : B ≤ pb) (hBw : B ≤ W.heap.size) (hok : g.ok) :
    Calls Try.prog 17 #[g.val, .pointer (some ⟨pb, 0, none⟩)] W fun e w' => ∃ cb bb mb, e = .returned (.tuple #[.pointer (some ⟨cb, 0, none⟩), .int .i64 0]) ∧ Rig B w' cb bb mb pb [pb] g (ffs (g.a * g.b).toNat) 0 (fun _ => 0) s ∧ Below W.heap.size W w' ∧ W.heap.size ≤ cb ∧ W.heap.size ≤ bb ∧ W.heap.size ≤ mb := by
  refine (nor_new g (some ⟨pb, 0, none⟩) W hok.wf).mono fun e w1 ⟨hb, hr⟩ => ?_
  rcases hr with ⟨hn, _⟩ | ⟨_, cb, bb, mb, he, h1, h2, h3, hc⟩
  · exact (hn hok).elim
  · have hpl := hp.lt pb (by simp)
    exact ⟨cb, bb, mb, he, ⟨hc, hp.below hb, fun x hx => by simp at hx ⊢; omega, fun x hx => by simp at hx; omega, fun x hx => by simp at hx; omega⟩, hb, h1, h2, h3⟩

/-- Counts are of the chip's sectors alone. -/
def CntIn (g : Geo) (cnt : Int → Int) : Prop := ∀ x, ¬ secOk g x → cnt x = 0
theorem CntIn.erases {g : Geo} {cnt : Int → Int} (h : CntIn g cnt) (x : Int) : erasesE g cnt x = cnt x := by
  unfold erasesE
  split
  · rfl
  · rename_i hx; exact (h x hx).symm
theorem CntIn.erase {g : Geo} {s : PS} {l : List UInt8} {cnt : Int → Int} (h : CntIn g cnt) (x : Int) : CntIn g (eraseE g s l cnt x).2.2.2 := by
  unfold eraseE
  split
  · rename_i hx
    split
    · intro y hy
      show upC cnt x y = 0
      unfold upC
      rw [if_neg (by rintro rfl; exact hy hx)]
      exact h y hy
    · split <;> exact h
  · exact h
theorem PS.progL_done (s : PS) (l : List UInt8) (o : Nat) (bs : List UInt8) : (progL s l o bs).2.1.done ≤ s.done + bs.length := by
  induction bs generalizing s l o with
  | nil => exact Nat.le_refl _
  | cons x t ih =>
    have h1 := s.next_done_le
    unfold progL
    split
    · have := ih s.next (l.set o x) (o + 1)
      rw [List.length_cons]
      omega
    · rw [List.length_cons]
      split <;> (show s.next.done ≤ _; omega)
theorem PS.progE_done (s : PS) (l : List UInt8) (x : Int) (bs : List UInt8) : (progE s l x bs).2.2.done ≤ s.done + bs.length := by
  unfold progE
  split
  · split
    · exact Nat.le_add_right _ _
    · exact PS.progL_done _ _ _ _
  · exact Nat.le_add_right _ _
theorem PS.eraseE_done (g : Geo) (s : PS) (l : List UInt8) (cnt : Int → Int) (x : Int) : (eraseE g s l cnt x).2.2.1.done ≤ s.done + 1 := by
  have h1 := s.next_done_le
  unfold eraseE
  split
  · split
    · exact h1
    · split <;> exact h1
  · exact Nat.le_add_right _ _

/-- One thing that is done to a chip. -/
structure OpN where
  kind : Int
  at' : Int
  n : Int
  mask : UInt8
  l : List UInt8

/-- The slice of these as it came in. -/
def OpsN (w : World) (A : Option Addr) (ops : List OpN) : Prop :=
  ops = [] ∨ ∃ b off, A = some ⟨b, off, none⟩ ∧ ∀ i, (h : i < ops.length) → ∃ AL c,
    (∀ j u, [Value.int .i64 ops[i].kind, .int .i64 ops[i].at', .int .i64 ops[i].n, .int .u8 (ops[i].mask.toNat : Int), .slice AL ops[i].l.length c][j]? = some u → w.cell? ⟨b, off + i * 5 + j, none⟩ = some u) ∧
    Byts w AL ops[i].l ∧ (ops[i].l.length ≤ c ∧ c ≤ maxLen) ∧ (-9223372036854775808 ≤ ops[i].at' ∧ ops[i].at' ≤ 9223372036854775807) ∧ (-9223372036854775808 ≤ ops[i].n ∧ ops[i].n ≤ 9223372036854775807)

theorem opsN_of {w : World} {cs : List Value} (h : Rd Try.prog w 47 cs) : ∃ A c, ∃ ops : List OpN, cs = [.slice A ops.length c] ∧ (ops.length ≤ c ∧ c ≤ maxLen) ∧ OpsN w A ops := by
  obtain ⟨A, len, cap, rfl, h1, h2, _, h3⟩ := h.slice Try.underlying47 (sz := 5) (by kernel_rfl) (by omega)
  rcases h3 with rfl | ⟨b, off, rfl, hel⟩
  · exact ⟨A, cap, [], rfl, ⟨h1, h2⟩, Or.inl rfl⟩
  · have hx : ∀ i, i < len → ∃ o : OpN, ∃ AL c,
        (∀ j u, [Value.int .i64 o.kind, .int .i64 o.at', .int .i64 o.n, .int .u8 (o.mask.toNat : Int), .slice AL o.l.length c][j]? = some u → w.cell? ⟨b, off + i * 5 + j, none⟩ = some u) ∧
        Byts w AL o.l ∧ (o.l.length ≤ c ∧ c ≤ maxLen) ∧ (-9223372036854775808 ≤ o.at' ∧ o.at' ≤ 9223372036854775807) ∧ (-9223372036854775808 ≤ o.n ∧ o.n ≤ 9223372036854775807) := fun i hi => by
      obtain ⟨cs', hl, hc, hr⟩ := hel i hi
      obtain ⟨_, hf⟩ := hr.struct Try.underlying54
      have c1 : Try.prog.cellsOf 3 = 1 := by kernel_rfl
      have c2 : Try.prog.cellsOf 5 = 1 := by kernel_rfl
      have c3 : Try.prog.cellsOf 24 = 1 := by kernel_rfl
      have f0 : Rd Try.prog w 3 ((cs'.drop 0).take (Try.prog.cellsOf 3)) := hf 0 _ rfl
      have f1 : Rd Try.prog w 3 ((cs'.drop 1).take (Try.prog.cellsOf 3)) := hf 1 _ rfl
      have f2 : Rd Try.prog w 3 ((cs'.drop 2).take (Try.prog.cellsOf 3)) := hf 2 _ rfl
      have f3 : Rd Try.prog w 5 ((cs'.drop 3).take (Try.prog.cellsOf 5)) := hf 3 _ rfl
      have f4 : Rd Try.prog w 24 ((cs'.drop 4).take (Try.prog.cellsOf 24)) := hf 4 _ rfl
      rw [c1] at f0 f1 f2
      rw [c2] at f3
      rw [c3] at f4
      obtain ⟨n0, e0, w0⟩ := f0.int Try.underlying3
      obtain ⟨n1, e1, w1⟩ := f1.int Try.underlying3
      obtain ⟨n2, e2, w2⟩ := f2.int Try.underlying3
      obtain ⟨n3, e3, w3⟩ := f3.int Try.underlying5
      obtain ⟨AL, c, l, e4, hcap, hby⟩ := f4.byts Try.underlying24 Try.underlying5 c2
      obtain ⟨y, rfl⟩ := byte_of (wf_u8 w3)
      match cs', hl with
      | [v0, v1, v2, v3, v4], _ =>
        obtain rfl := (List.cons.inj e0).1
        obtain rfl := (List.cons.inj e1).1
        obtain rfl := (List.cons.inj e2).1
        obtain rfl := (List.cons.inj e3).1
        obtain rfl := (List.cons.inj e4).1
        exact ⟨⟨n0, n1, n2, y, l⟩, AL, c, hc, hby, hcap, wf_i64 w1, wf_i64 w2⟩
    classical
    let f : Nat → OpN := fun i => if hi : i < len then Classical.choose (hx i hi) else ⟨0, 0, 0, 0, []⟩
    have hf : ∀ i, (hi : i < len) → f i = Classical.choose (hx i hi) := fun i hi => dif_pos hi
    refine ⟨_, cap, (List.range len).map f, by simp, by simpa using ⟨h1, h2⟩, Or.inr ⟨b, off, rfl, fun i hi => ?_⟩⟩
    have hi' : i < len := by simpa using hi
    have := Classical.choose_spec (hx i hi')
    simpa [hf i hi'] using this
end Go.Proofs.Ytcdgpioljilgeaa
