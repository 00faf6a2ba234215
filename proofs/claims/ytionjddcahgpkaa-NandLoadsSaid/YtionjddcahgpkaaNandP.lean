/- What a chip of pages is, in plain words. Nothing here speaks of the program. -/
import Derived.Test.YtionjddcahgpkaaNorP
set_option linter.unusedVariables false
set_option maxRecDepth 100000
namespace Go.Proofs.Ytionjddcahgpkaa

/-- What the pages have (data, spare), how many of a block count as programmed, how often it was erased. -/
structure NSt where
  pg : Int → Int → List UInt8 × List UInt8
  nx : Int → Int
  er : Int → Int

def blankP (g : Geo) : List UInt8 × List UInt8 := (ffs g.e.toNat, ffs 16)
def nNew (g : Geo) : NSt := ⟨fun _ _ => blankP g, fun _ => 0, fun _ => 0⟩
def nOk (g : Geo) (b p : Int) : Prop := (0 ≤ b ∧ b < g.c) ∧ 0 ≤ p ∧ p < g.d
instance (g : Geo) (b p : Int) : Decidable (nOk g b p) := by unfold nOk; infer_instance
def nAsk (g : Geo) (b p : Int) : Int := if nOk g b p then 0 else 1

def upP (f : Int → Int → List UInt8 × List UInt8) (b p : Int) (v : List UInt8 × List UInt8) : Int → Int → List UInt8 × List UInt8 := fun x y => if x = b ∧ y = p then v else f x y
def up1 (f : Int → Int) (b v : Int) : Int → Int := fun x => if x = b then v else f x
theorem upP_same (f : Int → Int → List UInt8 × List UInt8) (b p : Int) (v : List UInt8 × List UInt8) : upP f b p v b p = v := by unfold upP; rw [if_pos ⟨rfl, rfl⟩]
theorem upP_other (f : Int → Int → List UInt8 × List UInt8) {b p x y : Int} (v : List UInt8 × List UInt8) (h : ¬ (x = b ∧ y = p)) : upP f b p v x y = f x y := by unfold upP; rw [if_neg h]
theorem up1_same (f : Int → Int) (b v : Int) : up1 f b v b = v := by unfold up1; rw [if_pos rfl]
theorem up1_other (f : Int → Int) {b x : Int} (v : Int) (h : x ≠ b) : up1 f b v x = f x := by unfold up1; rw [if_neg h]

/-- What becomes of a byte that is programmed with power so (the step is done already in s.next). -/
def turnB (s : PS) (x : UInt8) : UInt8 := if s.torn = true then x ||| s.mask else if s.next.failing = true then x &&& 170 else x
def progR (s : PS) : Int := if s.torn = true then 6 else if s.next.failing = true then 7 else 0

/-- A page is programmed: the answer, what stands then, power. -/
def nProg (g : Geo) (s : PS) (n : NSt) (b p : Int) (d sp : List UInt8) : Int × NSt × PS :=
  if nOk g b p then
    if (d.length : Int) ≠ g.e ∨ sp.length ≠ 16 then (1, n, s)
    else if p ≠ n.nx b then (8, n, s)
    else if s.did = false ∧ s.torn = false then (6, n, s.next)
    else (progR s, ⟨upP n.pg b p (d.map (turnB s), sp.map (turnB s)), up1 n.nx b (p + 1), n.er⟩, s.next)
  else (1, n, s)

def orP (m : UInt8) (v : List UInt8 × List UInt8) : List UInt8 × List UInt8 := (v.1.map (· ||| m), v.2.map (· ||| m))
/-- A block is erased. -/
def nErase (g : Geo) (s : PS) (n : NSt) (b : Int) : Int × NSt × PS :=
  if nOk g b 0 then
    if s.torn = true then (6, ⟨fun x y => if x = b then orP s.mask (n.pg x y) else n.pg x y, n.nx, n.er⟩, s.next)
    else if s.did = false then (6, n, s.next)
    else if s.next.failing = true then (7, n, s.next)
    else (0, ⟨fun x y => if x = b then blankP g else n.pg x y, up1 n.nx b 0, up1 n.er b (n.er b + 1)⟩, s.next)
  else (1, n, s)
/-- A page is read. -/
def nRead (g : Geo) (n : NSt) (b p : Int) : List UInt8 × List UInt8 := if nOk g b p then n.pg b p else ([], [])

/-- What holds of any such chip. -/
structure NOk (g : Geo) (n : NSt) (N : Nat) : Prop where
  sz : ∀ b p, nOk g b p → ((n.pg b p).1.length : Int) = g.e ∧ (n.pg b p).2.length = 16
  nx : ∀ b, 0 ≤ n.nx b ∧ n.nx b ≤ g.d
  er : ∀ b, 0 ≤ n.er b ∧ n.er b ≤ N
  out : ∀ b, ¬ (0 ≤ b ∧ b < g.c) → n.nx b = 0 ∧ n.er b = 0
theorem ffs_or (n : Nat) (m : UInt8) : (ffs n).map (· ||| m) = ffs n := by
  have h : (255 : UInt8) ||| m = 255 := by
    apply UInt8.eq_of_toBitVec_eq
    simp only [UInt8.toBitVec_or]
    have : (255 : UInt8).toBitVec = BitVec.allOnes 8 := rfl
    rw [this, BitVec.allOnes_or]
  unfold ffs
  rw [List.map_replicate, h]
theorem orP_blank (g : Geo) (m : UInt8) : orP m (blankP g) = blankP g := by
  unfold orP blankP
  simp only [ffs_or]
theorem NOk.new {g : Geo} (h : g.ok) : NOk g (nNew g) 0 := by
  unfold Geo.ok at h
  refine ⟨fun b p _ => ?_, fun b => ?_, fun b => ?_, fun b _ => ⟨rfl, rfl⟩⟩
  · show ((ffs g.e.toNat).length : Int) = g.e ∧ (ffs 16).length = 16
    rw [ffs_length, ffs_length]
    omega
  · show (0 : Int) ≤ 0 ∧ (0 : Int) ≤ g.d
    omega
  · show (0 : Int) ≤ 0 ∧ (0 : Int) ≤ ((0 : Nat) : Int)
    omega
theorem NOk.mono {g : Geo} {n : NSt} {N M : Nat} (h : NOk g n N) (hm : N ≤ M) : NOk g n M := ⟨h.sz, h.nx, fun b => ⟨(h.er b).1, by have := (h.er b).2; omega⟩, h.out⟩
theorem NOk.prog {g : Geo} {s : PS} {n : NSt} {N : Nat} (h : NOk g n N) (b p : Int) (d sp : List UInt8) : NOk g (nProg g s n b p d sp).2.1 N := by
  unfold nProg
  split
  · rename_i hok
    split
    · exact h
    · rename_i hl
      split
      · exact h
      · split
        · exact h
        · refine ⟨fun x y hxy => ?_, fun x => ?_, h.er, fun x hx => ?_⟩
          · show ((upP n.pg b p (d.map (turnB s), sp.map (turnB s)) x y).1.length : Int) = g.e ∧ (upP n.pg b p (d.map (turnB s), sp.map (turnB s)) x y).2.length = 16
            by_cases e : x = b ∧ y = p
            · obtain ⟨rfl, rfl⟩ := e
              rw [upP_same]
              simp only [List.length_map]
              omega
            · rw [upP_other _ _ e]
              exact h.sz x y hxy
          · show 0 ≤ up1 n.nx b (p + 1) x ∧ up1 n.nx b (p + 1) x ≤ g.d
            unfold nOk at hok
            by_cases e : x = b
            · rw [e, up1_same]; omega
            · rw [up1_other _ _ e]; exact h.nx x
          · have e : x ≠ b := by rintro rfl; exact hx hok.1
            refine ⟨?_, (h.out x hx).2⟩
            show up1 n.nx b (p + 1) x = 0
            rw [up1_other _ _ e]; exact (h.out x hx).1
  · exact h
theorem NOk.erase {g : Geo} {s : PS} {n : NSt} {N : Nat} (hg : g.ok) (h : NOk g n N) (b : Int) : NOk g (nErase g s n b).2.1 (N + 1) := by
  have hm := h.mono (Nat.le_succ N)
  unfold nErase
  split
  · rename_i hok
    split
    · refine ⟨fun x y hxy => ?_, h.nx, hm.er, h.out⟩
      have := h.sz x y hxy
      show (((if x = b then orP s.mask (n.pg x y) else n.pg x y) : List UInt8 × List UInt8).1.length : Int) = g.e ∧ ((if x = b then orP s.mask (n.pg x y) else n.pg x y) : List UInt8 × List UInt8).2.length = 16
      split
      · unfold orP
        simp only [List.length_map]
        exact this
      · exact this
    · split
      · exact hm
      · split
        · exact hm
        · refine ⟨fun x y hxy => ?_, fun x => ?_, fun x => ?_, fun x hx => ?_⟩
          · show (((if x = b then blankP g else n.pg x y) : List UInt8 × List UInt8).1.length : Int) = g.e ∧ ((if x = b then blankP g else n.pg x y) : List UInt8 × List UInt8).2.length = 16
            split
            · exact (NOk.new hg).sz x y hxy
            · exact h.sz x y hxy
          · show 0 ≤ up1 n.nx b 0 x ∧ up1 n.nx b 0 x ≤ g.d
            by_cases e : x = b
            · rw [e, up1_same]
              unfold nOk at hok
              omega
            · rw [up1_other _ _ e]; exact h.nx x
          · show 0 ≤ up1 n.er b (n.er b + 1) x ∧ up1 n.er b (n.er b + 1) x ≤ ((N + 1 : Nat) : Int)
            by_cases e : x = b
            · rw [e, up1_same]
              have := h.er b
              omega
            · rw [up1_other _ _ e]; exact hm.er x
          · have e : x ≠ b := by rintro rfl; exact hx hok.1
            refine ⟨?_, ?_⟩
            · show up1 n.nx b 0 x = 0
              rw [up1_other _ _ e]; exact (h.out x hx).1
            · show up1 n.er b (n.er b + 1) x = 0
              rw [up1_other _ _ e]; exact (h.out x hx).2
  · exact hm
end Go.Proofs.Ytionjddcahgpkaa
