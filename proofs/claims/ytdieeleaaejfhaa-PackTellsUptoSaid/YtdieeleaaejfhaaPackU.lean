/- How great the deeds are that come in: what the bound on the bulk of the arguments gives. -/
import Derived.Test.YtdieeleaaejfhaaPackA
import Derived.Test.YtdieeleaaejfhaaRows
set_option linter.unusedVariables false
set_option maxRecDepth 100000
set_option linter.unusedSimpArgs false
namespace Go.Proofs.Ytdieeleaaejfhaa
open Go.RowKit Go.ChangeShapes Go.WideShapes

theorem bulk_pos {H : Type} (d : DataW H) : 1 ≤ Rows.uptoBulk d := by
  cases d with
  | lit l => cases l <;> simp [Rows.uptoBulk]
  | nil => simp [Rows.uptoBulk]
  | ptr d => simp [Rows.uptoBulk]
  | slice elems spare => simp [Rows.uptoBulk]
  | agg parts => simp [Rows.uptoBulk]
  | iface t d => simp [Rows.uptoBulk]
  | map entries => simp [Rows.uptoBulk]
  | held h => simp [Rows.uptoBulk]
theorem bulk_sum {H : Type} (l : List (DataW H)) : Rows.uptoBulkAll l = (l.map Rows.uptoBulk).sum := by
  induction l with
  | nil => simp [Rows.uptoBulkAll]
  | cons x r ih => simp only [Rows.uptoBulkAll, List.map_cons, List.sum_cons, ih]

/-- These cells read as something of that type, of that bulk. -/
def Bk (P : Program) (w : World) (t : TypeId) (cs : List Value) (n : Nat) : Prop :=
  ∃ (H : Type) (enc : TypeId × Value → H) (base : Nat) (spare : Nat → Bool) (held : Bool) (k : Nat) (x : DataW H × List MemPlace), DataW.trod enc P w base spare held k t cs = some x ∧ Rows.uptoBulk x.1 = n
theorem Bk.rd {P : Program} {w : World} {t : TypeId} {cs : List Value} {n : Nat} (h : Bk P w t cs n) : Rd P w t cs := by
  obtain ⟨H, enc, base, spare, held, k, x, h, _⟩ := h
  exact ⟨H, enc, base, spare, held, k, x, h⟩
theorem Bk.of {H : Type} {enc : TypeId × Value → H} {P : Program} {W : World} {base : Nat} {spare : Nat → Bool} {held : Bool} {t : TypeId} {v : Value} {d : DataW H} {ps : List MemPlace}
    (h : DataW.Trod enc P W base spare held t v d ps) : Bk P W t v.cells.toList (Rows.uptoBulk d) := by
  obtain ⟨n, h⟩ := h
  exact ⟨H, enc, base, spare, held, n, _, h, rfl⟩
theorem Bk.pos {P : Program} {w : World} {t : TypeId} {cs : List Value} {n : Nat} (h : Bk P w t cs n) : 1 ≤ n := by
  obtain ⟨H, enc, base, spare, held, k, x, _, rfl⟩ := h
  exact bulk_pos _
theorem Bk.str {P : Program} {w : World} {t : TypeId} {cs : List Value} {n : Nat} (h : Bk P w t cs n) (ht : P.underlying t = some .string) : ∃ s : ByteArray, cs = [.string s] ∧ s.size ≤ maxLen ∧ n = s.size + 1 := by
  obtain ⟨H, enc, base, spare, held, k, x, h, rfl⟩ := h
  obtain ⟨s, h1, rfl, h2⟩ := DataW.trod_string ht h
  refine ⟨s, h1, h2, ?_⟩
  simp only [Rows.uptoBulk]
  rw [Array.length_toList]
  rfl
theorem Bk.struct {P : Program} {w : World} {t : TypeId} {cs : List Value} {n : Nat} {fs : Array Field} (h : Bk P w t cs n) (ht : P.underlying t = some (.struct fs)) :
    ∃ g : Nat → Nat, cs.length = P.cellsOf t ∧ (∀ (i : Nat) (f : Field), fs[i]? = some f → Bk P w f.type ((cs.drop f.offset).take (P.cellsOf f.type)) (g i)) ∧ n = ((List.range fs.size).map g).sum + 1 := by
  obtain ⟨H, enc, base, spare, held, k0, x, h, rfl⟩ := h
  obtain ⟨xs, k, _, rfl, hl, hxl, hf⟩ := DataW.trod_struct ht h
  refine ⟨fun i => if hi : i < xs.length then Rows.uptoBulk xs[i].1 else 0, hl, fun i f hi => ?_, ?_⟩
  · have h1 := hf i f hi
    have h2 : i < fs.size := (Array.getElem?_eq_some_iff.1 hi).1
    rw [List.getElem?_eq_getElem (by omega)] at h1
    have h3 : i < xs.length := by omega
    exact ⟨H, enc, base, spare, held, k, _, h1, by simp [h3]⟩
  · simp only [Rows.uptoBulk]
    rw [bulk_sum, List.map_map, ← hxl]
    congr 2
    apply List.ext_getElem
    · simp
    · intro i h1 h2
      simp at h1
      simp [h1]

theorem kind_at_bulk {α : Type} {P : Program} {k : Kind P α} {w : World} {b off : Nat} {R : α → Prop} {μ : α → Nat} {C : Nat} (g : Nat → Nat) (len : Nat)
    (h : ∀ i, i < len → ∃ x : α, (∀ j u, (k.enc x)[j]? = some u → w.cell? ⟨b, off + i * k.size + j, none⟩ = some u) ∧ R x ∧ μ x ≤ C * g i) :
    ∃ xs : List α, xs.length = len ∧ (∀ j u, (k.cells xs)[j]? = some u → w.cell? ⟨b, off + j, none⟩ = some u) ∧ (∀ x ∈ xs, R x) ∧ (xs.map μ).sum ≤ C * ((List.range len).map g).sum := by
  induction len with
  | zero => exact ⟨[], rfl, fun j u hu => by simp [Kind.cells] at hu, fun x hx => by simp at hx, by simp⟩
  | succ n ih =>
    obtain ⟨xs, h1, h2, h3, h6⟩ := ih (fun i hi => h i (by omega))
    obtain ⟨x, h4, h5, h7⟩ := h n (by omega)
    refine ⟨xs ++ [x], by simp [h1], fun j u hu => ?_, fun y hy => ?_, ?_⟩
    · rw [k.cells_append, k.cells_one] at hu
      by_cases hj : j < (k.cells xs).length
      · rw [List.getElem?_append_left hj] at hu
        exact h2 j u hu
      · rw [List.getElem?_append_right (by omega)] at hu
        have := h4 _ u hu
        rw [k.cells_length, h1] at this hj
        rw [show off + n * k.size + (j - n * k.size) = off + j by omega] at this
        exact this
    · rcases List.mem_append.1 hy with hy | hy
      · exact h3 y hy
      · obtain rfl : y = x := by simpa using hy
        exact h5
    · rw [List.map_append, List.sum_append, List.range_succ, List.map_append, List.sum_append, Nat.mul_add]
      simp
      omega
theorem Bk.kind {α : Type} {P : Program} {w : World} {k : Kind P α} {cs : List Value} {n : Nat} {R : α → Prop} {μ : α → Nat} {C : Nat} (h : Bk P w k.T cs n) (hs : P.cellsOf k.E = k.size)
    (hE : ∀ cs' m, Bk P w k.E cs' m → ∃ x, cs' = k.enc x ∧ R x ∧ μ x ≤ C * m) :
    ∃ A c, ∃ xs : List α, cs = [.slice A xs.length c] ∧ (xs.length ≤ c ∧ c ≤ maxLen) ∧ k.At w A xs ∧ (∀ x ∈ xs, R x) ∧ (xs.map μ).sum ≤ C * n ∧ xs.length + 1 ≤ n := by
  have hn := h.pos
  obtain ⟨H, enc, base, spare, held, k0, x, h, hxn⟩ := h
  rcases Go.Deep.open_slice k.hT h with ⟨rfl, rfl⟩ | ⟨a, len, cap, m, k1, D, Pl, rfl, hb, hl, hm, hmm, rfl, hel⟩
  · exact ⟨none, 0, [], rfl, ⟨Nat.le_refl _, Nat.zero_le _⟩, Or.inl rfl, fun x hx => by simp at hx, by simp, hn⟩
  · have hbulk : ((List.range len).map fun i => Rows.uptoBulk (D i)).sum + 1 ≤ Rows.uptoBulk (DataW.slice ((List.range len).map D) ((List.range (m - len)).map fun j => D (len + j))) := by
      simp only [Rows.uptoBulk]
      rw [bulk_sum, List.map_map]
      have : (Rows.uptoBulk ∘ D) = fun i => Rows.uptoBulk (D i) := rfl
      rw [this]
      omega
    have hxn' : Rows.uptoBulk (DataW.slice ((List.range len).map D) ((List.range (m - len)).map fun j => D (len + j))) = n := hxn
    rw [hxn'] at hbulk
    by_cases hz : len = 0
    · subst hz
      exact ⟨some a, cap, [], rfl, ⟨hl, hm⟩, Or.inl rfl, fun x hx => by simp at hx, by simp, hn⟩
    have hlm : len ≤ m := by rw [hmm]; split <;> omega
    rw [hs] at hel
    have hsp : a = ⟨a.block, a.off, none⟩ := by
      obtain ⟨cs', h1, _⟩ := hel 0 (by omega)
      obtain ⟨_, hlen, hc⟩ := World.cells?_some h1
      have h2 := hc 0 k.hpos
      rw [List.getElem?_eq_getElem (by have := k.hpos; omega)] at h2
      have := spot_none h2
      rcases a with ⟨b, o, sp⟩
      simp [Addr.add] at this ⊢
      exact this
    obtain ⟨xs, e1, e2, e3, e4⟩ := kind_at_bulk (k := k) (w := w) (b := a.block) (off := a.off) (R := R) (μ := μ) (C := C) (fun i => Rows.uptoBulk (D i)) len (fun i hi => by
      obtain ⟨cs', h1, h2⟩ := hel i (by omega)
      obtain ⟨_, hlen, hc⟩ := World.cells?_some h1
      obtain ⟨x, rfl, g1, g2⟩ := hE cs' _ ⟨H, enc, base, spare, held, k1, _, h2, rfl⟩
      refine ⟨x, fun j u hu => ?_, g1, g2⟩
      have hj : j < k.size := by have := (List.getElem?_eq_some_iff.1 hu).1; rwa [k.hlen] at this
      have h3 := hc j hj
      rw [hsp, add_none, add_none] at h3
      rw [h3, hu])
    subst e1
    have hlen : xs.length ≤ ((List.range xs.length).map fun i => Rows.uptoBulk (D i)).sum := by
      have : ∀ k : Nat, k ≤ ((List.range k).map fun i => Rows.uptoBulk (D i)).sum := fun k => by
        induction k with
        | zero => simp
        | succ k ih =>
          rw [List.range_succ, List.map_append, List.sum_append]
          have := bulk_pos (D k)
          simp
          omega
      exact this _
    exact ⟨_, cap, xs, rfl, ⟨hl, hm⟩, Or.inr ⟨a.block, a.off, hsp ▸ rfl, e2⟩, e3, Nat.le_trans e4 (Nat.mul_le_mul_left _ (by omega)), by omega⟩

theorem ent_bk {w : World} {cs : List Value} {n : Nat} (h : Bk Try.prog w 80 cs n) : ∃ e : Ent, cs = kEnt.enc e ∧ EntIn e ∧ 10 + e.name.size ≤ 10 * n := by
  obtain ⟨g, hl, hf, hn⟩ := h.struct Try.underlying80
  have hl2 : cs.length = 2 := hl.trans (by kernel_rfl)
  have f0 : Bk Try.prog w 9 ((cs.drop 0).take (Try.prog.cellsOf 9)) (g 0) := hf 0 _ rfl
  have f1 : Bk Try.prog w 3 ((cs.drop 1).take (Try.prog.cellsOf 3)) (g 1) := hf 1 _ rfl
  rw [c_str] at f0
  rw [c_int] at f1
  obtain ⟨s, e0, w0, g0⟩ := f0.str Try.underlying9
  obtain ⟨n1, e1, w1⟩ := f1.rd.int Try.underlying3
  have hn2 : n = g 0 + g 1 + 1 := by
    rw [hn]
    show ((List.range 2).map g).sum + 1 = _
    simp [List.range_succ]
  have hb : 10 + s.size ≤ 10 * n := by omega
  match cs, hl2 with
  | [v0, v1], _ =>
    obtain rfl := (List.cons.inj e0).1
    obtain rfl := (List.cons.inj e1).1
    exact ⟨⟨s, n1⟩, rfl, ⟨w0, wf_i64 w1⟩, hb⟩
theorem ino_bk {w : World} {cs : List Value} {n : Nat} (h : Bk Try.prog w 69 cs n) : ∃ (x : Ino) (v : IV), cs = inoCells x v ∧ IvIs w v x ∧ InoIn x ∧ inoW x ≤ 10 * n := by
  obtain ⟨g, hl, hf, hn⟩ := h.struct Try.underlying69
  have hl2 : cs.length = 7 := hl.trans (by kernel_rfl)
  have f0 : Bk Try.prog w 3 ((cs.drop 0).take (Try.prog.cellsOf 3)) (g 0) := hf 0 _ rfl
  have f1 : Bk Try.prog w 3 ((cs.drop 1).take (Try.prog.cellsOf 3)) (g 1) := hf 1 _ rfl
  have f2 : Bk Try.prog w 3 ((cs.drop 2).take (Try.prog.cellsOf 3)) (g 2) := hf 2 _ rfl
  have f3 : Bk Try.prog w 3 ((cs.drop 3).take (Try.prog.cellsOf 3)) (g 3) := hf 3 _ rfl
  have f4 : Bk Try.prog w 9 ((cs.drop 4).take (Try.prog.cellsOf 9)) (g 4) := hf 4 _ rfl
  have f5 : Bk Try.prog w 66 ((cs.drop 5).take (Try.prog.cellsOf 66)) (g 5) := hf 5 _ rfl
  have f6 : Bk Try.prog w 67 ((cs.drop 6).take (Try.prog.cellsOf 67)) (g 6) := hf 6 _ rfl
  have c5 : Try.prog.cellsOf 66 = 1 := by kernel_rfl
  have c6 : Try.prog.cellsOf 67 = 1 := by kernel_rfl
  rw [c_int] at f0 f1 f2 f3
  rw [c_str] at f4
  rw [c5] at f5
  rw [c6] at f6
  obtain ⟨n0, e0, w0⟩ := f0.rd.int Try.underlying3
  obtain ⟨n1, e1, w1⟩ := f1.rd.int Try.underlying3
  obtain ⟨n2, e2, w2⟩ := f2.rd.int Try.underlying3
  obtain ⟨n3, e3, w3⟩ := f3.rd.int Try.underlying3
  obtain ⟨s, e4, w4, g4⟩ := f4.str Try.underlying9
  obtain ⟨EA, Ec, es, e5, h5, k5, w5, g5, _⟩ := Bk.kind (k := kEnt) (R := EntIn) (μ := fun e => 10 + e.name.size) (C := 10) f5 (by kernel_rfl) (fun cs' m h => ent_bk h)
  obtain ⟨RA, Rc, rs, e6, h6, k6, w6, _, g6⟩ := Bk.kind (k := kRun) (R := RunIn) (μ := fun _ => 0) (C := 0) f6 (by kernel_rfl) (fun cs' m h => by obtain ⟨r, h1, h2⟩ := run_of h.rd; exact ⟨r, h1, h2, Nat.zero_le _⟩)
  have hn2 : n = g 0 + g 1 + g 2 + g 3 + g 4 + g 5 + g 6 + 1 := by
    rw [hn]
    show ((List.range 7).map g).sum + 1 = _
    simp [List.range_succ]
    omega
  have hb : inoW ⟨n0, n1, n2, n3, s, es, rs⟩ ≤ 10 * n := by
    unfold inoW
    have e9 : entsW es = (es.map fun e => 10 + e.name.size).sum := rfl
    simp only
    rw [e9]
    omega
  match cs, hl2 with
  | [v0, v1, v2, v3, v4, v5, v6], _ =>
    obtain rfl := (List.cons.inj e0).1
    obtain rfl := (List.cons.inj e1).1
    obtain rfl := (List.cons.inj e2).1
    obtain rfl := (List.cons.inj e3).1
    obtain rfl := (List.cons.inj e4).1
    obtain rfl := (List.cons.inj e5).1
    obtain rfl := (List.cons.inj e6).1
    exact ⟨⟨n0, n1, n2, n3, s, es, rs⟩, ⟨EA, Ec, RA, Rc⟩, rfl, ⟨k5, k6, h5, h6⟩, ⟨wf_i64 w0, wf_i64 w1, wf_i64 w2, wf_i64 w3, w4, w5, w6⟩, hb⟩
theorem dd_bk {w : World} {cs : List Value} {n : Nat} (h : Bk Try.prog w 71 cs n) : ∃ p : Dd × IV, cs = kDd.enc p ∧ (IvIs w p.2 p.1.ino ∧ DdIn p.1) ∧ inoW p.1.ino ≤ 10 * n := by
  obtain ⟨g, hl, hf, hn⟩ := h.struct Try.underlying71
  have hl2 : cs.length = 9 := hl.trans (by kernel_rfl)
  have f0 : Bk Try.prog w 3 ((cs.drop 0).take (Try.prog.cellsOf 3)) (g 0) := hf 0 _ rfl
  have f1 : Bk Try.prog w 3 ((cs.drop 1).take (Try.prog.cellsOf 3)) (g 1) := hf 1 _ rfl
  have f2 : Bk Try.prog w 69 ((cs.drop 2).take (Try.prog.cellsOf 69)) (g 2) := hf 2 _ rfl
  have c7 : Try.prog.cellsOf 69 = 7 := by kernel_rfl
  rw [c_int] at f0 f1
  rw [c7] at f2
  obtain ⟨n0, e0, w0⟩ := f0.rd.int Try.underlying3
  obtain ⟨n1, e1, w1⟩ := f1.rd.int Try.underlying3
  obtain ⟨x, v, e2, g2, w2, b2⟩ := ino_bk f2
  have hn2 : n = g 0 + g 1 + g 2 + 1 := by
    rw [hn]
    show ((List.range 3).map g).sum + 1 = _
    simp [List.range_succ]
    omega
  have hb : inoW x ≤ 10 * n := by omega
  match cs, hl2 with
  | [v0, v1, v2, v3, v4, v5, v6, v7, v8], _ =>
    obtain rfl := (List.cons.inj e0).1
    obtain rfl := (List.cons.inj e1).1
    have e3 : [v2, v3, v4, v5, v6, v7, v8] = inoCells x v := e2
    unfold inoCells at e3
    simp only [List.cons.injEq, and_true] at e3
    obtain ⟨rfl, rfl, rfl, rfl, rfl, rfl, rfl⟩ := e3
    exact ⟨(⟨n0, n1, x⟩, v), rfl, ⟨g2, ⟨wf_i64 w0, wf_i64 w1, w2⟩⟩, hb⟩
/-- The deeds that come in, and how great they are. -/
theorem dds_bk {w : World} {cs : List Value} {n : Nat} (h : Bk Try.prog w 59 cs n) : ∃ A c, ∃ ds : List Dd, cs = [.slice A ds.length c] ∧ (ds.length ≤ c ∧ c ≤ maxLen) ∧ DdsAt w A ds ∧ (∀ d ∈ ds, DdIn d) ∧ ddsW ds ≤ 10 * n ∧ ds.length ≤ n := by
  obtain ⟨A, c, ps, e, h1, h2, h3, h4, h5⟩ := Bk.kind (k := kDd) (R := fun p => IvIs w p.2 p.1.ino ∧ DdIn p.1) (μ := fun p => inoW p.1.ino) (C := 10) h (by kernel_rfl) (fun cs' m h => dd_bk h)
  refine ⟨A, c, ps.map (·.1), by rw [e, List.length_map], by rw [List.length_map]; exact h1, ⟨ps, rfl, h2, fun p hp => (h3 p hp).1⟩, fun d hd => ?_, ?_, by rw [List.length_map]; omega⟩
  · obtain ⟨p, hp, rfl⟩ := List.mem_map.1 hd
    exact (h3 p hp).2
  · unfold ddsW
    rw [List.map_map]
    exact h4
end Go.Proofs.Ytdieeleaaejfhaa
