/- The deeds and the inodes that a law is given, as they come in. -/
import Derived.Test.YtdieeleaaejfhaaPackK
import Derived.Test.YtdieeleaaejfhaaPackB
import Derived.Test.YtdieeleaaejfhaaReads
set_option linter.unusedVariables false
set_option maxRecDepth 100000
set_option linter.unusedSimpArgs false
namespace Go.Proofs.Ytdieeleaaejfhaa
open Go.RowKit

theorem kind_at_of {α : Type} {P : Program} {k : Kind P α} {w : World} {b off : Nat} {R : α → Prop} (len : Nat)
    (h : ∀ i, i < len → ∃ x : α, (∀ j u, (k.enc x)[j]? = some u → w.cell? ⟨b, off + i * k.size + j, none⟩ = some u) ∧ R x) :
    ∃ xs : List α, xs.length = len ∧ (∀ j u, (k.cells xs)[j]? = some u → w.cell? ⟨b, off + j, none⟩ = some u) ∧ ∀ x ∈ xs, R x := by
  induction len with
  | zero => exact ⟨[], rfl, fun j u hu => by simp [Kind.cells] at hu, fun x hx => by simp at hx⟩
  | succ n ih =>
    obtain ⟨xs, h1, h2, h3⟩ := ih (fun i hi => h i (by omega))
    obtain ⟨x, h4, h5⟩ := h n (by omega)
    refine ⟨xs ++ [x], by simp [h1], fun j u hu => ?_, fun y hy => ?_⟩
    · rw [k.cells_append, k.cells_one] at hu
      by_cases hj : j < (k.cells xs).length
      · rw [List.getElem?_append_left hj] at hu
        exact h2 j u hu
      · rw [List.getElem?_append_right (by omega)] at hu
        have := h4 _ u hu
        rw [k.cells_length, h1] at this hj
        rw [show off + n * k.size + (j - n * k.size) = off + j by omega] at this
        exact this
    · rcases List.mem_append.1 hy with hy | hy
      · exact h3 y hy
      · obtain rfl : y = x := by simpa using hy
        exact h5

/-- A slice of a kind of elements. -/
theorem Rd.kind {α : Type} {P : Program} {w : World} {k : Kind P α} {cs : List Value} {R : α → Prop} (h : Rd P w k.T cs) (hs : P.cellsOf k.E = k.size) (hE : ∀ cs', Rd P w k.E cs' → ∃ x, cs' = k.enc x ∧ R x) :
    ∃ A c, ∃ xs : List α, cs = [.slice A xs.length c] ∧ (xs.length ≤ c ∧ c ≤ maxLen) ∧ k.At w A xs ∧ ∀ x ∈ xs, R x := by
  obtain ⟨A, len, cap, rfl, h1, h2, _, h3⟩ := h.slice k.hT hs k.hpos
  rcases h3 with rfl | ⟨b, off, rfl, hel⟩
  · exact ⟨A, cap, [], rfl, ⟨h1, h2⟩, Or.inl rfl, fun x hx => by simp at hx⟩
  · obtain ⟨xs, e1, e2, e3⟩ := kind_at_of (k := k) (w := w) (b := b) (off := off) (R := R) len (fun i hi => by
      obtain ⟨cs', _, g1, g2⟩ := hel i hi
      obtain ⟨x, rfl, g3⟩ := hE cs' g2
      exact ⟨x, g1, g3⟩)
    subst e1
    exact ⟨_, cap, xs, rfl, ⟨h1, h2⟩, Or.inr ⟨b, off, rfl, e2⟩, e3⟩

def EntIn (e : Ent) : Prop := e.name.size ≤ maxLen ∧ I64 e.no
def RunIn (r : RunT) : Prop := I64 r.f ∧ I64 r.a ∧ I64 r.c
structure InoIn (x : Ino) : Prop where
  no : I64 x.no
  kind : I64 x.kind
  links : I64 x.links
  size : I64 x.size
  target : x.target.size ≤ maxLen
  ents : ∀ e ∈ x.ents, EntIn e
  runs : ∀ r ∈ x.runs, RunIn r
structure DdIn (d : Dd) : Prop where
  kind : I64 d.kind
  no : I64 d.no
  ino : InoIn d.ino

theorem c_int : Try.prog.cellsOf 3 = 1 := by kernel_rfl
theorem c_str : Try.prog.cellsOf 9 = 1 := by kernel_rfl
theorem ent_of {w : World} {cs : List Value} (h : Rd Try.prog w 80 cs) : ∃ e : Ent, cs = kEnt.enc e ∧ EntIn e := by
  obtain ⟨hl, hf⟩ := h.struct Try.underlying80
  have hl2 : cs.length = 2 := hl.trans (by kernel_rfl)
  have f0 : Rd Try.prog w 9 ((cs.drop 0).take (Try.prog.cellsOf 9)) := hf 0 _ rfl
  have f1 : Rd Try.prog w 3 ((cs.drop 1).take (Try.prog.cellsOf 3)) := hf 1 _ rfl
  rw [c_str] at f0
  rw [c_int] at f1
  obtain ⟨s, e0, w0⟩ := f0.str Try.underlying9
  obtain ⟨n1, e1, w1⟩ := f1.int Try.underlying3
  match cs, hl2 with
  | [v0, v1], _ =>
    obtain rfl := (List.cons.inj e0).1
    obtain rfl := (List.cons.inj e1).1
    exact ⟨⟨s, n1⟩, rfl, w0, wf_i64 w1⟩
theorem run_of {w : World} {cs : List Value} (h : Rd Try.prog w 109 cs) : ∃ r : RunT, cs = kRun.enc r ∧ RunIn r := by
  obtain ⟨hl, hf⟩ := h.struct Try.underlying109
  have hl2 : cs.length = 3 := hl.trans (by kernel_rfl)
  have f0 : Rd Try.prog w 3 ((cs.drop 0).take (Try.prog.cellsOf 3)) := hf 0 _ rfl
  have f1 : Rd Try.prog w 3 ((cs.drop 1).take (Try.prog.cellsOf 3)) := hf 1 _ rfl
  have f2 : Rd Try.prog w 3 ((cs.drop 2).take (Try.prog.cellsOf 3)) := hf 2 _ rfl
  rw [c_int] at f0 f1 f2
  obtain ⟨n0, e0, w0⟩ := f0.int Try.underlying3
  obtain ⟨n1, e1, w1⟩ := f1.int Try.underlying3
  obtain ⟨n2, e2, w2⟩ := f2.int Try.underlying3
  match cs, hl2 with
  | [v0, v1, v2], _ =>
    obtain rfl := (List.cons.inj e0).1
    obtain rfl := (List.cons.inj e1).1
    obtain rfl := (List.cons.inj e2).1
    exact ⟨⟨n0, n1, n2⟩, rfl, wf_i64 w0, wf_i64 w1, wf_i64 w2⟩
theorem ino_of {w : World} {cs : List Value} (h : Rd Try.prog w 69 cs) : ∃ (x : Ino) (v : IV), cs = inoCells x v ∧ IvIs w v x ∧ InoIn x := by
  obtain ⟨hl, hf⟩ := h.struct Try.underlying69
  have hl2 : cs.length = 7 := hl.trans (by kernel_rfl)
  have f0 : Rd Try.prog w 3 ((cs.drop 0).take (Try.prog.cellsOf 3)) := hf 0 _ rfl
  have f1 : Rd Try.prog w 3 ((cs.drop 1).take (Try.prog.cellsOf 3)) := hf 1 _ rfl
  have f2 : Rd Try.prog w 3 ((cs.drop 2).take (Try.prog.cellsOf 3)) := hf 2 _ rfl
  have f3 : Rd Try.prog w 3 ((cs.drop 3).take (Try.prog.cellsOf 3)) := hf 3 _ rfl
  have f4 : Rd Try.prog w 9 ((cs.drop 4).take (Try.prog.cellsOf 9)) := hf 4 _ rfl
  have f5 : Rd Try.prog w 66 ((cs.drop 5).take (Try.prog.cellsOf 66)) := hf 5 _ rfl
  have f6 : Rd Try.prog w 67 ((cs.drop 6).take (Try.prog.cellsOf 67)) := hf 6 _ rfl
  have c5 : Try.prog.cellsOf 66 = 1 := by kernel_rfl
  have c6 : Try.prog.cellsOf 67 = 1 := by kernel_rfl
  rw [c_int] at f0 f1 f2 f3
  rw [c_str] at f4
  rw [c5] at f5
  rw [c6] at f6
  obtain ⟨n0, e0, w0⟩ := f0.int Try.underlying3
  obtain ⟨n1, e1, w1⟩ := f1.int Try.underlying3
  obtain ⟨n2, e2, w2⟩ := f2.int Try.underlying3
  obtain ⟨n3, e3, w3⟩ := f3.int Try.underlying3
  obtain ⟨s, e4, w4⟩ := f4.str Try.underlying9
  obtain ⟨EA, Ec, es, e5, h5, g5, w5⟩ := Rd.kind (k := kEnt) (R := EntIn) f5 (by kernel_rfl) (fun cs' h => ent_of h)
  obtain ⟨RA, Rc, rs, e6, h6, g6, w6⟩ := Rd.kind (k := kRun) (R := RunIn) f6 (by kernel_rfl) (fun cs' h => run_of h)
  match cs, hl2 with
  | [v0, v1, v2, v3, v4, v5, v6], _ =>
    obtain rfl := (List.cons.inj e0).1
    obtain rfl := (List.cons.inj e1).1
    obtain rfl := (List.cons.inj e2).1
    obtain rfl := (List.cons.inj e3).1
    obtain rfl := (List.cons.inj e4).1
    obtain rfl := (List.cons.inj e5).1
    obtain rfl := (List.cons.inj e6).1
    exact ⟨⟨n0, n1, n2, n3, s, es, rs⟩, ⟨EA, Ec, RA, Rc⟩, rfl, ⟨g5, g6, h5, h6⟩, ⟨wf_i64 w0, wf_i64 w1, wf_i64 w2, wf_i64 w3, w4, w5, w6⟩⟩
theorem dd_of {w : World} {cs : List Value} (h : Rd Try.prog w 71 cs) : ∃ p : Dd × IV, cs = kDd.enc p ∧ IvIs w p.2 p.1.ino ∧ DdIn p.1 := by
  obtain ⟨hl, hf⟩ := h.struct Try.underlying71
  have hl2 : cs.length = 9 := hl.trans (by kernel_rfl)
  have f0 : Rd Try.prog w 3 ((cs.drop 0).take (Try.prog.cellsOf 3)) := hf 0 _ rfl
  have f1 : Rd Try.prog w 3 ((cs.drop 1).take (Try.prog.cellsOf 3)) := hf 1 _ rfl
  have f2 : Rd Try.prog w 69 ((cs.drop 2).take (Try.prog.cellsOf 69)) := hf 2 _ rfl
  have c7 : Try.prog.cellsOf 69 = 7 := by kernel_rfl
  rw [c_int] at f0 f1
  rw [c7] at f2
  obtain ⟨n0, e0, w0⟩ := f0.int Try.underlying3
  obtain ⟨n1, e1, w1⟩ := f1.int Try.underlying3
  obtain ⟨x, v, e2, g2, w2⟩ := ino_of f2
  match cs, hl2 with
  | [v0, v1, v2, v3, v4, v5, v6, v7, v8], _ =>
    obtain rfl := (List.cons.inj e0).1
    obtain rfl := (List.cons.inj e1).1
    have e3 : [v2, v3, v4, v5, v6, v7, v8] = inoCells x v := e2
    unfold inoCells at e3
    simp only [List.cons.injEq, and_true] at e3
    obtain ⟨rfl, rfl, rfl, rfl, rfl, rfl, rfl⟩ := e3
    exact ⟨(⟨n0, n1, x⟩, v), rfl, g2, ⟨wf_i64 w0, wf_i64 w1, w2⟩⟩
theorem dds_of {w : World} {cs : List Value} (h : Rd Try.prog w 59 cs) : ∃ A c, ∃ ds : List Dd, cs = [.slice A ds.length c] ∧ (ds.length ≤ c ∧ c ≤ maxLen) ∧ DdsAt w A ds ∧ ∀ d ∈ ds, DdIn d := by
  obtain ⟨A, c, ps, e, h1, h2, h3⟩ := Rd.kind (k := kDd) (R := fun p => IvIs w p.2 p.1.ino ∧ DdIn p.1) h (by kernel_rfl) (fun cs' h => dd_of h)
  exact ⟨A, c, ps.map (·.1), by rw [e, List.length_map], by rw [List.length_map]; exact h1, ⟨ps, rfl, h2, fun p hp => (h3 p hp).1⟩, fun d hd => by
    obtain ⟨p, hp, rfl⟩ := List.mem_map.1 hd
    exact (h3 p hp).2⟩
end Go.Proofs.Ytdieeleaaejfhaa
