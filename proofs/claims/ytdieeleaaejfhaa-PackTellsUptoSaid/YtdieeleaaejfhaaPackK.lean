/- Deeds as they lie in memory: entries, runs, inodes, deeds as kinds of elements. -/
import Derived.Test.YtdieeleaaejfhaaPackP
import Derived.Test.YtdieeleaaejfhaaKinds
import Derived.Test.YtdieeleaaejfhaaOnly
set_option linter.unusedVariables false
set_option maxRecDepth 100000
set_option linter.unusedSimpArgs false
namespace Go.Proofs.Ytdieeleaaejfhaa
open Go.RowKit

theorem Blk.below {w w' : World} {b : Nat} {T : TypeId} {cs : List Value} (h : Blk w b T cs) (hb : Below w.heap.size w w') : Blk w' b T cs := h.stay (hb.block b h.lt)

noncomputable def kEnt : Kind Try.prog Ent where
  E := 80
  T := 66
  size := 2
  bytes := 24
  zero := .agg #[.string ByteArray.empty, .int .i64 0]
  enc := fun e => [.string e.name, .int .i64 e.no]
  hT := Try.underlying66
  hinfo := by kernel_rfl
  hz := rfl
  hpos := by decide
  hlen := fun _ => rfl
  hone := fun x u hu => by simp at hu; rcases hu with rfl | rfl <;> rfl
noncomputable def kRun : Kind Try.prog RunT where
  E := 109
  T := 67
  size := 3
  bytes := 24
  zero := .agg #[.int .i64 0, .int .i64 0, .int .i64 0]
  enc := fun r => [.int .i64 r.f, .int .i64 r.a, .int .i64 r.c]
  hT := Try.underlying67
  hinfo := by kernel_rfl
  hz := rfl
  hpos := by decide
  hlen := fun _ => rfl
  hone := fun x u hu => by simp at hu; rcases hu with rfl | rfl | rfl <;> rfl

/-- Where an inode's rows lie. -/
structure IV where
  EA : Option Addr
  Ec : Nat
  RA : Option Addr
  Rc : Nat
def inoCells (x : Ino) (v : IV) : List Value := [.int .i64 x.no, .int .i64 x.kind, .int .i64 x.links, .int .i64 x.size, .string x.target, .slice v.EA x.ents.length v.Ec, .slice v.RA x.runs.length v.Rc]
def ddCells (d : Dd) (v : IV) : List Value := [.int .i64 d.kind, .int .i64 d.no, .int .i64 d.ino.no, .int .i64 d.ino.kind, .int .i64 d.ino.links, .int .i64 d.ino.size, .string d.ino.target, .slice v.EA d.ino.ents.length v.Ec, .slice v.RA d.ino.runs.length v.Rc]
/-- What these rows read as. -/
structure IvIs (w : World) (v : IV) (x : Ino) : Prop where
  e : kEnt.At w v.EA x.ents
  r : kRun.At w v.RA x.runs
  ec : x.ents.length ≤ v.Ec ∧ v.Ec ≤ maxLen
  rc : x.runs.length ≤ v.Rc ∧ v.Rc ≤ maxLen
theorem IvIs.below {w w' : World} {v : IV} {x : Ino} (h : IvIs w v x) (hb : Below w.heap.size w w') : IvIs w' v x := ⟨h.e.below hb, h.r.below hb, h.ec, h.rc⟩
theorem IvIs.only {w w' : World} {S : List Nat} {v : IV} {x : Ino} (h : IvIs w v x) (ho : Only S w w') (h1 : ∀ y, v.EA = some y → 0 < x.ents.length → y.block ∉ S) (h2 : ∀ y, v.RA = some y → 0 < x.runs.length → y.block ∉ S) : IvIs w' v x :=
  ⟨h.e.only ho h1, h.r.only ho h2, h.ec, h.rc⟩

noncomputable def kDd : Kind Try.prog (Dd × IV) where
  E := 71
  T := 59
  size := 9
  bytes := 112
  zero := .agg #[.int .i64 0, .int .i64 0, .int .i64 0, .int .i64 0, .int .i64 0, .int .i64 0, .string ByteArray.empty, .slice none 0 0, .slice none 0 0]
  enc := fun p => ddCells p.1 p.2
  hT := Try.underlying59
  hinfo := by kernel_rfl
  hz := rfl
  hpos := by decide
  hlen := fun _ => rfl
  hone := fun x u hu => by unfold ddCells at hu; simp at hu; rcases hu with rfl | rfl | rfl | rfl | rfl | rfl | rfl | rfl | rfl <;> rfl

/-- A row of deeds that lies somewhere. -/
def DdsAt (w : World) (A : Option Addr) (ds : List Dd) : Prop := ∃ ps : List (Dd × IV), ps.map (·.1) = ds ∧ kDd.At w A ps ∧ ∀ p ∈ ps, IvIs w p.2 p.1.ino
theorem DdsAt.below {w w' : World} {A : Option Addr} {ds : List Dd} (h : DdsAt w A ds) (hb : Below w.heap.size w w') : DdsAt w' A ds := by
  obtain ⟨ps, h1, h2, h3⟩ := h
  exact ⟨ps, h1, h2.below hb, fun p hp => (h3 p hp).below hb⟩
theorem DdsAt.at {w : World} {A : Option Addr} {ds : List Dd} (h : DdsAt w A ds) {i : Nat} (hi : i < ds.length) :
    ∃ b off v, A = some ⟨b, off, none⟩ ∧ b < w.heap.size ∧ (∀ j u, (ddCells ds[i] v)[j]? = some u → w.cell? ⟨b, off + i * 9 + j, none⟩ = some u) ∧ IvIs w v ds[i].ino := by
  obtain ⟨ps, rfl, h2, h3⟩ := h
  have hi' : i < ps.length := by simpa using hi
  obtain ⟨b, off, h4, h5, h6⟩ := h2.at hi'
  have e : (ps.map (·.1))[i]'hi = ps[i].1 := by simp
  refine ⟨b, off, ps[i].2, h4, h5, fun j u hu => ?_, ?_⟩
  · rw [e] at hu
    exact h6 j u hu
  · have := h3 ps[i] (List.getElem_mem hi')
    simpa using this
theorem DdsAt.take {w : World} {A : Option Addr} {ds : List Dd} (h : DdsAt w A ds) (k : Nat) : DdsAt w A (ds.take k) := by
  obtain ⟨ps, rfl, h2, h3⟩ := h
  refine ⟨ps.take k, by rw [List.map_take], ?_, fun p hp => h3 p (List.mem_of_mem_take hp)⟩
  rcases h2 with rfl | ⟨b, off, e, hc⟩
  · exact Or.inl (by simp)
  · refine Or.inr ⟨b, off, e, fun j u hu => hc j u ?_⟩
    rw [← List.take_append_drop k ps, kDd.cells_append]
    rw [List.getElem?_append_left]
    · exact hu
    · exact (List.getElem?_eq_some_iff.1 hu).1
end Go.Proofs.Ytdieeleaaejfhaa
