/- Plain words on deeds: what they are, and as bytes. -/
import Derived.Test.YtdieeleaaejfhaaText
import Derived.Test.YtdieeleaaejfhaaNumP
set_option linter.unusedVariables false
set_option maxRecDepth 100000
namespace Go.Proofs.Ytdieeleaaejfhaa
open Go.RowKit

structure Ent where
  name : ByteArray
  no : Int
structure RunT where
  f : Int
  a : Int
  c : Int
structure Ino where
  no : Int
  kind : Int
  links : Int
  size : Int
  target : ByteArray
  ents : List Ent
  runs : List RunT
structure Dd where
  kind : Int
  no : Int
  ino : Ino

def putI (v : Int) : List UInt8 := low (uof v) 8
def putT (s : ByteArray) : List UInt8 := low s.size 4 ++ s.data.toList
def putEnt (e : Ent) : List UInt8 := putT e.name ++ putI e.no
def putRun (r : RunT) : List UInt8 := putI r.f ++ (putI r.a ++ putI r.c)
def putEnts (l : List Ent) : List UInt8 := (l.map putEnt).flatten
def putRuns (l : List RunT) : List UInt8 := (l.map putRun).flatten
def putInts (l : List Int) : List UInt8 := (l.map putI).flatten
def putHead (x : Ino) : List UInt8 := putI x.no ++ (putI x.kind ++ (putI x.links ++ (putI x.size ++ putT x.target)))
def putIno (x : Ino) : List UInt8 := putHead x ++ (low x.ents.length 4 ++ (putEnts x.ents ++ (low x.runs.length 4 ++ putRuns x.runs)))
/-- Has a deed of that kind a number alone? -/
def numKind (k : Int) : Prop := k = 1 ∨ k = 3 ∨ k = 4
instance (k : Int) : Decidable (numKind k) := by unfold numKind; exact inferInstance
def putRest (d : Dd) : List UInt8 := if numKind d.kind then putI d.no else if d.kind = 2 then putIno d.ino else []
def putDd (d : Dd) : List UInt8 := low (uof d.kind) 1 ++ putRest d
def putDds (l : List Dd) : List UInt8 := (l.map putDd).flatten

theorem putI_length (v : Int) : (putI v).length = 8 := low_length _ _
theorem putT_length (s : ByteArray) : (putT s).length = 4 + s.size := by
  unfold putT
  rw [List.length_append, low_length]
  simp
theorem putEnt_length (e : Ent) : (putEnt e).length = 12 + e.name.size := by unfold putEnt; rw [List.length_append, putT_length, putI_length]; omega
theorem putRun_length (r : RunT) : (putRun r).length = 24 := by unfold putRun; rw [List.length_append, List.length_append, putI_length, putI_length, putI_length]
theorem putEnts_snoc (l : List Ent) (e : Ent) : putEnts (l ++ [e]) = putEnts l ++ putEnt e := by simp [putEnts]
theorem putRuns_snoc (l : List RunT) (e : RunT) : putRuns (l ++ [e]) = putRuns l ++ putRun e := by simp [putRuns]
theorem putInts_snoc (l : List Int) (e : Int) : putInts (l ++ [e]) = putInts l ++ putI e := by simp [putInts]
theorem putDds_snoc (l : List Dd) (e : Dd) : putDds (l ++ [e]) = putDds l ++ putDd e := by simp [putDds]
theorem putDds_append (l m : List Dd) : putDds (l ++ m) = putDds l ++ putDds m := by simp [putDds]
theorem putInts_length (l : List Int) : (putInts l).length = 8 * l.length := by
  induction l with
  | nil => rfl
  | cons x l ih =>
    have : putInts (x :: l) = putI x ++ putInts l := by simp [putInts]
    rw [this, List.length_append, putI_length, ih, List.length_cons]; omega
theorem putRuns_length (l : List RunT) : (putRuns l).length = 24 * l.length := by
  induction l with
  | nil => rfl
  | cons x l ih =>
    have : putRuns (x :: l) = putRun x ++ putRuns l := by simp [putRuns]
    rw [this, List.length_append, putRun_length, ih, List.length_cons]; omega

/-- How much a row of entries, an inode, a row of deeds is, as the statements count it. -/
def entsW (l : List Ent) : Nat := (l.map fun e => 10 + e.name.size).sum
def inoW (x : Ino) : Nat := 10 + x.target.size + x.runs.length + entsW x.ents
def ddsW (l : List Dd) : Nat := (l.map fun d => inoW d.ino).sum
theorem entsW_snoc (l : List Ent) (e : Ent) : entsW (l ++ [e]) = entsW l + (10 + e.name.size) := by simp [entsW]
theorem ddsW_snoc (l : List Dd) (e : Dd) : ddsW (l ++ [e]) = ddsW l + inoW e.ino := by simp [ddsW]
theorem ddsW_cons (l : List Dd) (e : Dd) : ddsW (e :: l) = inoW e.ino + ddsW l := by simp [ddsW]
theorem entsW_cons (l : List Ent) (e : Ent) : entsW (e :: l) = (10 + e.name.size) + entsW l := by simp [entsW]
theorem putEnts_le (l : List Ent) : (putEnts l).length ≤ 2 * entsW l := by
  induction l with
  | nil => exact Nat.zero_le _
  | cons x l ih =>
    have : putEnts (x :: l) = putEnt x ++ putEnts l := by simp [putEnts]
    rw [this, List.length_append, putEnt_length, entsW_cons]; omega
theorem putEnts_cons (x : Ent) (l : List Ent) : putEnts (x :: l) = putEnt x ++ putEnts l := by simp [putEnts]
theorem putEnts_ge (l : List Ent) : 12 * l.length ≤ (putEnts l).length := by
  induction l with
  | nil => exact Nat.zero_le _
  | cons x l ih => rw [putEnts_cons, List.length_append, putEnt_length, List.length_cons]; omega
theorem putEnts_take (l : List Ent) (j : Nat) : (putEnts (l.take j)).length ≤ (putEnts l).length := by
  have : putEnts l = putEnts (l.take j) ++ putEnts (l.drop j) := by unfold putEnts; rw [← List.flatten_append, ← List.map_append, List.take_append_drop]
  rw [this, List.length_append]; omega
theorem ents_le (l : List Ent) : 10 * l.length ≤ entsW l := by
  induction l with
  | nil => exact Nat.le_refl _
  | cons x l ih => rw [entsW_cons, List.length_cons]; omega
theorem putHead_length (x : Ino) : (putHead x).length = 36 + x.target.size := by
  unfold putHead
  simp only [List.length_append, putI_length, putT_length]; omega
theorem putIno_length (x : Ino) : (putIno x).length = 44 + x.target.size + (putEnts x.ents).length + 24 * x.runs.length := by
  unfold putIno
  simp only [List.length_append, putHead_length, low_length, putRuns_length]; omega
theorem putIno_le (x : Ino) : (putIno x).length ≤ 24 * inoW x := by
  rw [putIno_length]
  have := putEnts_le x.ents
  unfold inoW
  omega
theorem putDd_le (d : Dd) : (putDd d).length ≤ 25 * inoW d.ino := by
  have h1 := putIno_le d.ino
  have h2 : 10 ≤ inoW d.ino := by unfold inoW; omega
  unfold putDd putRest
  rw [List.length_append, low_length]
  split
  · rw [putI_length]; omega
  · split
    · omega
    · simp; omega
theorem putDds_le (l : List Dd) : (putDds l).length ≤ 25 * ddsW l := by
  induction l with
  | nil => exact Nat.zero_le _
  | cons x l ih =>
    have : putDds (x :: l) = putDd x ++ putDds l := by simp [putDds]
    have h := putDd_le x
    rw [this, List.length_append, ddsW_cons]; omega
theorem dds_le (l : List Dd) : 10 * l.length ≤ ddsW l := by
  induction l with
  | nil => exact Nat.le_refl _
  | cons x l ih =>
    have h2 : 10 ≤ inoW x.ino := by unfold inoW; omega
    rw [ddsW_cons, List.length_cons]; omega
end Go.Proofs.Ytdieeleaaejfhaa
