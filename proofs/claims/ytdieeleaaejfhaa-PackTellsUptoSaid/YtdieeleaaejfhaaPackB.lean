/- Plain laws: what is packed is parsed. -/
import Derived.Test.YtdieeleaaejfhaaPackQ
set_option linter.unusedVariables false
set_option maxRecDepth 100000
namespace Go.Proofs.Ytdieeleaaejfhaa
open Go.RowKit

theorem drop_mid (p x r : List UInt8) : ((p ++ (x ++ r)).take (p.length + x.length)).drop p.length = x := by
  rw [← List.append_assoc, List.take_append_of_le_length (by rw [List.length_append]; exact Nat.le_refl _), List.take_of_length_le (by rw [List.length_append]; exact Nat.le_refl _), List.drop_append_of_le_length (Nat.le_refl _), List.drop_length, List.nil_append]

theorem rdGet_put {b p r : List UInt8} {v k : Nat} (hb : b = p ++ (low v k ++ r)) (hk : 1 ≤ k ∧ k ≤ 8) (hv : v < 2 ^ (8 * k)) {o : Int} (ho : o = (p.length : Int)) :
    rdGet b ⟨o, 0⟩ k = (v, ⟨((p ++ low v k).length : Int), 0⟩) := by
  subst ho
  have hl := low_length v k
  have h1 : p.length + k ≤ b.length := by rw [hb]; simp only [List.length_append, hl]; omega
  have h2 := drop_mid p (low v k) r
  rw [hl, ← hb] at h2
  unfold rdGet
  simp only [if_true]
  rw [getR_ok (by omega) h1, h2, num_low, Nat.mod_eq_of_lt hv, List.length_append, hl]
  push_cast
  rfl
theorem uof_wrap (z : Int) (h1 : -9223372036854775808 ≤ z) (h2 : z ≤ 9223372036854775807) : wrap64 ((uof z : Nat) : Int) = z := by
  unfold uof
  rw [IntKind.wrap_u64]
  unfold wrap64
  omega
/-- A number that an int may be. -/
def I64 (v : Int) : Prop := -9223372036854775808 ≤ v ∧ v ≤ 9223372036854775807
theorem rdInt_put {b p r : List UInt8} {v : Int} (hb : b = p ++ (putI v ++ r)) (hv : I64 v) {o : Int} (ho : o = (p.length : Int)) :
    rdInt b ⟨o, 0⟩ = (v, ⟨((p ++ putI v).length : Int), 0⟩) := by
  unfold rdInt
  rw [rdGet_put (v := uof v) (k := 8) hb (by decide) (by have := uof_lt v; omega) ho, uof_wrap v hv.1 hv.2]
  rfl
theorem strOf_data (s : ByteArray) : strOf s.data.toList = s := by
  unfold strOf
  simp
theorem rdText_put {b p r : List UInt8} {s : ByteArray} (hb : b = p ++ (putT s ++ r)) (hs : s.size < 4294967296) {o : Int} (ho : o = (p.length : Int)) :
    rdText b ⟨o, 0⟩ = (s.data.toList, ⟨((p ++ putT s).length : Int), 0⟩) := by
  subst ho
  have hd : s.data.toList.length = s.size := by simp
  have hb2 : b = p ++ (low s.size 4 ++ (s.data.toList ++ r)) := by rw [hb]; unfold putT; simp
  have h2 := drop_mid p (low s.size 4) (s.data.toList ++ r)
  rw [low_length, ← hb2] at h2
  have hN : num ((b.take (p.length + 4)).drop p.length) = s.size := by
    rw [h2, num_low]
    exact Nat.mod_eq_of_lt (by omega)
  have hl : p.length + 4 + s.size ≤ b.length := by rw [hb, List.length_append, List.length_append, putT_length]; omega
  have h3 := drop_mid (p ++ low s.size 4) s.data.toList r
  rw [List.append_assoc, ← hb2, List.length_append, low_length, hd] at h3
  unfold rdText
  simp only [if_true]
  rw [getT_ok hN hl, h3, List.length_append, putT_length]
  simp only [Prod.mk.injEq, true_and]
  congr 1
  omega

def EntOk (e : Ent) : Prop := I64 e.no ∧ e.name.size < 4294967296
def RunOk (r : RunT) : Prop := I64 r.f ∧ I64 r.a ∧ I64 r.c
structure InoOk (x : Ino) : Prop where
  no : I64 x.no
  kind : I64 x.kind
  links : I64 x.links
  size : I64 x.size
  target : x.target.size < 4294967296
  el : x.ents.length < 4294967296
  rl : x.runs.length < 4294967296
  ents : ∀ e ∈ x.ents, EntOk e
  runs : ∀ r ∈ x.runs, RunOk r

theorem rdEnts_succ (b : List UInt8) (k : Nat) (o : Int) (acc : List Ent) : rdEnts b (k + 1) ⟨o, 0⟩ acc = rdEnts b k (rdInt b (rdText b ⟨o, 0⟩).2).2 (acc ++ [⟨strOf (rdText b ⟨o, 0⟩).1, (rdInt b (rdText b ⟨o, 0⟩).2).1⟩]) := rfl
theorem rdRuns_succ (b : List UInt8) (k : Nat) (o : Int) (acc : List RunT) : rdRuns b (k + 1) ⟨o, 0⟩ acc = rdRuns b k (rdRun b ⟨o, 0⟩).2 (acc ++ [(rdRun b ⟨o, 0⟩).1]) := rfl
theorem rdEnts_put (es : List Ent) {b p r : List UInt8} (hb : b = p ++ (putEnts es ++ r)) (he : ∀ e ∈ es, EntOk e) {o : Int} (ho : o = (p.length : Int)) (acc : List Ent) :
    rdEnts b es.length ⟨o, 0⟩ acc = (acc ++ es, ⟨((p ++ putEnts es).length : Int), 0⟩) := by
  induction es generalizing p o acc with
  | nil =>
    rw [show putEnts [] = [] from rfl, List.append_nil, List.append_nil, ho]
    rfl
  | cons e es ih =>
    obtain ⟨h1, h2⟩ := he e (by simp)
    rw [putEnts_cons] at hb
    have hb1 : b = p ++ (putT e.name ++ (putI e.no ++ (putEnts es ++ r))) := by rw [hb]; unfold putEnt; simp
    have hb2 : b = (p ++ putT e.name) ++ (putI e.no ++ (putEnts es ++ r)) := by rw [hb1]; simp
    have hb3 : b = (p ++ putEnt e) ++ (putEnts es ++ r) := by rw [hb]; simp
    have e1 := rdText_put hb1 h2 ho
    have e2 := rdInt_put hb2 h1 rfl
    have e3 : p ++ putT e.name ++ putI e.no = p ++ putEnt e := by unfold putEnt; simp
    rw [e3] at e2
    rw [List.length_cons, rdEnts_succ, e1]
    simp only [e2, strOf_data]
    rw [ih hb3 (fun x hx => he x (by simp [hx])) rfl, putEnts_cons]
    simp
theorem rdRuns_put (rs : List RunT) {b p r : List UInt8} (hb : b = p ++ (putRuns rs ++ r)) (he : ∀ e ∈ rs, RunOk e) {o : Int} (ho : o = (p.length : Int)) (acc : List RunT) :
    rdRuns b rs.length ⟨o, 0⟩ acc = (acc ++ rs, ⟨((p ++ putRuns rs).length : Int), 0⟩) := by
  induction rs generalizing p o acc with
  | nil =>
    rw [show putRuns [] = [] from rfl, List.append_nil, List.append_nil, ho]
    rfl
  | cons e rs ih =>
    obtain ⟨h1, h2, h3⟩ := he e (by simp)
    have hc : putRuns (e :: rs) = putRun e ++ putRuns rs := by simp [putRuns]
    rw [hc] at hb
    have hb1 : b = p ++ (putI e.f ++ (putI e.a ++ (putI e.c ++ (putRuns rs ++ r)))) := by rw [hb]; unfold putRun; simp
    have hb2 : b = (p ++ putI e.f) ++ (putI e.a ++ (putI e.c ++ (putRuns rs ++ r))) := by rw [hb1]; simp
    have hb2' : b = (p ++ putI e.f ++ putI e.a) ++ (putI e.c ++ (putRuns rs ++ r)) := by rw [hb1]; simp
    have hb3 : b = (p ++ putRun e) ++ (putRuns rs ++ r) := by rw [hb]; simp
    have e1 := rdInt_put hb1 h1 ho
    have e2 := rdInt_put hb2 h2 rfl
    have e2' := rdInt_put hb2' h3 rfl
    have e3 : p ++ putI e.f ++ putI e.a ++ putI e.c = p ++ putRun e := by unfold putRun; simp
    rw [e3] at e2'
    rw [List.length_cons, rdRuns_succ]
    unfold rdRun
    simp only [e1, e2, e2']
    rw [ih hb3 (fun x hx => he x (by simp [hx])) rfl, hc]
    simp
theorem rdHead_put {b p r : List UInt8} {x : Ino} (hb : b = p ++ (putHead x ++ r)) (hx : InoOk x) {o : Int} (ho : o = (p.length : Int)) :
    rdHead b ⟨o, 0⟩ = (⟨x.no, x.kind, x.links, x.size, x.target, [], []⟩, ⟨((p ++ putHead x).length : Int), 0⟩) := by
  have h1 : b = p ++ (putI x.no ++ (putI x.kind ++ (putI x.links ++ (putI x.size ++ (putT x.target ++ r))))) := by rw [hb]; unfold putHead; simp
  have h2 : b = (p ++ putI x.no) ++ (putI x.kind ++ (putI x.links ++ (putI x.size ++ (putT x.target ++ r)))) := by rw [h1]; simp
  have h3 : b = (p ++ putI x.no ++ putI x.kind) ++ (putI x.links ++ (putI x.size ++ (putT x.target ++ r))) := by rw [h1]; simp
  have h4 : b = (p ++ putI x.no ++ putI x.kind ++ putI x.links) ++ (putI x.size ++ (putT x.target ++ r)) := by rw [h1]; simp
  have h5 : b = (p ++ putI x.no ++ putI x.kind ++ putI x.links ++ putI x.size) ++ (putT x.target ++ r) := by rw [h1]; simp
  have e1 := rdInt_put h1 hx.no ho
  have e2 := rdInt_put h2 hx.kind rfl
  have e3 := rdInt_put h3 hx.links rfl
  have e4 := rdInt_put h4 hx.size rfl
  have e5 := rdText_put h5 hx.target rfl
  have e6 : p ++ putI x.no ++ putI x.kind ++ putI x.links ++ putI x.size ++ putT x.target = p ++ putHead x := by unfold putHead; simp
  rw [e6] at e5
  unfold rdHead
  simp only [e1, e2, e3, e4, e5, strOf_data]
theorem rdIno_put {b p r : List UInt8} {x : Ino} (hb : b = p ++ (putIno x ++ r)) (hx : InoOk x) {o : Int} (ho : o = (p.length : Int)) :
    rdIno b ⟨o, 0⟩ = (x, ⟨((p ++ putIno x).length : Int), 0⟩) := by
  have h1 : b = p ++ (putHead x ++ (low x.ents.length 4 ++ (putEnts x.ents ++ (low x.runs.length 4 ++ (putRuns x.runs ++ r))))) := by rw [hb]; unfold putIno; simp
  have h2 : b = (p ++ putHead x) ++ (low x.ents.length 4 ++ (putEnts x.ents ++ (low x.runs.length 4 ++ (putRuns x.runs ++ r)))) := by rw [h1]; simp
  have h3 : b = (p ++ putHead x ++ low x.ents.length 4) ++ (putEnts x.ents ++ (low x.runs.length 4 ++ (putRuns x.runs ++ r))) := by rw [h1]; simp
  have h4 : b = (p ++ putHead x ++ low x.ents.length 4 ++ putEnts x.ents) ++ (low x.runs.length 4 ++ (putRuns x.runs ++ r)) := by rw [h1]; simp
  have h5 : b = (p ++ putHead x ++ low x.ents.length 4 ++ putEnts x.ents ++ low x.runs.length 4) ++ (putRuns x.runs ++ r) := by rw [h1]; simp
  have e1 := rdHead_put h1 hx ho
  have e2 := rdGet_put h2 (by decide) (by have := hx.el; omega) rfl
  have e3 := rdEnts_put x.ents h3 hx.ents rfl []
  have e4 := rdGet_put h4 (by decide) (by have := hx.rl; omega) rfl
  have e5 := rdRuns_put x.runs h5 hx.runs rfl []
  have e6 : p ++ putHead x ++ low x.ents.length 4 ++ putEnts x.ents ++ low x.runs.length 4 ++ putRuns x.runs = p ++ putIno x := by unfold putIno; simp
  rw [e6] at e5
  rw [List.nil_append] at e3 e5
  unfold rdIno
  simp only [e1, e2, e3, e4, e5]

/-- A deed that has what its kind has alone. -/
def DdOk (d : Dd) : Prop := (numKind d.kind ∧ I64 d.no ∧ d.ino = ino0) ∨ (d.kind = 2 ∧ d.no = 0 ∧ InoOk d.ino)
theorem rdDd_put {b p r : List UInt8} {d : Dd} (hb : b = p ++ (putDd d ++ r)) (hd : DdOk d) {o : Int} (ho : o = (p.length : Int)) :
    rdDd b ⟨o, 0⟩ = (d, ⟨((p ++ putDd d).length : Int), 0⟩) := by
  have hk : uof d.kind < 256 ∧ ((uof d.kind : Nat) : Int) = d.kind := by
    have h1 : 0 ≤ d.kind ∧ d.kind ≤ 4 := by
      rcases hd with ⟨h, _⟩ | ⟨h, _⟩
      · unfold numKind at h; omega
      · omega
    unfold uof
    rw [IntKind.wrap_u64]
    omega
  have h1 : b = p ++ (low (uof d.kind) 1 ++ (putRest d ++ r)) := by rw [hb]; unfold putDd; simp
  have h2 : b = (p ++ low (uof d.kind) 1) ++ (putRest d ++ r) := by rw [h1]; simp
  have e1 := rdGet_put h1 (by decide) (by have := hk.1; omega) ho
  have e6 : p ++ low (uof d.kind) 1 ++ putRest d = p ++ putDd d := by unfold putDd; simp
  unfold rdDd
  simp only [e1, hk.2]
  rcases hd with ⟨h, h3, h4⟩ | ⟨h, h3, h4⟩
  · rw [if_pos h]
    have e7 : putRest d = putI d.no := by unfold putRest; rw [if_pos h]
    rw [e7] at h2 e6
    rw [rdInt_put h2 h3 rfl, e6]
    simp only [Prod.mk.injEq, and_true]
    rcases d with ⟨a, c, e⟩
    simp only at h4
    rw [h4]
  · have hn : ¬ numKind d.kind := by unfold numKind; omega
    rw [if_neg hn, if_pos h]
    have e7 : putRest d = putIno d.ino := by unfold putRest; rw [if_neg hn, if_pos h]
    rw [e7] at h2 e6
    rw [rdIno_put h2 h4 rfl, e6]
    simp only [Prod.mk.injEq, and_true]
    rcases d with ⟨a, c, e⟩
    simp only at h3
    rw [h3]
theorem putDd_pos (d : Dd) : 1 ≤ (putDd d).length := by unfold putDd; rw [List.length_append, low_length]; omega
theorem putDds_cons (d : Dd) (l : List Dd) : putDds (d :: l) = putDd d ++ putDds l := by simp [putDds]
theorem rdDds_put (ds : List Dd) {b p r : List UInt8} (hb : b = p ++ (putDds ds ++ r)) (hd : ∀ d ∈ ds, DdOk d) {o : Int} (ho : o = (p.length : Int)) (f : Nat) (acc : List Dd) :
    rdDds b (ds.length + f) ⟨o, 0⟩ acc = rdDds b f ⟨((p ++ putDds ds).length : Int), 0⟩ (acc ++ ds) := by
  induction ds generalizing p o acc with
  | nil =>
    rw [show putDds [] = [] from rfl, List.append_nil, List.append_nil, ho, List.length_nil, Nat.zero_add]
  | cons d ds ih =>
    rw [putDds_cons] at hb
    have h1 : b = p ++ (putDd d ++ (putDds ds ++ r)) := by rw [hb]; simp
    have h2 : b = (p ++ putDd d) ++ (putDds ds ++ r) := by rw [hb]; simp
    have e1 := rdDd_put h1 (hd d (by simp)) ho
    have hlt : o < (b.length : Int) := by
      have := putDd_pos d
      rw [ho, hb]
      simp only [List.length_append]
      omega
    rw [show (d :: ds).length + f = (ds.length + f) + 1 by simp; omega]
    conv => lhs; unfold rdDds
    simp only [hlt, if_true, e1]
    rw [ih h2 (fun x hx => hd x (by simp [hx])) rfl, putDds_cons]
    simp
theorem rdDds_all (ds : List Dd) (hd : ∀ d ∈ ds, DdOk d) : rdDds (putDds ds) ((putDds ds).length + 1) ⟨0, 0⟩ [] = (ds, 0) := by
  have hlen : ds.length ≤ (putDds ds).length := by
    clear hd
    induction ds with
    | nil => exact Nat.zero_le _
    | cons d ds ih =>
      have := putDd_pos d
      rw [putDds_cons, List.length_append, List.length_cons]
      omega
  obtain ⟨f, hf⟩ : ∃ f, (putDds ds).length + 1 = ds.length + (f + 1) := ⟨(putDds ds).length - ds.length, by omega⟩
  have e := rdDds_put ds (b := putDds ds) (p := []) (r := []) (o := 0) (by simp) hd rfl (f + 1) []
  rw [hf, e]
  unfold rdDds
  rw [if_neg (by simp)]
  simp

/-! ### a list that says that it has more than there is -/

theorem rdGet_dead (b : List UInt8) (s : RS) (k : Nat) (h : s.e ≠ 0) : rdGet b s k = (0, s) := by unfold rdGet; rw [if_neg h]
theorem rdInt_dead (b : List UInt8) (s : RS) (h : s.e ≠ 0) : (rdInt b s).2 = s := by unfold rdInt; rw [rdGet_dead b s 8 h]
theorem rdEnts_dead (b : List UInt8) (k : Nat) (s : RS) (acc : List Ent) (h : s.e ≠ 0) : rdEnts b k s acc = (acc, s) := by
  cases k with
  | zero => rfl
  | succ k => unfold rdEnts; rw [if_neg h]
theorem rdRuns_dead (b : List UInt8) (k : Nat) (s : RS) (acc : List RunT) (h : s.e ≠ 0) : rdRuns b k s acc = (acc, s) := by
  cases k with
  | zero => rfl
  | succ k => unfold rdRuns; rw [if_neg h]
theorem rdInt_end (b : List UInt8) {o : Int} (ho : o = (b.length : Int)) : (rdInt b ⟨o, 0⟩).2 = ⟨o + 8, 3⟩ := by
  subst ho
  unfold rdInt rdGet
  simp only [if_true]
  rcases getR_cases b (b.length : Int) 8 (by omega) (by decide) with ⟨h, _⟩ | ⟨_, h⟩
  · omega
  · rw [h]
    rfl
def listIno (t : ByteArray) : Ino := ⟨5, 3, 0, 0, t, [], []⟩
def listHead (t : ByteArray) : List UInt8 := low 2 1 ++ putHead (listIno t)
theorem listHead_length (t : ByteArray) : (listHead t).length = 37 + t.size := by unfold listHead; rw [List.length_append, low_length, putHead_length]; show 1 + (36 + t.size) = _; omega
theorem list_bytes (t : ByteArray) : putDds [⟨2, 0, listIno t⟩] = listHead t ++ (low 0 4 ++ low 0 4) := by
  have e1 : putIno (listIno t) = putHead (listIno t) ++ (low 0 4 ++ low 0 4) := by
    show putHead (listIno t) ++ (low 0 4 ++ ([] ++ (low 0 4 ++ []))) = _
    simp
  have e2 : putRest ⟨2, 0, listIno t⟩ = putIno (listIno t) := by unfold putRest; rw [if_neg (show ¬ numKind (2:Int) by decide), if_pos rfl]
  have e3 : uof 2 = 2 := by decide
  have e4 : putDds [⟨2, 0, listIno t⟩] = low (uof 2) 1 ++ putRest ⟨2, 0, listIno t⟩ := by unfold putDds putDd; simp
  rw [e4, e2, e1, e3]
  unfold listHead
  simp
theorem listIno_ok (t : ByteArray) (h : t.size ≤ 100) : InoOk (listIno t) :=
  ⟨by unfold I64 listIno; simp only; omega, by unfold I64 listIno; simp only; omega, by unfold I64 listIno; simp only; omega, by unfold I64 listIno; simp only; omega, by unfold listIno; simp only; omega, by unfold listIno; simp, by unfold listIno; simp, fun e he => by unfold listIno at he; simp at he, fun e he => by unfold listIno at he; simp at he⟩
theorem list_dd {b : List UInt8} {t : ByteArray} (h : t.size ≤ 100) {r : List UInt8} (hb : b = listHead t ++ r) (he : (rdIno b ⟨1, 0⟩).2.e = 3) (hl : 0 < b.length) (f : Nat) : rdDds b (f + 1) ⟨0, 0⟩ [] = ([], 3) := by
  have h1 : b = [] ++ (low 2 1 ++ (putHead (listIno t) ++ r)) := by rw [hb]; unfold listHead; simp
  have e1 := rdGet_put (v := 2) (k := 1) h1 (by decide) (by decide) (o := 0) rfl
  have e2 : rdGet b ⟨0, 0⟩ 1 = (2, ⟨1, 0⟩) := e1
  have e3 : (rdDd b ⟨0, 0⟩).2 = (rdIno b ⟨1, 0⟩).2 := by
    unfold rdDd
    rw [e2]
    simp only
    rw [if_neg (by decide), if_pos (by decide)]
  unfold rdDds
  rw [if_pos (by show (0 : Int) < _; omega), e3, he, if_neg (by decide)]
theorem list_runs {t : ByteArray} (h : t.size ≤ 100) {n : Nat} (h1 : 1 ≤ n) (h2 : n < 4294967296) {b : List UInt8} (hb : b = listHead t ++ (low 0 4 ++ low n 4)) : (rdIno b ⟨1, 0⟩).2.e = 3 := by
  have b1 : b = low 2 1 ++ (putHead (listIno t) ++ (low 0 4 ++ low n 4)) := by rw [hb]; unfold listHead; simp
  have b2 : b = listHead t ++ (low 0 4 ++ low n 4) := hb
  have b3 : b = (listHead t ++ low 0 4) ++ (low n 4 ++ []) := by rw [hb]; simp
  have e1 := rdHead_put b1 (listIno_ok t h) (o := 1) rfl
  have e2 := rdGet_put b2 (by decide) (by decide) (o := ((low 2 1 ++ putHead (listIno t)).length : Int)) rfl
  have e3 := rdGet_put b3 (by decide) (by omega) rfl
  have hlast : ((listHead t ++ low 0 4 ++ low n 4).length : Int) = (b.length : Int) := by rw [hb]; simp
  obtain ⟨k, rfl⟩ : ∃ k, n = k + 1 := ⟨n - 1, by omega⟩
  unfold rdIno
  rw [e1]
  simp only
  rw [e2]
  simp only
  have e4 : rdEnts b 0 ⟨((listHead t ++ low 0 4).length : Int), 0⟩ [] = ([], ⟨((listHead t ++ low 0 4).length : Int), 0⟩) := rfl
  rw [e4]
  simp only
  rw [e3]
  simp only
  rw [rdRuns_succ]
  have e5 := rdInt_end b hlast
  have e6 : (rdRun b ⟨((listHead t ++ low 0 4 ++ low (k + 1) 4).length : Int), 0⟩).2 = ⟨((listHead t ++ low 0 4 ++ low (k + 1) 4).length : Int) + 8, 3⟩ := by
    unfold rdRun
    simp only
    rw [e5]
    rw [rdInt_dead b ⟨((listHead t ++ low 0 4 ++ low (k + 1) 4).length : Int) + 8, 3⟩ (show (3:Nat) ≠ 0 by decide), rdInt_dead b _ (show (3:Nat) ≠ 0 by decide)]
  rw [e6, rdRuns_dead b k _ _ (show (3:Nat) ≠ 0 by decide)]
theorem list_ents {t : ByteArray} (h : t.size ≤ 100) {n : Nat} (h1 : 1 ≤ n) (h2 : n < 4294967296) {b : List UInt8} (hb : b = listHead t ++ (low n 4 ++ low 0 4)) : (rdIno b ⟨1, 0⟩).2.e = 3 := by
  have b1 : b = low 2 1 ++ (putHead (listIno t) ++ (low n 4 ++ low 0 4)) := by rw [hb]; unfold listHead; simp
  have b3 : b = (listHead t ++ low n 4) ++ (putT ByteArray.empty ++ []) := by
    rw [hb]
    have : putT ByteArray.empty = low 0 4 := by decide
    rw [this]
    simp
  have e1 := rdHead_put b1 (listIno_ok t h) (o := 1) rfl
  have e2 := rdGet_put hb (by decide) (by omega) (o := ((low 2 1 ++ putHead (listIno t)).length : Int)) rfl
  have e3 := rdText_put b3 (by decide) rfl
  have hlast : ((listHead t ++ low n 4 ++ putT ByteArray.empty).length : Int) = (b.length : Int) := by rw [b3]; simp
  obtain ⟨k, rfl⟩ : ∃ k, n = k + 1 := ⟨n - 1, by omega⟩
  unfold rdIno
  rw [e1]
  simp only
  rw [e2]
  simp only
  rw [rdEnts_succ, e3]
  simp only
  rw [rdInt_end b hlast, rdEnts_dead b k _ _ (show (3:Nat) ≠ 0 by decide)]
  simp only
  rw [rdGet_dead b _ 4 (show (3:Nat) ≠ 0 by decide)]
  simp only
  rw [rdRuns_dead b 0 _ _ (show (3:Nat) ≠ 0 by decide)]
end Go.Proofs.Ytdieeleaaejfhaa
