/- The program's deeds out of bytes. -/
import Derived.Test.YtdieeleaaejfhaaPackD
set_option linter.unusedVariables false
set_option maxRecDepth 100000
set_option linter.unusedSimpArgs false
namespace Go.Proofs.Ytdieeleaaejfhaa
open Go.RowKit

/-- An inode's rows lie in other blocks than that. -/
def Far (p : Dd × IV) (g : Nat) : Prop := (∀ y, p.2.EA = some y → 0 < p.1.ino.ents.length → y.block ≠ g) ∧ (∀ y, p.2.RA = some y → 0 < p.1.ino.runs.length → y.block ≠ g)
theorem IvIs.lt {w : World} {v : IV} {x : Ino} (h : IvIs w v x) : (∀ y, v.EA = some y → 0 < x.ents.length → y.block < w.heap.size) ∧ (∀ y, v.RA = some y → 0 < x.runs.length → y.block < w.heap.size) := by
  constructor
  · intro y e h0
    obtain ⟨b, off, e2, hb, _⟩ := h.e.at h0
    rw [e] at e2
    cases e2
    exact hb
  · intro y e h0
    obtain ⟨b, off, e2, hb, _⟩ := h.r.at h0
    rw [e] at e2
    cases e2
    exact hb
theorem IvIs.grown {w w' : World} {v : IV} {x : Ino} {row : Option Nat} (h : IvIs w v x) (hg : w.grownBy w' row) (hn : ∀ g, row = some g → (∀ y, v.EA = some y → 0 < x.ents.length → y.block ≠ g) ∧ (∀ y, v.RA = some y → 0 < x.runs.length → y.block ≠ g)) : IvIs w' v x := by
  cases row with
  | none => exact h.below (below_of_grown hg (Nat.le_refl _) (fun k e => by cases e))
  | some g => exact h.only (Only.of_grown hg) (fun y e h0 hm => (hn g rfl).1 y e h0 (by simpa using hm)) (fun y e h0 hm => (hn g rfl).2 y e h0 (by simpa using hm))

/-- The value owns a row of deeds. -/
def OwnDds (w : World) (B LB : Nat) (v : Value) (ds : List Dd) : Prop :=
  ∃ ps : List (Dd × IV), ps.map (·.1) = ds ∧ kDd.Own w B v ps ∧ ∀ p ∈ ps, IvIs w p.2 p.1.ino ∧ (∀ g, v.ownBlock = some g → Far p g) ∧ ∀ g, g < LB → Far p g
theorem OwnDds.nil (w : World) (B LB : Nat) : OwnDds w B LB (.slice none 0 0) [] := ⟨[], rfl, Kind.Own.nil _ _, fun p hp => by simp at hp⟩
theorem OwnDds.below {w w' : World} {B LB : Nat} {v : Value} {ds : List Dd} (h : OwnDds w B LB v ds) (hb : Below w.heap.size w w') : OwnDds w' B LB v ds := by
  obtain ⟨ps, h1, h2, h3⟩ := h
  exact ⟨ps, h1, h2.below hb, fun p hp => ⟨(h3 p hp).1.below hb, (h3 p hp).2⟩⟩
theorem OwnDds.lt {w : World} {B LB : Nat} {v : Value} {ds : List Dd} (h : OwnDds w B LB v ds) {g : Nat} (hg : v.ownBlock = some g) : B ≤ g ∧ g < w.heap.size := by
  obtain ⟨ps, h1, h2, h3⟩ := h
  exact h2.lt hg
theorem OwnDds.form {w : World} {B LB : Nat} {v : Value} {ds : List Dd} (h : OwnDds w B LB v ds) : ∃ A c, v = .slice A ds.length c ∧ (ds.length ≤ c ∧ c ≤ maxLen) ∧ DdsAt w A ds ∧ (∀ y, A = some y → B ≤ y.block) := by
  obtain ⟨ps, rfl, h2, h3⟩ := h
  obtain ⟨A, c, rfl, hc, hat, hA⟩ := h2.read
  rw [List.length_map]
  exact ⟨A, c, rfl, hc, ⟨ps, rfl, hat, fun p hp => (h3 p hp).1⟩, fun y e => (hA y e).1⟩
/-- What is turned is no block of theirs. -/
theorem OwnDds.only {w w' : World} {B LB : Nat} {v : Value} {ds : List Dd} {S : List Nat} (h : OwnDds w B LB v ds) (ho : Only S w w') (hS : ∀ x ∈ S, x < B ∧ x < LB) : OwnDds w' B LB v ds := by
  obtain ⟨ps, h1, h2, h3⟩ := h
  refine ⟨ps, h1, h2.only ho (fun x hx hm => by have := (h2.lt hx).1; have := hS x hm; omega), fun p hp => ?_⟩
  obtain ⟨h4, h5, h6⟩ := h3 p hp
  exact ⟨h4.only ho (fun y e h0 hm => (h6 _ (hS _ hm).2).1 y e h0 rfl) (fun y e h0 hm => (h6 _ (hS _ hm).2).2 y e h0 rfl), h5, h6⟩

theorem wp_append_dd {o : Oper} {a : Act} {w : World} {K : Act → World → Prop} {Q : Exit → Act → World → Prop} (s x : Operand)
    (ho : o.op = .call { callee := .builtin .append, args := #[s, x], argTypes := #[59, 59] })
    {B LB : Nat} {v : Value} {ds : List Dd} {d : Dd} {iv : IV} {b off c : Nat} (hs : a.eval s = v) (hx : a.eval x = .slice (some ⟨b, off, none⟩) 1 c) (hown : OwnDds w B LB v ds)
    (hc : ∀ j u, (ddCells d iv)[j]? = some u → w.cell? ⟨b, off + j, none⟩ = some u) (hi : IvIs w iv d.ino) (hne : ∀ g, v.ownBlock = some g → Far (d, iv) g) (hlb : ∀ g, g < LB → Far (d, iv) g)
    (hlen : ds.length + 1 ≤ 100000000000) (hB : B ≤ w.heap.size)
    (h : ∀ v' w', OwnDds w' B LB v' (ds ++ [d]) → w.grownBy w' v.ownBlock → K (a.put o.dst v') w') : o.wp Try.prog a w K Q := by
  obtain ⟨ps, rfl, h2, h3⟩ := hown
  rw [List.length_map] at hlen
  refine wp_append_el kDd s x ho (y := (d, iv)) hs hx h2 hc (by show (ps.length + 1) * 112 ≤ _; omega) (by omega) hB (fun v' w' hown' hg hv' => h v' w' ?_ hg)
  have key : ∀ p : Dd × IV, IvIs w p.2 p.1.ino → (∀ g, v.ownBlock = some g → Far p g) → IvIs w' p.2 p.1.ino ∧ ∀ g, v'.ownBlock = some g → Far p g := by
    intro p h5 h6
    refine ⟨h5.grown hg (fun g e => h6 g e), fun g e => ?_⟩
    rcases hv' with hv | hv
    · exact h6 g (by rw [← hv]; exact e)
    · rw [hv] at e
      cases e
      exact ⟨fun y e h0 => by have := h5.lt.1 y e h0; omega, fun y e h0 => by have := h5.lt.2 y e h0; omega⟩
  refine ⟨ps ++ [(d, iv)], by simp, hown', fun p hp => ?_⟩
  rcases List.mem_append.1 hp with hp | hp
  · exact ⟨(key p (h3 p hp).1 (h3 p hp).2.1).1, (key p (h3 p hp).1 (h3 p hp).2.1).2, (h3 p hp).2.2⟩
  · have : p = (d, iv) := by simpa using hp
    subst this
    exact ⟨(key _ hi hne).1, (key _ hi hne).2, hlb⟩

/-- A reader goes on. -/
def Fwd (n : Nat) (s s' : RS) : Prop := s.ok n → s'.ok n ∧ (s'.e = 0 → s.e = 0 ∧ s.at' ≤ s'.at')
theorem Fwd.refl (n : Nat) (s : RS) : Fwd n s s := fun h => ⟨h, fun e => ⟨e, Int.le_refl _⟩⟩
theorem Fwd.trans {n : Nat} {a b c : RS} (h : Fwd n a b) (k : Fwd n b c) : Fwd n a c := fun ha => by
  obtain ⟨h1, h2⟩ := h ha
  obtain ⟨h3, h4⟩ := k h1
  refine ⟨h3, fun e => ?_⟩
  obtain ⟨h5, h6⟩ := h4 e
  obtain ⟨h7, h8⟩ := h2 h5
  exact ⟨h7, by omega⟩
theorem fwd_get (b : List UInt8) (s : RS) (k : Nat) (hk : 1 ≤ k ∧ k ≤ 8) : Fwd b.length s (rdGet b s k).2 := fun h => by
  obtain ⟨h1, -, h3⟩ := h.get k hk
  refine ⟨h1, fun e => ⟨?_, by have := h3 e; omega⟩⟩
  by_cases e1 : s.e = 0
  · exact e1
  · have : (rdGet b s k).2 = s := by unfold rdGet; rw [if_neg e1]
    rw [this] at e
    exact e
theorem fwd_int (b : List UInt8) (s : RS) : Fwd b.length s (rdInt b s).2 := fwd_get b s 8 (by decide)
theorem fwd_text (b : List UInt8) (s : RS) : Fwd b.length s (rdText b s).2 := fun h => by
  refine ⟨h.text, fun e => ?_⟩
  by_cases e1 : s.e = 0
  · refine ⟨e1, ?_⟩
    unfold rdText at e ⊢
    rw [if_pos e1] at e ⊢
    rcases getT_cases b s.at' h.1 with ⟨_, c, _⟩ | ⟨a, _⟩
    · simp only; omega
    · simp only at e; omega
  · have : (rdText b s).2 = s := by unfold rdText; rw [if_neg e1]
    rw [this] at e ⊢
    exact ⟨e, Int.le_refl _⟩
theorem fwd_ents (b : List UInt8) (k : Nat) (s : RS) (acc : List Ent) : Fwd b.length s (rdEnts b k s acc).2 := by
  induction k generalizing s acc with
  | zero => exact Fwd.refl _ _
  | succ k ih =>
    unfold rdEnts
    split
    · exact ((fwd_text b s).trans (fwd_int b _)).trans (ih _ _)
    · exact Fwd.refl _ _
theorem fwd_runs (b : List UInt8) (k : Nat) (s : RS) (acc : List RunT) : Fwd b.length s (rdRuns b k s acc).2 := by
  induction k generalizing s acc with
  | zero => exact Fwd.refl _ _
  | succ k ih =>
    unfold rdRuns
    split
    · exact (((fwd_int b s).trans (fwd_int b _)).trans (fwd_int b _)).trans (ih _ _)
    · exact Fwd.refl _ _
theorem fwd_ino (b : List UInt8) (s : RS) : Fwd b.length s (rdIno b s).2 := by
  have h0 : Fwd b.length s (rdHead b s).2 := by
    unfold rdHead
    simp only
    have h1 := fwd_int b s
    generalize (rdInt b s).2 = r1 at *
    have h2 := fwd_int b r1
    generalize (rdInt b r1).2 = r2 at *
    have h3 := fwd_int b r2
    generalize (rdInt b r2).2 = r3 at *
    have h4 := fwd_int b r3
    generalize (rdInt b r3).2 = r4 at *
    exact (((h1.trans h2).trans h3).trans h4).trans (fwd_text b r4)
  unfold rdIno
  simp only
  generalize (rdHead b s).2 = q1 at *
  have h1 := fwd_get b q1 4 (by decide)
  generalize rdGet b q1 4 = q2 at *
  have h2 := fwd_ents b q2.1 q2.2 []
  generalize rdEnts b q2.1 q2.2 [] = q3 at *
  have h3 := fwd_get b q3.2 4 (by decide)
  generalize rdGet b q3.2 4 = q4 at *
  exact (((h0.trans h1).trans h2).trans h3).trans (fwd_runs b q4.1 q4.2 [])
theorem rdDd_at {b : List UInt8} {s : RS} (h : s.ok b.length) : (rdDd b s).2.ok b.length ∧ ((rdDd b s).2.e = 0 → s.e = 0 ∧ s.at' + 1 ≤ (rdDd b s).2.at') := by
  obtain ⟨h1, -, h3⟩ := h.get 1 (by decide)
  have h4 := (fwd_get b s 1 (by decide) h).2
  unfold rdDd
  generalize rdGet b s 1 = g at *
  simp only
  by_cases c1 : numKind (g.1 : Int)
  · rw [if_pos c1]
    obtain ⟨h5, h6⟩ := fwd_int b g.2 h1
    generalize rdInt b g.2 = r at *
    refine ⟨h5, fun e => ?_⟩
    obtain ⟨h7, h8⟩ := h6 e
    have h9 := h3 h7
    exact ⟨(h4 h7).1, by show s.at' + 1 ≤ r.2.at'; omega⟩
  · rw [if_neg c1]
    by_cases c2 : (g.1 : Int) = 2
    · rw [if_pos c2]
      obtain ⟨h5, h6⟩ := fwd_ino b g.2 h1
      generalize rdIno b g.2 = r at *
      refine ⟨h5, fun e => ?_⟩
      obtain ⟨h7, h8⟩ := h6 e
      have h9 := h3 h7
      exact ⟨(h4 h7).1, by show s.at' + 1 ≤ r.2.at'; omega⟩
    · rw [if_neg c2]
      obtain ⟨a1, a2, a3, a4⟩ := h1
      exact ⟨⟨a1, a2, (fun e => by cases e), by show 5 ≤ 5; exact Nat.le_refl _⟩, (fun e => by cases e)⟩

set_option maxHeartbeats 16000000 in
theorem pk_parse (A : Option Addr) (n c : Nat) (b : List UInt8) (w : World) (hb : Byts w A b) (hn : b.length = n) (hc : n ≤ c ∧ c ≤ maxLen) (hl : n ≤ 100000000) {ds : List Dd} {k en : Nat} (hE : rdDds b (n + 1) ⟨0, 0⟩ [] = (ds, en)) (hk : ds.length = k) :
    Calls Try.prog 42 #[.slice A n c] w fun e w' => ∃ A' c', e = .returned (.tuple #[.slice A' k c', .int .i64 (en : Int)]) ∧ (k ≤ c' ∧ c' ≤ maxLen) ∧ DdsAt w' A' ds ∧ (∀ y, A' = some y → w.heap.size ≤ y.block) ∧ Below w.heap.size w w' := by
  obtain ⟨w0, rfl⟩ : ∃ w0 : World, w0 = w := ⟨_, rfl⟩
  have hs0 := Nat.le_refl w0.heap.size
  have hrd := Blk.new w0 [.slice A n c, .int .i64 0, .int .i64 0] 99
  have hb1 := below_alloc w0 (.cells [.slice A n c, .int .i64 0, .int .i64 0].toArray 99 (0, 0))
  have hA0 : ∀ y, A = some y → 0 < n → y.block < w0.heap.size := fun y e h0 => by
    obtain ⟨b', off, e2, hc'⟩ := hb.at (k := 0) (by rw [hn]; exact h0)
    rw [e] at e2
    cases e2
    exact World.block_lt_of_cell? w0 _ hc'
  have HKL := Lib.hid hk
  have HN := Lib.hid hn
  go_enter Try.func42, Try.ntmps42
  go_upto_region 3 with fail
  generalize w0.alloc (.cells [.slice A n c, .int .i64 0, .int .i64 0].toArray 99 (0, 0)) = w1 at *
  have hR1 : Rdr w1 w0.heap.size A n c b ⟨0, 0⟩ := ⟨hrd, hb.below hb1, hn, hc, hl, fun y e h0 => by have := hA0 y e h0; omega, ⟨Int.le_refl _, by show (0 : Int) ≤ n + 8; omega, fun _ => by show (0 : Int) ≤ n; omega, Nat.zero_le _⟩⟩
  have hw1 : w0.heap.size < w1.heap.size := hrd.lt
  obtain ⟨rb, hrbe⟩ : ∃ rb, rb = w0.heap.size := ⟨_, rfl⟩
  rw [← hrbe] at hR1 ⊢
  have hrb1 : rb < w1.heap.size := by omega
  have HRB := Lib.hid hrbe
  have HE0 := Lib.hid hE
  clear hrbe hrd hk hn hE
  go_loopw [5] (fun v5 wr => ∃ (f : Nat) (s : RS) (acc : List Dd), (n : Int) < s.at' + f ∧ s.e = 0 ∧ (s.at' ≤ n) ∧ Hid (rdDds b f s acc = (ds, en)) ∧ Rdr wr rb A n c b s ∧ OwnDds wr w1.heap.size w1.heap.size v5 acc ∧ acc.length ≤ s.at' ∧ Only [rb] w1 wr) (fun _ wr => (n - (intOf ((wr.cell? ⟨rb, 1, none⟩).getD (.int .i64 0)))).toNat)
  case atStart => exact ⟨n + 1, ⟨0, 0⟩, [], by show (n : Int) < 0 + ((n + 1 : Nat) : Int); omega, rfl, by show (0 : Int) ≤ n; omega, HE0, hR1, OwnDds.nil _ _ _, by show (0 : Int) ≤ 0; omega, Only.refl _ _⟩
  case round =>
    clear hR1 HE0
    obtain ⟨f, s, acc, hf, he, han, HE, hR, hown, hacc, ho⟩ := hrel
    have c1 := hR.blk.cell 1 _ rfl
    by_cases hlt : s.at' < n
    · obtain ⟨f', rfl⟩ : ∃ f', f = f' + 1 := ⟨f - 1, by omega⟩
      obtain ⟨d, s2, hD⟩ : ∃ d s2, rdDd b s = (d, s2) := ⟨_, _, rfl⟩
      have hok : RS.ok s b.length := by rw [hR.len]; exact hR.ok
      obtain ⟨hok2, hat2⟩ := rdDd_at hok
      rw [hD] at hok2 hat2
      simp only at hok2 hat2
      have HE2 : Hid ((s2.e = 0 → rdDds b f' s2 (acc ++ [d]) = (ds, en)) ∧ (s2.e ≠ 0 → ds = [] ∧ en = s2.e)) := by
        have h1 := HE.out
        unfold rdDds at h1
        rw [hR.len, if_pos hlt, hD] at h1
        simp only at h1
        constructor
        · intro h
          rw [if_pos h] at h1
          exact h1
        · intro h
          rw [if_neg h] at h1
          simp only [Prod.mk.injEq] at h1
          exact ⟨h1.1.symm, h1.2.symm⟩
      have HD := Lib.hid hD
      have hz1 := ho.size
      have hlt2 : s2.at' ≤ n + 8 := by have := hok2.2.1; rw [hR.len] at this; exact this
      clear hD hok HE
      have hlc := hown
      go_upto_region 5 with (first
        | (go_at_call 60; refine (rd_deed hR HD.out).mono ?_; rintro e w2 ⟨v, rfl, hR2, hIv2, hEA2, hRA2, ho2⟩; rw [show ddCells d v = [.int .i64 d.kind, .int .i64 d.no, .int .i64 d.ino.no, .int .i64 d.ino.kind, .int .i64 d.ino.links, .int .i64 d.ino.size, .string d.ino.target, .slice v.EA d.ino.ents.length v.Ec, .slice v.RA d.ino.runs.length v.Rc] from rfl]; have hown2 := hown.only ho2 (fun x hx => by simp at hx; omega))
        | (at_builtin; refine wpList_wanted (by rfl) fun K hK => wp_append_dd _ _ rfl (d := d) (iv := v) rfl rfl (hown2.below (below_alloc w2 (.cells #[.int .i64 d.kind, .int .i64 d.no, .int .i64 d.ino.no, .int .i64 d.ino.kind, .int .i64 d.ino.links, .int .i64 d.ino.size, .string d.ino.target, .slice v.EA d.ino.ents.length v.Ec, .slice v.RA d.ino.runs.length v.Rc] 71))) (cells_alloc w2 [.int .i64 d.kind, .int .i64 d.no, .int .i64 d.ino.no, .int .i64 d.ino.kind, .int .i64 d.ino.links, .int .i64 d.ino.size, .string d.ino.target, .slice v.EA d.ino.ents.length v.Ec, .slice v.RA d.ino.runs.length v.Rc] 71 (0, 0)) (hIv2.below (below_alloc w2 (.cells #[.int .i64 d.kind, .int .i64 d.no, .int .i64 d.ino.no, .int .i64 d.ino.kind, .int .i64 d.ino.links, .int .i64 d.ino.size, .string d.ino.target, .slice v.EA d.ino.ents.length v.Ec, .slice v.RA d.ino.runs.length v.Rc] 71))) (fun g hg => ⟨fun y e h0 => by have := hEA2 y e; have := (hown.lt hg).2; omega, fun y e h0 => by have := hRA2 y e; have := (hown.lt hg).2; omega⟩) (fun g hg => ⟨fun y e h0 => by have := hEA2 y e; omega, fun y e h0 => by have := hRA2 y e; omega⟩) (by have := hR.lim; omega) (by rw [World.size_alloc]; have := ho2.size; omega) ?_; intro v5 w3 hown3 hg3; refine hK _ _ ?_; clear hK K))
      have hR2a := hR2.below (below_alloc w2 (.cells #[.int .i64 d.kind, .int .i64 d.no, .int .i64 d.ino.no, .int .i64 d.ino.kind, .int .i64 d.ino.links, .int .i64 d.ino.size, .string d.ino.target, .slice v.EA d.ino.ents.length v.Ec, .slice v.RA d.ino.runs.length v.Rc] 71))
      obtain ⟨S, hS1, hS2⟩ := only_of_grown hg3 (B := w1.heap.size) (fun k e => (hown2.lt e).1)
      have hR3 := hR2a.only hS1 (fun hm => by have := hS2 _ hm; omega) (fun y e h0 hm => by have := hS2 _ hm; have := hA0 y e h0; omega)
      have ho3 : Only [rb] w1 w3 := (ho.trans (ho2.trans (Only.of_below (below_alloc w2 (.cells #[.int .i64 d.kind, .int .i64 d.no, .int .i64 d.ino.no, .int .i64 d.ino.kind, .int .i64 d.ino.links, .int .i64 d.ino.size, .string d.ino.target, .slice v.EA d.ino.ents.length v.Ec, .slice v.RA d.ino.runs.length v.Rc] 71)) _))).trans' hS1 (fun x hx => Or.inr (hS2 x hx))
      have e2 := hR3.blk.cell 2 _ rfl
      have HM : Hid ((w3.cell? ⟨rb, 1, none⟩).getD (.int .i64 0) = .int .i64 s2.at' ∧ (wr.cell? ⟨rb, 1, none⟩).getD (.int .i64 0) = .int .i64 s.at') := ⟨by rw [hR3.blk.cell 1 _ rfl]; rfl, by rw [c1]; rfl⟩
      clear hR2 hR2a hown2 hg3 hS1 hS2 hIv2 hEA2 hRA2 ho2 hR hown hlc c1
      by_cases he2 : s2.e = 0
      · rw [he2] at e2
        have h9 := hat2 he2
        go_wp2_with fail
        go_roundw
        case rel => exact ⟨f', s2, acc ++ [d], by omega, he2, by have := hok2.2.2.1 he2; rw [HN.out] at this; exact this, HE2.out.1 he2, hR3, hown3, by rw [List.length_append]; simp only [List.length_singleton]; omega, ho3⟩
        case measure =>
          rw [HM.out.1, HM.out.2]
          simp [intOf]
          omega
      · have heI : (((s2.e : Nat) : Int) != 0) = true := by simp; omega
        obtain ⟨rfl, rfl⟩ := HE2.out.2 he2
        go_upto_region 6 with fail
        go_region
        go_wp2_with fail
        go_ret2
        refine ⟨none, 0, ?_, ?_, ⟨[], rfl, Kind.At.nil _ _ _, fun p hp => by simp at hp⟩, (fun y e => by cases e), ?_⟩
        · rw [← HKL.out]; rfl
        · rw [← HKL.out]; exact ⟨Nat.le_refl _, Nat.zero_le _⟩
        · have h1 := hb1.trans (ho3.below (B := w0.heap.size) (fun x hx => by simp at hx; have := HRB.out; omega) (by omega))
          exact h1.drew
    · have HF : Hid (acc = ds ∧ en = 0) := by
        obtain ⟨f', rfl⟩ : ∃ f', f = f' + 1 := ⟨f - 1, by omega⟩
        have h1 := HE.out
        unfold rdDds at h1
        rw [hR.len, if_neg hlt] at h1
        simp only [Prod.mk.injEq] at h1
        exact ⟨h1.1, h1.2.symm⟩
      obtain ⟨A5, c5, rfl, hc5, hat5, hA5⟩ := hown.form
      have hb9 := hb1.trans (ho.below (B := w0.heap.size) (fun x hx => by simp at hx; have := HRB.out; omega) (by omega))
      clear hown hR hacc HE
      go_wp2_with fail
      go_ret2
      obtain ⟨rfl, rfl⟩ := HF.out
      rw [HKL.out] at hc5 ⊢
      exact ⟨A5, c5, rfl, hc5, hat5, fun y e => Nat.le_trans (Nat.le_of_lt hw1) (hA5 y e), hb9⟩
end Go.Proofs.Ytdieeleaaejfhaa
