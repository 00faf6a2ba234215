/- Laws of m[k]++ and its like. -/
import Derived.Test.YtionjddcahgpkaaOnly
import Derived.WideKeyEntry
set_option linter.unusedVariables false
set_option maxRecDepth 100000
set_option linter.unusedSimpArgs false
namespace Go.Proofs.Ytionjddcahgpkaa
open Go.RowKit
open Go.Maps (Keyed)

theorem setBlock_grown {w : World} {b : Nat} {es : Array MapEntry} {clock : Nat} (o' : Obj) (hb : w.heap[b]? = some (.map es clock)) : w.grownBy (ChangeMaps.setBlock w b o') (some b) :=
  ⟨rfl, rfl, rfl, by simp [ChangeMaps.setBlock], fun i _ hi => ChangeMaps.heap_setBlock_other hb _ (fun e => hi (by rw [e]))⟩

/-- m[k]++ and its like: the entry, then the store into it. -/
theorem MapIs.bump {P : Program} {k e t : TypeId} {w : World} {b n : Nat} {f : Value → Option Value} (h : MapIs w P k b n f) (K : WideMaps.KeyLaw P k) (ht : P.underlying t = some (.map k e)) {z : Value} (hz : ∀ u : World, (zeroValue e).run P u = .ok z u)
    (hn : n < maxLen) {key : Value} (val : Value) {kl : Lit} (hkey : keyOf P k key = some kl) :
    ∃ (v0 : Value) (st : Nat) (w1 : World), (Instr.mapEntry t (.map (some b)) key).run P w = .ok (.tuple #[v0, goInt st]) w1 ∧ w.grownBy w1 (some b) ∧
      ∀ w2 : World, w2.heap[b]? = w1.heap[b]? → ∃ w3, (Instr.entryStore t (.map (some b)) (goInt st) val).run P w2 = .ok () w3 ∧ w2.grownBy w3 (some b) ∧ MapIs w3 P k b (n + 1) (updV f key (some val)) := by
  obtain ⟨w', hput, hmap, _⟩ := h.put (val := val) (Keyed.of_law K) ht hn hkey
  obtain ⟨D, ⟨es, clock, hb, F, _, rfl⟩, h2⟩ := h
  obtain ⟨v0, st, es1, clock1, hE, _, hS⟩ := WideElems.entry_then_store K ht hz hb F hkey
  refine ⟨v0, st, _, hE, setBlock_grown _ hb, fun w2 hw2 => ?_⟩
  have hw1 := ChangeMaps.heap_setBlock_same hb (.map es1 clock1)
  rw [hw1] at hw2
  obtain ⟨es', clock', hrun, hupd⟩ := hS w2 val hw2
  have e : w' = ChangeMaps.setBlock w b (.map es' clock') := by
    rw [hput] at hupd
    injection hupd
  subst e
  exact ⟨_, hrun, setBlock_grown _ hw2, hmap.stay ((ChangeMaps.heap_setBlock_same hw2 _).trans (ChangeMaps.heap_setBlock_same hb _).symm)⟩

open WideElems ChangeMaps in
/-- The entry itself: the map then holds at the key what a read of it gives. -/
theorem MapIs.entry {P : Program} {k e t : TypeId} {w : World} {b n : Nat} {f : Value → Option Value} (h : MapIs w P k b n f) (K : WideMaps.KeyLaw P k) (ht : P.underlying t = some (.map k e)) {z : Value} (hz : ∀ u : World, (zeroValue e).run P u = .ok z u)
    (hn : n < maxLen) {key : Value} {kl : Lit} (hkey : keyOf P k key = some kl) :
    ∃ (v0 : Value) (st : Nat) (w1 : World), (Instr.mapEntry t (.map (some b)) key).run P w = .ok (.tuple #[v0, goInt st]) w1 ∧ v0 = (f key).getD z ∧ MapIs w1 P k b (n + 1) (updV f key (some v0)) := by
  have hlook := h.look (Keyed.of_law K) ht (hz w) false hkey
  simp only [Bool.false_eq_true, if_false] at hlook
  have hputz := fun v => h.put (val := v) (Keyed.of_law K) ht hn hkey
  obtain ⟨D, ⟨es, clock, hb, F, _, rfl⟩, h2⟩ := h
  rcases K.find w hkey es.toList F.keys with ⟨h1, h2'⟩ | ⟨j, e0, h1, h2', h3⟩
  · obtain ⟨w', hput, hmap, _⟩ := hputz z
    have hl2 : (Instr.lookup t (.map (some b)) key false).run P w = .ok z w := by
      simp [Instr.lookup, run_underlying ht, MapKept.run_getObj_map hb, K.check w es.isEmpty hkey, h1, hz, Result.andThen]
    have hp2 : (Instr.mapUpdate t (.map (some b)) key z).run P w = .ok () (setBlock w b (.map (es.push ⟨key, z, clock⟩) (clock + 1))) := by
      simp [Instr.mapUpdate, run_underlying ht, MapKept.run_getObj_map hb, K.check w false hkey, h1, MapKept.run_setObj_map _ hb, Result.andThen, setBlock]
    have he : (Instr.mapEntry t (.map (some b)) key).run P w = .ok (.tuple #[z, goInt clock]) (setBlock w b (.map (es.push ⟨key, z, clock⟩) (clock + 1))) := by
      simp [Instr.mapEntry, run_underlying ht, MapKept.run_getObj_map hb, K.check w false hkey, h1, hz, MapKept.run_setObj_map _ hb, Result.andThen, setBlock]
    rw [hput] at hp2
    injection hp2 with _ e2
    subst e2
    refine ⟨z, clock, _, he, ?_, hmap⟩
    rw [hl2] at hlook
    injection hlook
  · obtain ⟨w', hput, hmap, _⟩ := hputz e0.val
    have hj : es[j]? = some e0 := by simpa using h2'
    have hl2 : (Instr.lookup t (.map (some b)) key false).run P w = .ok e0.val w := by
      simp [Instr.lookup, run_underlying ht, MapKept.run_getObj_map hb, K.check w es.isEmpty hkey, h1, hz, Result.andThen]
    have hsame : es.modify j (fun e => { e with key := key }) = es := by
      apply Array.ext'
      rw [Array.toList_modify, modify_eq_set _ _ _ _ h2']
      have : ({ e0 with key := key } : MapEntry) = e0 := by rw [← h3]
      rw [this]
      exact set_self _ _ _ h2'
    have hsame2 : es.modify j (fun e => { e with key := key, val := e0.val }) = es := by
      apply Array.ext'
      rw [Array.toList_modify, modify_eq_set _ _ _ _ h2']
      have : ({ e0 with key := key, val := e0.val } : MapEntry) = e0 := by rw [← h3]
      rw [this]
      exact set_self _ _ _ h2'
    have hp2 : (Instr.mapUpdate t (.map (some b)) key e0.val).run P w = .ok () (setBlock w b (.map es clock)) := by
      simp [Instr.mapUpdate, run_underlying ht, MapKept.run_getObj_map hb, K.check w false hkey, h1, hj, h3, K.stays w hkey, hsame2, MapKept.run_setObj_map _ hb, Result.andThen, setBlock]
    have he : (Instr.mapEntry t (.map (some b)) key).run P w = .ok (.tuple #[e0.val, goInt e0.born]) (setBlock w b (.map es clock)) := by
      simp [Instr.mapEntry, run_underlying ht, MapKept.run_getObj_map hb, K.check w false hkey, h1, hj, h3, K.stays w hkey, hsame, MapKept.run_setObj_map _ hb, Result.andThen, setBlock]
    rw [hput] at hp2
    injection hp2 with _ e2
    subst e2
    refine ⟨e0.val, e0.born, _, he, ?_, hmap⟩
    rw [hl2] at hlook
    injection hlook

theorem MapIs.bump2 {P : Program} {k e t : TypeId} {w : World} {b n : Nat} {f : Value → Option Value} (h : MapIs w P k b n f) (K : WideMaps.KeyLaw P k) (ht : P.underlying t = some (.map k e)) {z : Value} (hz : ∀ u : World, (zeroValue e).run P u = .ok z u)
    (hn : n < maxLen) {key : Value} (val : Value) {kl : Lit} (hkey : keyOf P k key = some kl) :
    ∃ (st : Nat) (w1 w3 : World), (Instr.mapEntry t (.map (some b)) key).run P w = .ok (.tuple #[(f key).getD z, .int .i64 st]) w1 ∧ w.grownBy w1 (some b) ∧ (Instr.lookup t (.map (some b)) key false).run P w1 = .ok ((f key).getD z) w1 ∧
      (Instr.entryStore t (.map (some b)) (.int .i64 st) val).run P w1 = .ok () w3 ∧ w1.grownBy w3 (some b) ∧ MapIs w3 P k b (n + 1) (updV f key (some val)) := by
  obtain ⟨v0, st, w1, h1, hv, hm⟩ := h.entry K ht hz hn hkey
  obtain ⟨v0', st', w1', h1', hg, hst⟩ := h.bump K ht hz hn val hkey
  rw [h1] at h1'
  injection h1' with e1 e2
  injection e1 with e3
  simp [goInt] at e3
  obtain ⟨e4, e5⟩ := e3
  subst e2 e4
  obtain ⟨w3, h3, hg3, hm3⟩ := hst w1 rfl
  have hl := hm.look (Keyed.of_law K) ht (hz w1) false hkey
  simp only [Bool.false_eq_true, if_false, updV_same, Option.getD_some] at hl
  subst hv
  refine ⟨st, w1, w3, h1, hg, hl, ?_, hg3, hm3⟩
  have : st = st' := by exact_mod_cast e5
  rw [this]
  exact h3

end Go.Proofs.Ytionjddcahgpkaa
