/- Words on what a call may turn: a list of blocks, and all new ones; whole blocks of cells; maps by their keys' values. Nothing here speaks of the program. -/
import Derived.Test.YtionjddcahgpkaaBase
import Derived.Maps.OwnSet
import Derived.DeepKeys5
set_option linter.unusedVariables false
set_option maxRecDepth 100000
namespace Go.Proofs.Ytionjddcahgpkaa
open Go.RowKit
open Go.Maps (Keyed)

/-! ### what may turn -/

/-- w' is w but for the blocks of the list, and new ones. -/
structure Only (S : List Nat) (w w' : World) : Prop where
  os : w'.os = w.os
  tape : w'.tape = w.tape
  output : w'.output = w.output
  size : w.heap.size ≤ w'.heap.size
  block : ∀ k, k < w.heap.size → k ∉ S → w'.heap[k]? = w.heap[k]?

theorem Only.refl (S : List Nat) (w : World) : Only S w w := ⟨rfl, rfl, rfl, Nat.le_refl _, fun _ _ _ => rfl⟩
theorem Only.trans' {S S' : List Nat} {a b c : World} (h : Only S a b) (k : Only S' b c) (hs : ∀ x ∈ S', x ∈ S ∨ a.heap.size ≤ x) : Only S a c :=
  ⟨k.os.trans h.os, k.tape.trans h.tape, k.output.trans h.output, Nat.le_trans h.size k.size, fun i hi hn =>
    (k.block i (Nat.lt_of_lt_of_le hi h.size) (fun hx => (hs i hx).elim hn (fun h2 => by omega))).trans (h.block i hi hn)⟩
theorem Only.trans {S : List Nat} {a b c : World} (h : Only S a b) (k : Only S b c) : Only S a c := h.trans' k (fun x hx => Or.inl hx)
theorem Only.mono {S S' : List Nat} {a b : World} (h : Only S a b) (hs : ∀ x ∈ S, x ∈ S') : Only S' a b := ⟨h.os, h.tape, h.output, h.size, fun k hk hn => h.block k hk (fun hx => hn (hs k hx))⟩
theorem Only.of_below {w w' : World} (h : Below w.heap.size w w') (S : List Nat) : Only S w w' := ⟨h.os, h.tape, h.output, h.size, fun k hk _ => h.block k hk⟩
theorem Only.of_grown {w w' : World} {b : Nat} (h : w.grownBy w' (some b)) : Only [b] w w' := ⟨h.os, h.tape, h.output, h.size, fun k hk hn => h.block k hk (fun e => hn (by cases e; simp))⟩
theorem Only.below {S : List Nat} {B : Nat} {w w' : World} (h : Only S w w') (hs : ∀ x ∈ S, B ≤ x) (hB : B ≤ w.heap.size) : Below B w w' :=
  ⟨h.os, h.tape, h.output, h.size, fun k hk => h.block k (by omega) (fun hx => by have := hs k hx; omega)⟩
theorem Only.drew {S : List Nat} {a w : World} (h : Only S a w) : Only S a w.drew := ⟨h.os, h.tape, h.output, h.size, h.block⟩
theorem Only.drewN {S : List Nat} {a w : World} (h : Only S a w) (n : Nat) : Only S a (w.drewN n) := ⟨h.os, h.tape, h.output, h.size, h.block⟩
theorem Only.alloc {S : List Nat} {a w : World} (h : Only S a w) (o : Obj) : Only S a (w.alloc o) :=
  h.trans ⟨rfl, rfl, rfl, by simp, fun k hk _ => Below.heap_alloc _ _ _ hk⟩
theorem Only.setCell {S : List Nat} {a w : World} (h : Only S a w) {p : Addr} (hp : p.block ∈ S ∨ a.heap.size ≤ p.block) (u : Value) : Only S a (w.setCell p u) :=
  h.trans' (S' := [p.block]) ⟨rfl, rfl, rfl, by simp [World.setCell], fun k hk hn => Below.heap_setCell _ _ _ _ (by simpa using hn)⟩ (fun x hx => by simp at hx; rw [hx]; exact hp)
theorem Only.cell {S : List Nat} {w w' : World} (h : Only S w w') {p : Addr} (hp : p.block < w.heap.size) (hn : p.block ∉ S) : w'.cell? p = w.cell? p := World.cell?_of_block (w := w) (h.block p.block hp hn)
theorem Only.frozen {S : List Nat} {w w' : World} (h : Only S w w') {p : Addr} (hp : p.block < w.heap.size) (hn : p.block ∉ S) : w'.frozen? p = w.frozen? p := World.frozen?_of_block (w := w) (h.block p.block hp hn)
theorem Only.new {S : List Nat} {w w' : World} (h : Below w.heap.size w w') : Only S w w' := Only.of_below h S

/-! ### a whole block of cells -/

/-- Block b holds these cells, and all may be written. -/
def Blk (w : World) (b : Nat) (T : TypeId) (cs : List Value) : Prop := w.heap[b]? = some (.cells cs.toArray T (0, 0))

theorem Blk.lt {w : World} {b : Nat} {T : TypeId} {cs : List Value} (h : Blk w b T cs) : b < w.heap.size := (Array.getElem?_eq_some_iff.1 h).1
theorem Blk.cell {w : World} {b : Nat} {T : TypeId} {cs : List Value} (h : Blk w b T cs) (i : Nat) (u : Value) (hu : cs[i]? = some u) : w.cell? ⟨b, i, none⟩ = some u := by
  unfold Blk at h
  unfold World.cell?
  simp only [h]
  simpa using hu
theorem Blk.frz {w : World} {b : Nat} {T : TypeId} {cs : List Value} (h : Blk w b T cs) (i : Nat) : w.frozen? ⟨b, i, none⟩ = false := by
  unfold Blk at h
  unfold World.frozen?
  simp [h]
theorem Blk.stay {w w' : World} {b : Nat} {T : TypeId} {cs : List Value} (h : Blk w b T cs) (e : w'.heap[b]? = w.heap[b]?) : Blk w' b T cs := e.trans h
theorem Blk.only {w w' : World} {S : List Nat} {b : Nat} {T : TypeId} {cs : List Value} (h : Blk w b T cs) (ho : Only S w w') (hn : b ∉ S) : Blk w' b T cs := h.stay (ho.block b h.lt hn)
theorem Blk.new (w : World) (cs : List Value) (T : TypeId) : Blk (w.alloc (.cells cs.toArray T (0, 0))) w.heap.size T cs := heap_alloc_new w _
theorem Blk.drew {w : World} {b : Nat} {T : TypeId} {cs : List Value} (h : Blk w b T cs) : Blk w.drew b T cs := h
theorem Blk.drewN {w : World} {b : Nat} {T : TypeId} {cs : List Value} (h : Blk w b T cs) (n : Nat) : Blk (w.drewN n) b T cs := h
theorem Blk.alloc {w : World} {b : Nat} {T : TypeId} {cs : List Value} (h : Blk w b T cs) (o : Obj) : Blk (w.alloc o) b T cs := h.stay (Below.heap_alloc w o b h.lt)
theorem Blk.set {w : World} {b : Nat} {T : TypeId} {cs : List Value} (h : Blk w b T cs) (i : Nat) (u : Value) : Blk (w.setCell ⟨b, i, none⟩ u) b T (cs.set i u) := by
  unfold Blk at *
  simp only [World.setCell, Array.getElem?_modify]
  simp [h]
theorem Blk.set_other {w : World} {b : Nat} {T : TypeId} {cs : List Value} (h : Blk w b T cs) {p : Addr} (hp : b ≠ p.block) (u : Value) : Blk (w.setCell p u) b T cs := h.stay (Below.heap_setCell w p u b hp)

/-! ### maps by their keys' values -/

/-- What a map holds at a key, as the datum over values tells it. -/
def lookD (D : DataW Value) (kl : Lit) : Option Value := match D.atKey kl .nil with | .held v => some v | _ => none

open Classical in
/-- At one key another thing. -/
noncomputable def updV (f : Value → Option Value) (key : Value) (o : Option Value) : Value → Option Value := fun x => if x = key then o else f x
theorem updV_same (f : Value → Option Value) (key : Value) (o : Option Value) : updV f key o key = o := by unfold updV; rw [if_pos rfl]
theorem updV_other (f : Value → Option Value) (key : Value) (o : Option Value) {x : Value} (h : x ≠ key) : updV f key o x = f x := by unfold updV; rw [if_neg h]

def rawR (v : Value) : Option (DataW Value × List MemPlace) := some (.held v, [])

/-- Block b is a map of at most n entries, from keys (as values) to values. -/
def MapIs (w : World) (P : Program) (k : TypeId) (b n : Nat) (f : Value → Option Value) : Prop :=
  ∃ D : DataW Value, w.ownsMap P k rawR b n D ∧ ∀ key kl, keyOf P k key = some kl → lookD D kl = f key

section
variable {P : Program} {k e t : TypeId} {w : World} {b n : Nat} {f : Value → Option Value}

theorem MapIs.made (w : World) (P : Program) (k : TypeId) : MapIs (w.alloc (.map #[] 0)) P k w.heap.size 0 (fun _ => none) :=
  ⟨.map [], World.ownsMap_made _ _ _ _, fun _ _ _ => rfl⟩
theorem MapIs.lt (h : MapIs w P k b n f) : b < w.heap.size := by obtain ⟨D, h, _⟩ := h; exact h.lt
theorem MapIs.stay {w' : World} (h : MapIs w P k b n f) (he : w'.heap[b]? = w.heap[b]?) : MapIs w' P k b n f := by
  obtain ⟨D, ⟨es, clock, hb, r⟩, h2⟩ := h
  exact ⟨D, ⟨es, clock, he.trans hb, r⟩, h2⟩
theorem MapIs.only {w' : World} {S : List Nat} (h : MapIs w P k b n f) (ho : Only S w w') (hn : b ∉ S) : MapIs w' P k b n f := h.stay (ho.block b h.lt hn)
theorem MapIs.mono (h : MapIs w P k b n f) {n' : Nat} (hn : n ≤ n') : MapIs w P k b n' f := by
  obtain ⟨D, h, h2⟩ := h
  exact ⟨D, h.mono hn, h2⟩
theorem MapIs.congr (h : MapIs w P k b n f) {g : Value → Option Value} (hg : ∀ key kl, keyOf P k key = some kl → f key = g key) : MapIs w P k b n g := by
  obtain ⟨D, h, h2⟩ := h
  exact ⟨D, h, fun key kl hk => (h2 key kl hk).trans (hg key kl hk)⟩

/-- m[k], with ok and without. -/
theorem MapIs.look (h : MapIs w P k b n f) (K : Keyed P k) (ht : P.underlying t = some (.map k e)) {z : Value} (hz : (zeroValue e).run P w = .ok z w) (c : Bool) {key : Value} {kl : Lit} (hkey : keyOf P k key = some kl) :
    (Instr.lookup t (.map (some b)) key c).run P w = .ok (if c then .tuple #[(f key).getD z, .bool (f key).isSome] else (f key).getD z) w := by
  obtain ⟨D, ⟨es, clock, hb, F, _, rfl⟩, h2⟩ := h
  rcases Maps.fit_look c K ht hz hb F hkey with ⟨hrun, _, hat⟩ | ⟨e0, y, _, _, hrun, hRv, hat, _⟩
  · have : f key = none := by rw [← h2 key kl hkey]; unfold lookD; rw [hat]
    rw [this]
    exact hrun
  · have : f key = some e0.val := by
      rw [← h2 key kl hkey]; unfold lookD; rw [hat]
      unfold rawR at hRv
      cases hRv
      rfl
    rw [this]
    exact hrun

/-- A nil map. -/
theorem look_none (K : Keyed P k) (ht : P.underlying t = some (.map k e)) {z : Value} (hz : (zeroValue e).run P w = .ok z w) (c : Bool) {key : Value} {kl : Lit} (hkey : keyOf P k key = some kl) :
    (Instr.lookup t (.map none) key c).run P w = .ok (if c then .tuple #[z, .bool false] else z) w := Maps.look_nil c K ht hz hkey

/-- m[k] = v. -/
theorem MapIs.put (h : MapIs w P k b n f) (K : Keyed P k) (ht : P.underlying t = some (.map k e)) (hn : n < maxLen) {key val : Value} {kl : Lit} (hkey : keyOf P k key = some kl) :
    ∃ w', (Instr.mapUpdate t (.map (some b)) key val).run P w = .ok () w' ∧ MapIs w' P k b (n + 1) (updV f key (some val)) ∧ w.grownBy w' (some b) := by
  obtain ⟨D, h, h2⟩ := h
  obtain ⟨w', hrun, h3, h4⟩ := h.update (d := .held val) (ps := []) K ht hn hkey rfl
  refine ⟨w', hrun, ⟨_, h3, fun x xl hx => ?_⟩, h4⟩
  by_cases hxk : x = key
  · subst hxk
    rw [hkey] at hx
    cases hx
    unfold lookD
    rw [Maps.atKey_put_same h.isMap (K.key hkey), updV_same]
  · have hne : xl ≠ kl := fun e1 => hxk (K.inj hx (e1 ▸ hkey))
    rw [updV_other _ _ _ hxk, ← h2 x xl hx]
    unfold lookD
    rw [Maps.atKey_put_other hne]

/-- delete(m, k). -/
theorem MapIs.del (h : MapIs w P k b n f) (K : Keyed P k) (ht : P.underlying t = some (.map k e)) {key : Value} {kl : Lit} (hkey : keyOf P k key = some kl) (ty : TypeId) :
    ∃ w', (Builtin.delete_ #[t, k] ty #[.map (some b), key]).run P w = .ok (.tuple #[]) w' ∧ MapIs w' P k b n (updV f key none) ∧ w.grownBy w' (some b) := by
  obtain ⟨D, h, h2⟩ := h
  obtain ⟨w', hrun, h3, h4⟩ := h.drop K ht hkey ty
  refine ⟨w', hrun, ⟨_, h3, fun x xl hx => ?_⟩, h4.grown⟩
  by_cases hxk : x = key
  · subst hxk
    rw [hkey] at hx
    cases hx
    unfold lookD
    rw [Maps.atKey_del_same, updV_same]
  · have hne : xl ≠ kl := fun e1 => hxk (K.inj hx (e1 ▸ hkey))
    rw [updV_other _ _ _ hxk, ← h2 x xl hx]
    unfold lookD
    rw [Maps.atKey_del_other hne]

/-! ### at the operation -/

theorem wp_lookup_is {o : Oper} {a : Act} {Q : Exit → Act → World → Prop} {N : Act → World → Prop} (m x : Operand) (c : Bool) (hop : o.op = Op.lookup t m x c)
    (K : Keyed P k) (ht : P.underlying t = some (.map k e)) {z : Value} (hz : (zeroValue e).run P w = .ok z w) (hm : a.eval m = .map (some b)) (h : MapIs w P k b n f)
    {key : Value} {kl : Lit} (hx : a.eval x = key) (hkey : keyOf P k key = some kl)
    (hK : N (a.put o.dst (if c then .tuple #[(f key).getD z, .bool (f key).isSome] else (f key).getD z)) w) : o.wp P a w N Q := by
  have hr := h.look K ht hz c hkey
  unfold Oper.wp execOp
  simp only [hop, hm, hx, Sem.run_bind]
  rw [hr]
  exact hK

theorem wp_lookup_nil {o : Oper} {a : Act} {Q : Exit → Act → World → Prop} {N : Act → World → Prop} (m x : Operand) (c : Bool) (hop : o.op = Op.lookup t m x c)
    (K : Keyed P k) (ht : P.underlying t = some (.map k e)) {z : Value} (hz : (zeroValue e).run P w = .ok z w) (hm : a.eval m = .map none)
    {key : Value} {kl : Lit} (hx : a.eval x = key) (hkey : keyOf P k key = some kl)
    (hK : N (a.put o.dst (if c then .tuple #[z, .bool false] else z)) w) : o.wp P a w N Q := by
  have hr := look_none (w := w) K ht hz c hkey
  unfold Oper.wp execOp
  simp only [hop, hm, hx, Sem.run_bind]
  rw [hr]
  exact hK

theorem wp_mapUpdate_is {o : Oper} {a : Act} {Q : Exit → Act → World → Prop} {N : Act → World → Prop} (m x v : Operand) (hop : o.op = Op.mapUpdate t m x v)
    (K : Keyed P k) (ht : P.underlying t = some (.map k e)) (hm : a.eval m = .map (some b)) (h : MapIs w P k b n f) (hn : n < maxLen)
    {key val : Value} {kl : Lit} (hx : a.eval x = key) (hv : a.eval v = val) (hkey : keyOf P k key = some kl)
    (hK : ∀ w', MapIs w' P k b (n + 1) (updV f key (some val)) → w.grownBy w' (some b) → N (a.put o.dst undef) w') : o.wp P a w N Q := by
  obtain ⟨w', hr, h1, h2⟩ := h.put (val := val) K ht hn hkey
  unfold Oper.wp execOp
  simp only [hop, hm, hx, hv, Sem.run_bind]
  rw [hr]
  exact hK w' h1 h2

theorem wp_delete_is {o : Oper} {a : Act} {Q : Exit → Act → World → Prop} {N : Act → World → Prop} (m x : Operand) (hop : o.op = .call { callee := .builtin .delete, args := #[m, x], argTypes := #[t, k] })
    (K : Keyed P k) (ht : P.underlying t = some (.map k e)) (hm : a.eval m = .map (some b)) (h : MapIs w P k b n f)
    {key : Value} {kl : Lit} (hx : a.eval x = key) (hkey : keyOf P k key = some kl)
    (hK : ∀ w', MapIs w' P k b n (updV f key none) → w.grownBy w' (some b) → N (a.put o.dst (.tuple #[])) w') : o.wp P a w N Q := by
  obtain ⟨w', hr, h1, h2⟩ := h.del K ht hkey o.type
  unfold Oper.wp execOp
  simp only [hop, resolve, invoke, builtin, Sem.run_bind, Sem.run_pure, Result.andThen_ok, List.map_toArray, List.map_cons, List.map_nil, hm, hx]
  rw [hr]
  exact hK w' h1 h2

end
/-! ### keys of structs and arrays of whole numbers -/


theorem key_struct1 {P : Program} {t e : TypeId} {f : Field} (h0 : 0 < P.types.size) (ht : P.underlying t = some (.struct #[f])) (hk : P.keyType t = true) (hc : P.cellsOf t = 1) (hn : (f.name != "_") = true) (ho : f.offset = 0) (hf : f.type = e)
    (he : P.underlying e = some (.int .i64)) (hce : P.cellsOf e = 1) (x : Int) (h : (Lit.int .i64 x).wf = true) : ∃ kl, keyOf P t (.agg #[.int .i64 x]) = some kl := by
  obtain ⟨n, hs⟩ : ∃ n, P.types.size = n + 1 := ⟨P.types.size - 1, by omega⟩
  subst hf
  have hfm : (Value.agg #[.int .i64 x]).formed P t = true := by simp [Value.formed, ht, hc]
  simp [keyOf, ht, hk, hfm, hs, Program.keyLits, Value.cells, he, hc, hce, h, ho, hn]

theorem key_struct2 {P : Program} {t e : TypeId} {f g : Field} (h0 : 0 < P.types.size) (ht : P.underlying t = some (.struct #[f, g])) (hk : P.keyType t = true) (hc : P.cellsOf t = 2) (hn : (f.name != "_") = true) (hn' : (g.name != "_") = true)
    (ho : f.offset = 0) (ho' : g.offset = 1) (hf : f.type = e) (hg : g.type = e)
    (he : P.underlying e = some (.int .i64)) (hce : P.cellsOf e = 1) (x y : Int) (h : (Lit.int .i64 x).wf = true) (h' : (Lit.int .i64 y).wf = true) : ∃ kl, keyOf P t (.agg #[.int .i64 x, .int .i64 y]) = some kl := by
  obtain ⟨n, hs⟩ : ∃ n, P.types.size = n + 1 := ⟨P.types.size - 1, by omega⟩
  rcases f with ⟨fn, ft, fo⟩
  rcases g with ⟨gn, gt, go⟩
  simp only at hn hn' ho ho' hf hg
  subst hf hg ho ho'
  have hfm : (Value.agg #[.int .i64 x, .int .i64 y]).formed P t = true := by simp [Value.formed, ht, hc]
  simp [keyOf, ht, hk, hfm, hs, Program.keyLits, Value.cells, he, hc, hce, h, h', hn, hn']

theorem key_array1 {P : Program} {t e : TypeId} (h0 : 0 < P.types.size) (ht : P.underlying t = some (.array 1 e)) (hk : P.keyType t = true) (hc : P.cellsOf t = 1)
    (he : P.underlying e = some (.int .i64)) (hce : P.cellsOf e = 1) (x : Int) (h : (Lit.int .i64 x).wf = true) : ∃ kl, keyOf P t (.agg #[.int .i64 x]) = some kl := by
  obtain ⟨n, hs⟩ : ∃ n, P.types.size = n + 1 := ⟨P.types.size - 1, by omega⟩
  have hfm : (Value.agg #[.int .i64 x]).formed P t = true := by simp [Value.formed, ht, hc]
  have hr : List.range 1 = [0] := rfl
  simp [keyOf, ht, hk, hfm, hs, Program.keyLits, Value.cells, he, hc, hce, h, hr]

end Go.Proofs.Ytionjddcahgpkaa
