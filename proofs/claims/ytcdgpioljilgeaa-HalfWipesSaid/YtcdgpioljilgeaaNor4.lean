/- Erasing a sector of a chip. -/
import Derived.Test.YtcdgpioljilgeaaNor3
import Derived.WideKeyEntry
set_option linter.unusedVariables false
set_option maxRecDepth 100000
set_option linter.unusedSimpArgs false
namespace Go.Proofs.Ytcdgpioljilgeaa
open Go.RowKit
open Go.Maps (Keyed)

theorem setBlock_grown {w : World} {b : Nat} {es : Array MapEntry} {clock : Nat} (o' : Obj) (hb : w.heap[b]? = some (.map es clock)) : w.grownBy (ChangeMaps.setBlock w b o') (some b) :=
  ⟨rfl, rfl, rfl, by simp [ChangeMaps.setBlock], fun i _ hi => ChangeMaps.heap_setBlock_other hb _ (fun e => hi (by rw [e]))⟩

/-- m[k]++ and its like: the entry, then the store into it. -/
theorem MapIs.bump {P : Program} {k e t : TypeId} {w : World} {b n : Nat} {f : Value → Option Value} (h : MapIs w P k b n f) (K : WideMaps.KeyLaw P k) (ht : P.underlying t = some (.map k e)) {z : Value} (hz : ∀ u : World, (zeroValue e).run P u = .ok z u)
    (hn : n < maxLen) {key : Value} (val : Value) {kl : Lit} (hkey : keyOf P k key = some kl) :
    ∃ (v0 : Value) (st : Nat) (w1 : World), (Instr.mapEntry t (.map (some b)) key).run P w = .ok (.tuple #[v0, goInt st]) w1 ∧ w.grownBy w1 (some b) ∧
      ∀ w2 : World, w2.heap[b]? = w1.heap[b]? → ∃ w3, (Instr.entryStore t (.map (some b)) (goInt st) val).run P w2 = .ok () w3 ∧ w2.grownBy w3 (some b) ∧ MapIs w3 P k b (n + 1) (updV f key (some val)) := by
  obtain ⟨w', hput, hmap, _⟩ := h.put (val := val) (Keyed.of_law K) ht hn hkey
  obtain ⟨D, ⟨es, clock, hb, F, _, rfl⟩, h2⟩ := h
  obtain ⟨v0, st, es1, clock1, hE, _, hS⟩ := WideElems.entry_then_store K ht hz hb F hkey
  refine ⟨v0, st, _, hE, setBlock_grown _ hb, fun w2 hw2 => ?_⟩
  have hw1 := ChangeMaps.heap_setBlock_same hb (.map es1 clock1)
  rw [hw1] at hw2
  obtain ⟨es', clock', hrun, hupd⟩ := hS w2 val hw2
  have e : w' = ChangeMaps.setBlock w b (.map es' clock') := by
    rw [hput] at hupd
    injection hupd
  subst e
  exact ⟨_, hrun, setBlock_grown _ hw2, hmap.stay ((ChangeMaps.heap_setBlock_same hw2 _).trans (ChangeMaps.heap_setBlock_same hb _).symm)⟩

open WideElems ChangeMaps in
/-- The entry itself: the map then holds at the key what a read of it gives. -/
theorem MapIs.entry {P : Program} {k e t : TypeId} {w : World} {b n : Nat} {f : Value → Option Value} (h : MapIs w P k b n f) (K : WideMaps.KeyLaw P k) (ht : P.underlying t = some (.map k e)) {z : Value} (hz : ∀ u : World, (zeroValue e).run P u = .ok z u)
    (hn : n < maxLen) {key : Value} {kl : Lit} (hkey : keyOf P k key = some kl) :
    ∃ (v0 : Value) (st : Nat) (w1 : World), (Instr.mapEntry t (.map (some b)) key).run P w = .ok (.tuple #[v0, goInt st]) w1 ∧ v0 = (f key).getD z ∧ MapIs w1 P k b (n + 1) (updV f key (some v0)) := by
  have hlook := h.look (Keyed.of_law K) ht (hz w) false hkey
  simp only [Bool.false_eq_true, if_false] at hlook
  have hputz := fun v => h.put (val := v) (Keyed.of_law K) ht hn hkey
  obtain ⟨D, ⟨es, clock, hb, F, _, rfl⟩, h2⟩ := h
  rcases K.find w hkey es.toList F.keys with ⟨h1, h2'⟩ | ⟨j, e0, h1, h2', h3⟩
  · obtain ⟨w', hput, hmap, _⟩ := hputz z
    have hl2 : (Instr.lookup t (.map (some b)) key false).run P w = .ok z w := by
      simp [Instr.lookup, run_underlying ht, MapKept.run_getObj_map hb, K.check w es.isEmpty hkey, h1, hz, Result.andThen]
    have hp2 : (Instr.mapUpdate t (.map (some b)) key z).run P w = .ok () (setBlock w b (.map (es.push ⟨key, z, clock⟩) (clock + 1))) := by
      simp [Instr.mapUpdate, run_underlying ht, MapKept.run_getObj_map hb, K.check w false hkey, h1, MapKept.run_setObj_map _ hb, Result.andThen, setBlock]
    have he : (Instr.mapEntry t (.map (some b)) key).run P w = .ok (.tuple #[z, goInt clock]) (setBlock w b (.map (es.push ⟨key, z, clock⟩) (clock + 1))) := by
      simp [Instr.mapEntry, run_underlying ht, MapKept.run_getObj_map hb, K.check w false hkey, h1, hz, MapKept.run_setObj_map _ hb, Result.andThen, setBlock]
    rw [hput] at hp2
    injection hp2 with _ e2
    subst e2
    refine ⟨z, clock, _, he, ?_, hmap⟩
    rw [hl2] at hlook
    injection hlook
  · obtain ⟨w', hput, hmap, _⟩ := hputz e0.val
    have hj : es[j]? = some e0 := by simpa using h2'
    have hl2 : (Instr.lookup t (.map (some b)) key false).run P w = .ok e0.val w := by
      simp [Instr.lookup, run_underlying ht, MapKept.run_getObj_map hb, K.check w es.isEmpty hkey, h1, hz, Result.andThen]
    have hsame : es.modify j (fun e => { e with key := key }) = es := by
      apply Array.ext'
      rw [Array.toList_modify, modify_eq_set _ _ _ _ h2']
      have : ({ e0 with key := key } : MapEntry) = e0 := by rw [← h3]
      rw [this]
      exact set_self _ _ _ h2'
    have hsame2 : es.modify j (fun e => { e with key := key, val := e0.val }) = es := by
      apply Array.ext'
      rw [Array.toList_modify, modify_eq_set _ _ _ _ h2']
      have : ({ e0 with key := key, val := e0.val } : MapEntry) = e0 := by rw [← h3]
      rw [this]
      exact set_self _ _ _ h2'
    have hp2 : (Instr.mapUpdate t (.map (some b)) key e0.val).run P w = .ok () (setBlock w b (.map es clock)) := by
      simp [Instr.mapUpdate, run_underlying ht, MapKept.run_getObj_map hb, K.check w false hkey, h1, hj, h3, K.stays w hkey, hsame2, MapKept.run_setObj_map _ hb, Result.andThen, setBlock]
    have he : (Instr.mapEntry t (.map (some b)) key).run P w = .ok (.tuple #[e0.val, goInt e0.born]) (setBlock w b (.map es clock)) := by
      simp [Instr.mapEntry, run_underlying ht, MapKept.run_getObj_map hb, K.check w false hkey, h1, hj, h3, K.stays w hkey, hsame, MapKept.run_setObj_map _ hb, Result.andThen, setBlock]
    rw [hput] at hp2
    injection hp2 with _ e2
    subst e2
    refine ⟨e0.val, e0.born, _, he, ?_, hmap⟩
    rw [hl2] at hlook
    injection hlook

theorem MapIs.bump2 {P : Program} {k e t : TypeId} {w : World} {b n : Nat} {f : Value → Option Value} (h : MapIs w P k b n f) (K : WideMaps.KeyLaw P k) (ht : P.underlying t = some (.map k e)) {z : Value} (hz : ∀ u : World, (zeroValue e).run P u = .ok z u)
    (hn : n < maxLen) {key : Value} (val : Value) {kl : Lit} (hkey : keyOf P k key = some kl) :
    ∃ (st : Nat) (w1 w3 : World), (Instr.mapEntry t (.map (some b)) key).run P w = .ok (.tuple #[(f key).getD z, .int .i64 st]) w1 ∧ w.grownBy w1 (some b) ∧ (Instr.lookup t (.map (some b)) key false).run P w1 = .ok ((f key).getD z) w1 ∧
      (Instr.entryStore t (.map (some b)) (.int .i64 st) val).run P w1 = .ok () w3 ∧ w1.grownBy w3 (some b) ∧ MapIs w3 P k b (n + 1) (updV f key (some val)) := by
  obtain ⟨v0, st, w1, h1, hv, hm⟩ := h.entry K ht hz hn hkey
  obtain ⟨v0', st', w1', h1', hg, hst⟩ := h.bump K ht hz hn val hkey
  rw [h1] at h1'
  injection h1' with e1 e2
  injection e1 with e3
  simp [goInt] at e3
  obtain ⟨e4, e5⟩ := e3
  subst e2 e4
  obtain ⟨w3, h3, hg3, hm3⟩ := hst w1 rfl
  have hl := hm.look (Keyed.of_law K) ht (hz w1) false hkey
  simp only [Bool.false_eq_true, if_false, updV_same, Option.getD_some] at hl
  subst hv
  refine ⟨st, w1, w3, h1, hg, hl, ?_, hg3, hm3⟩
  have : st = st' := by exact_mod_cast e5
  rw [this]
  exact h3

theorem arr1Law : WideMaps.KeyLaw Try.prog 102 := deep_law_gate (by kernel_rfl) (of_decide_eq_true (by kernel_rfl)) (of_decide_eq_true (by kernel_rfl)) (by kernel_rfl) (by kernel_rfl)

/-- At one sector one more. -/
def upC (cnt : Int → Int) (x : Int) : Int → Int := fun y => if y = x then cnt x + 1 else cnt y

/-- What a call to erase answers, and what it makes of bytes, power, and how often. -/
def eraseE (g : Geo) (s : PS) (l : List UInt8) (cnt : Int → Int) (x : Int) : Int × List UInt8 × PS × (Int → Int) :=
  if secOk g x then
    (if s.did = true then (0, orL l (x.toNat * g.b.toNat) g.b.toNat 255, s.next, upC cnt x)
     else if s.torn = true then (6, orL l (x.toNat * g.b.toNat) g.b.toNat s.mask, s.next, cnt)
     else (6, l, s.next, cnt))
  else (1, l, s, cnt)

section
variable {w : World} {cb bb mb pb : Nat} {g : Geo} {l : List UInt8} {N : Nat} {cnt : Int → Int} {FP : List Nat} {s : PS}

theorem secLe (h : Chip w cb bb mb (some ⟨pb, 0, none⟩) g l N cnt) {i : Nat} (hi : secOk g (i : Int)) : i * g.b.toNat + g.b.toNat ≤ l.length := by
  have hok := h.ok
  have hl := h.len
  unfold secOk at hi
  unfold Geo.ok at hok
  rcases g with ⟨a, b, c, d, e⟩
  simp only at *
  obtain ⟨sz, rfl⟩ : ∃ sz : Nat, b = (sz : Int) := ⟨b.toNat, by omega⟩
  obtain ⟨sa, rfl⟩ : ∃ sa : Nat, a = (sa : Int) := ⟨a.toNat, by omega⟩
  have hLs : l.length = sa * sz := by
    have : ((sa * sz : Nat) : Int) = (sa : Int) * (sz : Int) := by push_cast; rfl
    omega
  simp only [Int.toNat_natCast]
  rw [hLs, ← Nat.succ_mul]
  exact Nat.mul_le_mul_right _ (by omega)

theorem eraseE_length (h : Chip w cb bb mb (some ⟨pb, 0, none⟩) g l N cnt) (x : Int) : (eraseE g s l cnt x).2.1.length = l.length := by
  unfold eraseE
  by_cases hx : secOk g x
  · rw [if_pos hx]
    obtain ⟨i, rfl⟩ : ∃ i : Nat, x = (i : Int) := ⟨x.toNat, by unfold secOk at hx; omega⟩
    have hle := secLe h hx
    rw [Int.toNat_natCast]
    split
    · exact orL_length _ _ _ _ hle
    · split
      · exact orL_length _ _ _ _ hle
      · rfl
  · rw [if_neg hx]

set_option maxHeartbeats 4000000 in
theorem nor_erase (h : Chip w cb bb mb (some ⟨pb, 0, none⟩) g l N cnt) (hN : N ≤ 1000000000) (hp : Pow w pb FP s) (hd : ∀ x ∈ FP, x ∉ [cb, bb, mb]) (x : Int) (hx : -9223372036854775808 ≤ x ∧ x ≤ 9223372036854775807) (hdone : s.done ≤ 1000000000000) :
    Calls Try.prog 21 #[.pointer (some ⟨cb, 0, none⟩), .int .i64 x] w fun e w' => e = .returned (.int .i64 (eraseE g s l cnt x).1) ∧ Chip w' cb bb mb (some ⟨pb, 0, none⟩) g (eraseE g s l cnt x).2.1 (N + 1) (eraseE g s l cnt x).2.2.2 ∧ Pow w' pb FP (eraseE g s l cnt x).2.2.1 ∧ Only [bb, mb, pb] w w' := by
  obtain ⟨w0, rfl⟩ : ∃ w0 : World, w0 = w := ⟨_, rfl⟩
  have hmore : ∀ {W : World} {L : List UInt8} {C : Int → Int}, Chip W cb bb mb (some ⟨pb, 0, none⟩) g L N C → Chip W cb bb mb (some ⟨pb, 0, none⟩) g L (N + 1) C := by
    rintro W L C ⟨h1, h2, ⟨f, h3, h4⟩, h5, h6, h7, h8, h9, h10⟩
    exact ⟨h1, h2, ⟨f, h3.mono (Nat.le_succ N), h4⟩, fun y => ⟨(h5 y).1, by have := (h5 y).2; omega⟩, h6, h7, h8, h9, h10⟩
  by_cases hs : secOk g x
  · obtain ⟨i, rfl⟩ : ∃ i : Nat, x = (i : Int) := ⟨x.toNat, by unfold secOk at hs; omega⟩
    have hle := secLe h hs
    have H1 := Lib.hid (nor_sector h i hs)
    have HE := Lib.hid (show eraseE g s l cnt (i : Int) = (if s.did = true then (0, orL l (i * g.b.toNat) g.b.toNat 255, s.next, upC cnt (i : Int)) else if s.torn = true then (6, orL l (i * g.b.toNat) g.b.toNat s.mask, s.next, cnt) else (6, l, s.next, cnt)) by unfold eraseE; rw [if_pos hs, Int.toNat_natCast])
    have hok := h.ok
    unfold Geo.ok at hok
    obtain ⟨sz, hsz⟩ : ∃ sz, g.b.toNat = sz := ⟨_, rfl⟩
    rw [hsz] at H1 HE hle
    have hsz1 : 256 ≤ sz := by omega
    have hsz2 : sz ≤ 4096 := by omega
    clear hok hsz
    obtain ⟨lo, hlo⟩ : ∃ lo, i * sz = lo := ⟨_, rfl⟩
    rw [hlo] at H1 HE hle
    clear hlo
    have hpF := hp.head
    have hpn := hd _ hpF
    simp only [List.mem_cons, List.not_mem_nil, or_false, not_or] at hpn
    have hnf : ∀ y ∈ [cb, bb, mb], y ∉ [pb] := by simp; omega
    go_enter Try.func21, Try.ntmps21
    go_upto_region 2 with (go_at_call 66; refine H1.out.mono ?_; rintro e w1 ⟨c, rfl, hc, -, m, rfl⟩)
    have hC := h.drewN m
    have hp1 := hp.below (w' := w0.drewN m) (below_drewN (Below.refl _ _) m)
    have ho1 : Only [bb, mb, pb] w0 (w0.drewN m) := (Only.refl _ _).drewN m
    clear h hp H1
    generalize w0.drewN m = w1 at *
    have c5 := hC.blk.cell 5 _ rfl
    have hnil := Lib.run_eql_slice_nil (P := Try.prog) w1 24 5 (some ⟨bb, lo, none⟩) sz c 0 0 Try.underlying24
    go_upto_region 6 with fail
    clear hnil
    cases hdid : s.did with
    | true =>
      have htorn := PS.did_torn hdid
      have HE2 := Lib.hid (HE.out.trans (if_pos hdid))
      have HD := Lib.hid (And.intro hdid htorn)
      clear hdid htorn HE
      go_upto_region 7 with (go_at_call 63; refine (pow_step _ _ _ _ hp1 (by omega)).mono ?_; rintro e w2 ⟨rfl, hp2, ho2⟩; rw [HD.out.1, HD.out.2])
      have hC2 := hC.only ho2 hnf
      have hz2 := hC2.size
      clear hC hp1 c5
      go_upto_region 9 with (go_at_call 67; refine (nor_set _ _ _ _ _ _ _ 255 hC2.mem hle (by omega)).mono ?_; rintro e w3 ⟨rfl, hm3, ho3⟩)
      have hC3 := hC2.turn ho3 (by simpa using hC2.d1) (by simpa using (Ne.symm hC2.d3)) hm3 (orL_length _ _ _ _ hle)
      have hp3 := hp2.only ho3 (fun y hy => by simp; rintro rfl; exact hd _ hy (by simp))
      have hoA : Only [bb, mb, pb] w0 w3 := (ho1.trans (ho2.mono (by simp))).trans (ho3.mono (by simp))
      clear hC2 hm3 hp2 ho2 ho3 ho1
      obtain ⟨f, hmap, hf⟩ := hC3.map
      obtain ⟨kl, hkey⟩ := arr1_key (i : Int) (wfOf hx)
      have hmapd : MapIs w3.drew Try.prog 102 mb N f := hmap.stay rfl
      have hlook := hmapd.look arr1Keyed Try.underlying90 (zeroInt w3.drew) false hkey
      rw [hf _ (wfOf hx)] at hlook
      simp only [Bool.false_eq_true, if_false] at hlook
      obtain ⟨st, w4, w5, hent, hg4, hlook4, hsto, hg5, hmap5⟩ := hmapd.bump2 arr1Law Try.underlying90 zeroInt (by unfold maxLen; omega) (.int .i64 (cnt (i : Int) + 1)) hkey
      rw [hf _ (wfOf hx)] at hent hlook4
      have c7 := hC3.blk.cell 7 _ rfl
      have hcb := (hC3.cntb (i : Int))
      have hwc : IntKind.i64.wrap (cnt (i : Int) + 1) = cnt (i : Int) + 1 := IntWalk.i64_in _ (by omega)
      have c7d : w3.drew.cell? ⟨cb, 7, none⟩ = some (.map (some mb)) := c7
      have hcl : cb < w3.heap.size := hC3.lt cb (by simp)
      have hne : some cb ≠ some mb := by intro e; cases e; exact hC3.d2 rfl
      have c74 := (hg4.cell_far ⟨cb, 7, none⟩ hcl hne).trans c7d
      have c75 := (hg5.cell_far ⟨cb, 7, none⟩ (Nat.lt_of_lt_of_le hcl hg4.size) hne).trans c74
      go_region_held3 (fun w' => w'.cell? ⟨cb, 7, none⟩ = some (.map (some mb))) (first | (with_reducible exact c7) | (with_reducible exact c7d) | (with_reducible exact c74) | (with_reducible exact c75))
        (first | go_at_call 0)
      all_goals
        have ho5 : Only [mb] w3 w5 := (((Only.refl [mb] w3).drew).trans (Only.of_grown hg4)).trans (Only.of_grown hg5)
        have hC5 : Chip w5 cb bb mb (some ⟨pb, 0, none⟩) g (orL l lo sz 255) (N + 1) (upC cnt (i : Int)) := by
          obtain ⟨h1, h2, h3, h5, h6, h7, h8, h9, h10⟩ := hC3
          refine ⟨h1.only ho5 (by simpa using h9), h2.only ho5 (by simpa using h10), ⟨_, hmap5, fun y hy => ?_⟩, fun y => ?_, h6, h7, h8, h9, h10⟩
          · unfold upC
            by_cases e : y = (i : Int)
            · subst e
              rw [if_pos rfl, updV_same]
              rfl
            · rw [if_neg e, updV_other _ _ _ (by intro h; apply e; simpa using h)]
              exact hf y hy
          · have := h5 y
            unfold upC
            split <;> omega
        have hp5 := hp3.only ho5 (fun y hy => by simp; rintro rfl; exact hd _ hy (by simp))
        have ho6 := hoA.trans (ho5.mono (by simp))
        clear hC3 hmap hmapd hmap5 hlook hlook4 hent hsto c7 c7d c74 c75 hf hp3 hg4 hg5
        go_wp2_with fail
        go_ret
        rw [HE2.out]
        exact ⟨rfl, hC5, hp5, ho6⟩
    | false =>
      have HE1 := Lib.hid (HE.out.trans (if_neg (by rw [hdid]; decide)))
      cases htorn : s.torn with
      | true =>
        have HE2 := Lib.hid (HE1.out.trans (if_pos htorn))
        have HD := Lib.hid (And.intro hdid htorn)
        clear hdid htorn HE HE1
        go_upto_region 7 with (go_at_call 63; refine (pow_step _ _ _ _ hp1 (by omega)).mono ?_; rintro e w2 ⟨rfl, hp2, ho2⟩; rw [HD.out.1, HD.out.2])
        have hC2 := hC.only ho2 hnf
        have hz2 := hC2.size
        have d5 := hC2.blk.cell 5 _ rfl
        have hmk : s.next.mask = s.mask := s.next_mask
        have HM := Lib.hid (hmk ▸ pow_mask pb FP s.next w2 hp2 : Calls Try.prog 64 #[.pointer (some ⟨pb, 0, none⟩)] w2 fun e w' => e = .returned (.int .u8 (s.mask.toNat : Int)) ∧ w2 = w')
        clear hC hp1 c5 hmk
        go_wp2_with (first
          | (go_at_call 64; refine HM.out.mono ?_; rintro e w' ⟨rfl, rfl⟩)
          | (go_at_call 67; refine (nor_set _ _ _ _ _ _ _ s.mask hC2.mem hle (by omega)).mono ?_; rintro e w3 ⟨rfl, hm3, ho3⟩))
        go_ret
        rw [HE2.out]
        exact ⟨rfl, hmore (hC2.turn ho3 (by simpa using hC2.d1) (by simpa using (Ne.symm hC2.d3)) hm3 (orL_length _ _ _ _ hle)), hp2.only ho3 (fun y hy => by simp; rintro rfl; exact hd _ hy (by simp)), (ho1.trans (ho2.mono (by simp))).trans (ho3.mono (by simp))⟩
      | false =>
        have HE2 := Lib.hid (HE1.out.trans (if_neg (by rw [htorn]; decide)))
        have HD := Lib.hid (And.intro hdid htorn)
        clear hdid htorn HE HE1
        go_wp2_with (go_at_call 63; refine (pow_step _ _ _ _ hp1 (by omega)).mono ?_; rintro e w2 ⟨rfl, hp2, ho2⟩; rw [HD.out.1, HD.out.2])
        go_ret
        rw [HE2.out]
        exact ⟨rfl, hmore (hC.only ho2 hnf), hp2, ho1.trans (ho2.mono (by simp))⟩
  · have HE := Lib.hid (show eraseE g s l cnt x = (1, l, s, cnt) by unfold eraseE; rw [if_neg hs])
    have H1 := Lib.hid (nor_sector_bad h x hs)
    have hnil := Lib.run_eql_slice_nil (P := Try.prog) w0 24 5 none 0 0 0 0 Try.underlying24
    go_enter Try.func21, Try.ntmps21
    go_wp2_with (go_at_call 66; refine H1.out.mono ?_; rintro e w1 ⟨rfl, rfl⟩)
    go_ret
    rw [HE.out]
    exact ⟨rfl, hmore h, hp, Only.refl _ _⟩
end
end Go.Proofs.Ytcdgpioljilgeaa
