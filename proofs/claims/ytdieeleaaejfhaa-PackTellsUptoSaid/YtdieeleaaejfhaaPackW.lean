/- The program's deeds as bytes. -/
import Derived.Test.YtdieeleaaejfhaaPackK
import Derived.RegionTactic
import Derived.Deep.RegionHeld3
set_option linter.unusedVariables false
set_option maxRecDepth 100000
set_option linter.unusedSimpArgs false
namespace Go.Proofs.Ytdieeleaaejfhaa
open Go.RowKit

/-- A call hands back a row of its own of these bytes. -/
def Gives (w : World) (L : List UInt8) (m : Nat) : Ending → World → Prop := fun e w' => ∃ A c, e = .returned (.slice A m c) ∧ (m ≤ c ∧ c ≤ maxLen) ∧ Own w' w.heap.size (.slice A m c) L ∧ Below w.heap.size w w'

theorem gives_of {w : World} {L : List UInt8} {m : Nat} (hm : L.length = m) {e : Ending} {w' : World} (h : Ret (fun r w' => Own w' w.heap.size r L ∧ Below w.heap.size w w') e w') : Gives w L m e w' := by
  obtain ⟨r, rfl, hown, hb⟩ := h
  obtain ⟨A, c, rfl, hc, hr, hA⟩ := hown.byts
  subst hm
  exact ⟨A, c, rfl, hc, hown, hb⟩

theorem pk_put (A : Option Addr) (n c : Nat) (l : List UInt8) (v : Nat) (k : Int) (w : World) (hb : Byts w A l) (hn : l.length = n) (hl : n ≤ 140737488355000) (hv : v < 18446744073709551616) (hk1 : -9223372036854775808 ≤ k) (hk2 : k ≤ 9223372036854775807)
    {L : List UInt8} {m : Nat} (hL : l ++ low v (putN k) = L) (hm : L.length = m) :
    Calls Try.prog 53 #[.slice A n c, .int .u64 (v : Int), .int .i64 k] w (Gives w L m) := by
  subst hn hL
  exact (codec_put A _ c l v k w hb rfl hl hv hk1 hk2).mono fun e w' h => gives_of hm h
theorem pk_putInt (A : Option Addr) (n c : Nat) (l : List UInt8) (v : Int) (w : World) (hb : Byts w A l) (hn : l.length = n) (hl : n ≤ 140737488355000)
    {L : List UInt8} {m : Nat} (hL : l ++ putI v = L) (hm : L.length = m) :
    Calls Try.prog 63 #[.slice A n c, .int .i64 v] w (Gives w L m) := by
  subst hn hL
  exact (codec_putInt A _ c l v w hb rfl hl).mono fun e w' h => gives_of hm h
theorem pk_putText (A : Option Addr) (n c : Nat) (l : List UInt8) (s : ByteArray) (w : World) (hb : Byts w A l) (hn : l.length = n) (hl : n + s.size ≤ 140737488350000)
    {L : List UInt8} {m : Nat} (hL : l ++ putT s = L) (hm : L.length = m) :
    Calls Try.prog 76 #[.slice A n c, .string s] w (Gives w L m) := by
  subst hn hL
  unfold putT at hm ⊢
  rw [← List.append_assoc] at hm ⊢
  exact (codec_putText A _ c l s w hb rfl hl).mono fun e w' h => gives_of hm h

set_option maxHeartbeats 2000000 in
theorem pk_ints (A : Option Addr) (n c : Nat) (l : List UInt8) (A' : Option Addr) (k c' : Nat) (vs : List Int) (w : World) (hb : Byts w A l) (hn : l.length = n) (hc : n ≤ c ∧ c ≤ maxLen) (hv : Ints w A' vs) (hk : vs.length = k) (hk0 : 0 < k) (hk100 : k ≤ 100) (hl : n ≤ 140737488350000)
    {L : List UInt8} {m : Nat} (hL : l ++ putInts vs = L) (hm : L.length = m) :
    Calls Try.prog 77 #[.slice A n c, .slice A' k c'] w (Gives w L m) := by
  obtain ⟨w0, rfl⟩ : ∃ w0 : World, w0 = w := ⟨_, rfl⟩
  have hs0 := Nat.le_refl w0.heap.size
  have HL := Lib.hid hL
  have HM := Lib.hid hm
  have HK := Lib.hid hk
  have HN := Lib.hid hn
  clear hL hm hk hn
  unfold maxLen at hc
  go_enter Try.func77, Try.ntmps77
  go_upto_region 2 with fail
  go_loopw [0, 9] (fun v0 v9 wr => ∃ (j : Nat) (A0 : Option Addr) (n0 c0 : Nat) (l0 : List UInt8), j ≤ k ∧ v9 = .int .i64 (j : Int) ∧ v0 = .slice A0 n0 c0 ∧ n0 ≤ n + 8 * j ∧ (n0 ≤ c0 ∧ c0 ≤ maxLen) ∧ Hid (l0 = l ++ putInts (vs.take j)) ∧ Hid (l0.length = n0) ∧ Byts wr A0 l0 ∧ (0 < j → Own wr w0.heap.size (.slice A0 n0 c0) l0) ∧ Below w0.heap.size w0 wr) (fun _ v9 _ => k - (intOf v9).toNat)
  case atStart => exact ⟨0, A, n, c, l, Nat.zero_le _, rfl, rfl, Nat.le_refl _, hc, (show l = l ++ putInts (vs.take 0) by simp [putInts]), HN, hb, fun h => absurd h (by decide), Below.refl _ _⟩
  case round =>
    obtain ⟨j, A0, n0, c0, l0, hj, rfl, rfl, hn0, hc0, HL0, HLL, hy, hown, hbel⟩ := hrel
    have hl0 : l0.length = n0 := HLL.out
    by_cases hlt : j < k
    · have hltI : (j : Int) < (k : Int) := by omega
      obtain ⟨b, off, rfl, hcell0⟩ := hv.at (k := j) (by rw [HK.out]; exact hlt)
      have hcell := (hbel.cell (World.block_lt_of_cell? w0 _ hcell0)).trans hcell0
      have hsn : vs.take (j + 1) = vs.take j ++ [vs[j]'(by rw [HK.out]; exact hlt)] := by rw [List.take_succ_eq_append_getElem]
      clear hcell0
      generalize vs[j]'_ = v at *
      have hL1 : l0 ++ putI v = l ++ putInts (vs.take (j + 1)) := by rw [hsn, putInts_snoc, HL0.out, List.append_assoc]
      have hm1 : (l ++ putInts (vs.take (j + 1))).length = n0 + 8 := by rw [← hL1, List.length_append, putI_length, hl0]
      have HL1 := Lib.hid hL1
      have HM1 := Lib.hid hm1
      have HL0' := Lib.hid hl0
      clear hsn hL1 hm1 hl0 hown
      go_wp2_with (go_at_call 63; refine (pk_putInt A0 n0 c0 l0 v _ hy HL0'.out (by omega) HL1.out HM1.out).mono ?_; rintro e w1 ⟨A1, c1, rfl, hc1, hown1, hb1⟩)
      go_roundw
      case rel => exact ⟨j + 1, A1, n0 + 8, c1, _, by omega, by go_num, rfl, by omega, hc1, rfl, HM1, hown1.read, fun _ => hown1.mono hbel.size, hbel.trans (hb1.mono hbel.size)⟩
      case measure => simp [intOf]; omega
    · obtain rfl : j = k := by omega
      have hlast : vs.take j = vs := by rw [← HK.out, List.take_length]
      have hlen : n0 = m := by rw [← hl0, HL0.out, hlast, HL.out, HM.out]
      have hfin : l0 = L := by rw [HL0.out, hlast, HL.out]
      have HF := Lib.hid (And.intro hlen hfin)
      clear hlast hlen hfin hl0
      go_wp2_with fail
      go_ret
      obtain ⟨rfl, rfl⟩ := HF.out
      exact ⟨A0, c0, rfl, hc0, hown hk0, hbel⟩

theorem ints_lit (w : World) (l : List Int) : Ints (w.alloc (.cells (l.map (Value.int .i64)).toArray 3 (0, 0))) (some ⟨w.heap.size, 0, none⟩) l := by
  refine Or.inr ⟨_, _, rfl, fun i hi => ?_⟩
  have := new_cell w (l.map (Value.int .i64)) 3 (0, 0) i (.int .i64 l[i]) (by rw [List.getElem?_map, List.getElem?_eq_getElem hi]; rfl)
  rw [Nat.zero_add]
  exact this

set_option maxHeartbeats 8000000 in
theorem pk_inode (A : Option Addr) (n c : Nat) (l : List UInt8) (x : Ino) (v : IV) (w : World) (hb : Byts w A l) (hn : l.length = n) (hc : n ≤ c ∧ c ≤ maxLen) (hi : IvIs w v x) (hl : n + (putIno x).length ≤ 140737488300000)
    {L : List UInt8} {m : Nat} (hL : l ++ putIno x = L) (hm : L.length = m) :
    Calls Try.prog 64 #[.slice A n c, .agg #[.int .i64 x.no, .int .i64 x.kind, .int .i64 x.links, .int .i64 x.size, .string x.target, .slice v.EA x.ents.length v.Ec, .slice v.RA x.runs.length v.Rc]] w (Gives w L m) := by
  obtain ⟨w0, rfl⟩ : ∃ w0 : World, w0 = w := ⟨_, rfl⟩
  have hs0 := Nat.le_refl w0.heap.size
  have HL := Lib.hid hL
  have HM := Lib.hid hm
  have HN := Lib.hid hn
  rw [putIno_length] at hl
  have hen := putEnts_ge x.ents
  clear hL hm hn
  rcases x with ⟨no, kd, lk, sz, tg, es, rs⟩
  rcases v with ⟨EA, Ec, RA, Rc⟩
  simp only at *
  obtain ⟨hE, hR, hec, hrc⟩ := hi
  simp only at hE hR hec hrc
  have hbx := Blk.new w0 [.int .i64 no, .int .i64 kd, .int .i64 lk, .int .i64 sz, .string tg, .slice EA es.length Ec, .slice RA rs.length Rc] 69
  have hbel := below_alloc w0 (.cells [.int .i64 no, .int .i64 kd, .int .i64 lk, .int .i64 sz, .string tg, .slice EA es.length Ec, .slice RA rs.length Rc].toArray 69 (0, 0))
  go_enter Try.func64, Try.ntmps64
  go_upto_region 1 with fail
  generalize w0.alloc (.cells [.int .i64 no, .int .i64 kd, .int .i64 lk, .int .i64 sz, .string tg, .slice EA es.length Ec, .slice RA rs.length Rc].toArray 69 (0, 0)) = w1 at *
  have HQ := Lib.hid (fun (W : World) (h : Blk W w0.heap.size 69 [.int .i64 no, .int .i64 kd, .int .i64 lk, .int .i64 sz, .string tg, .slice EA es.length Ec, .slice RA rs.length Rc]) =>
    (⟨h.cell 0 _ rfl, h.cell 1 _ rfl, h.cell 2 _ rfl, h.cell 3 _ rfl, h.cell 4 _ rfl⟩ : W.cell? ⟨w0.heap.size, 0, none⟩ = some (.int .i64 no) ∧ W.cell? ⟨w0.heap.size, 1, none⟩ = some (.int .i64 kd) ∧ W.cell? ⟨w0.heap.size, 2, none⟩ = some (.int .i64 lk) ∧ W.cell? ⟨w0.heap.size, 3, none⟩ = some (.int .i64 sz) ∧ W.cell? ⟨w0.heap.size, 4, none⟩ = some (.string tg)))
  have hs1 := hbx.lt
  have hz1 := Nat.le_refl w1.heap.size
  have hi1 : Ints (w1.alloc (.cells #[.int .i64 no, .int .i64 kd, .int .i64 lk, .int .i64 sz] 3)).drew (some ⟨w1.heap.size, 0, none⟩) [no, kd, lk, sz] := ints_lit w1 [no, kd, lk, sz]
  have hba : Below w1.heap.size w1 (w1.alloc (.cells #[.int .i64 no, .int .i64 kd, .int .i64 lk, .int .i64 sz] 3)).drew := (below_alloc w1 _).drew
  have hbxa := hbx.below hba
  have hbA := (hb.below hbel).below hba
  have HL1 : Hid (l ++ putInts [no, kd, lk, sz] = l ++ putInts [no, kd, lk, sz]) := rfl
  have HM1 := Lib.hid (show (l ++ putInts [no, kd, lk, sz]).length = n + 32 by rw [List.length_append, putInts_length, HN.out]; rfl)
  have HM2 := Lib.hid (show (l ++ putInts [no, kd, lk, sz] ++ putT tg).length = n + 36 + tg.size by rw [List.length_append, HM1.out, putT_length]; omega)
  go_region_held3 (fun w' => w'.cell? ⟨w0.heap.size, 0, none⟩ = some (.int .i64 no) ∧ w'.cell? ⟨w0.heap.size, 1, none⟩ = some (.int .i64 kd) ∧ w'.cell? ⟨w0.heap.size, 2, none⟩ = some (.int .i64 lk) ∧ w'.cell? ⟨w0.heap.size, 3, none⟩ = some (.int .i64 sz) ∧ w'.cell? ⟨w0.heap.size, 4, none⟩ = some (.string tg))
    (first | (with_reducible exact HQ.out _ hbx) | (with_reducible exact HQ.out _ hbx.drew) | (with_reducible exact HQ.out _ hbxa) | (with_reducible exact HQ.out _ hbx2) | (with_reducible exact HQ.out _ hbx3) | (exact HQ.out _ hbxa))
    (first
      | (go_at_call 77; refine (pk_ints A n c l _ 4 4 [no, kd, lk, sz] _ hbA HN.out hc hi1 rfl (by decide) (by decide) (by omega) HL1.out HM1.out).mono ?_; rintro e w2 ⟨A2, c2, rfl, hc2, hown2, hb2⟩; have hbx2 := hbxa.below hb2; have hb20 := hba.trans (hb2.mono hba.size))
      | (go_at_call 76; refine (pk_putText A2 (n + 32) c2 _ tg _ hown2.read HM1.out (by omega) rfl HM2.out).mono ?_; rintro e w3 ⟨A3, c3, rfl, hc3, hown3, hb3⟩; have hbx3 := hbx2.below hb3; have hb30 := hb20.trans (hb3.mono hb20.size)))
  have hbx5 : ∀ W : World, Below w1.heap.size w1 W → W.cell? ⟨w0.heap.size, 5, none⟩ = some (.slice EA es.length Ec) ∧ W.cell? ⟨w0.heap.size, 6, none⟩ = some (.slice RA rs.length Rc) := fun W hB =>
    ⟨(hbx.below hB).cell 5 _ rfl, (hbx.below hB).cell 6 _ rfl⟩
  have HX5 := Lib.hid hbx5
  have hE1 := hE.below hbel
  have hR1 := hR.below hbel
  have hown3' := hown3.mono (B' := w1.heap.size) hb20.size
  clear hi1 hba hbxa hbA hown2 hb2 hbx2 hb20 hb3 hbx3 hown3 HQ hbx5 HL1 HM1
  obtain ⟨L2, hL2⟩ : ∃ L2, l ++ putInts [no, kd, lk, sz] ++ putT tg = L2 := ⟨_, rfl⟩
  have HL2 := Lib.hid hL2
  rw [hL2] at hown3' HM2
  have HM3 := Lib.hid (show (L2 ++ low es.length 4).length = n + 40 + tg.size by rw [List.length_append, HM2.out, low_length]; omega)
  have hm2 : n + 36 + tg.size ≤ 140737488350000 := by omega
  have hes : es.length < 18446744073709551616 := by omega
  obtain ⟨d5, d6⟩ := HX5.out _ hb30
  have hue : IntKind.u64.wrap (es.length : Int) = (es.length : Int) := IntWalk.u64_in _ (by omega)
  clear hL2
  go_upto_region 3 with (go_at_call 53; refine (pk_put A3 (n + 36 + tg.size) c3 L2 es.length 4 _ hown3'.read HM2.out (by omega) hes (by decide) (by decide) (L := L2 ++ low es.length 4) rfl HM3.out).mono ?_; rintro e w4 ⟨A4, c4, rfl, hc4, hown4, hb4⟩)
  have hb40 := hb30.trans (hb4.mono hb30.size)
  have hown4' := hown4.mono (B' := w1.heap.size) hb30.size
  clear hown3' hown4 hb30 hb4 hc3 hc2 HM2 hue hes d5 d6
  obtain ⟨L3, hL3⟩ : ∃ L3, L2 ++ low es.length 4 = L3 := ⟨_, rfl⟩
  have HL3 := Lib.hid hL3
  rw [hL3] at hown4' HM3
  clear hL3
  obtain ⟨d5, d6⟩ := HX5.out _ hb40
  obtain ⟨ne, hne⟩ : ∃ k, es.length = k := ⟨_, rfl⟩
  obtain ⟨nr, hnr⟩ : ∃ k, rs.length = k := ⟨_, rfl⟩
  rw [hne] at d5 hec hen HX5 ⊢
  rw [hnr] at d6 hrc hl HX5 ⊢
  have HNE := Lib.hid hne
  have HNR := Lib.hid hnr
  obtain ⟨le, hle⟩ : ∃ k, (putEnts es).length = k := ⟨_, rfl⟩
  rw [hle] at hl hen
  have HLE := Lib.hid hle
  clear hne hnr hle
  go_upto_block 0 with fail
  go_cut [0] (fun v0 w' => ∃ A5 c5 n5, v0 = .slice A5 n5 c5 ∧ n5 = n + 40 + tg.size + le ∧ (n5 ≤ c5 ∧ c5 ≤ maxLen) ∧ Own w' w1.heap.size (.slice A5 n5 c5) (L3 ++ putEnts es) ∧ Below w1.heap.size w1 w')
  case first =>
    go_upto_region 4 with fail
    go_loopw [0, 32] (fun v0 v32 wr => ∃ (j : Nat) (A0 : Option Addr) (n0 c0 : Nat), j ≤ ne ∧ v32 = .int .i64 (j : Int) ∧ v0 = .slice A0 n0 c0 ∧ n0 ≤ n + 40 + tg.size + le ∧ (n0 ≤ c0 ∧ c0 ≤ maxLen) ∧ Hid ((L3 ++ putEnts (es.take j)).length = n0) ∧ Own wr w1.heap.size (.slice A0 n0 c0) (L3 ++ putEnts (es.take j)) ∧ Below w1.heap.size w1 wr) (fun _ v32 _ => ne - (intOf v32).toNat)
    case atStart => exact ⟨0, A4, _, c4, Nat.zero_le _, rfl, rfl, by omega, hc4, (by show (L3 ++ putEnts (es.take 0)).length = _; rw [List.take_zero, show putEnts [] = [] from rfl, List.append_nil, HM3.out]), (by rw [List.take_zero, show putEnts [] = [] from rfl, List.append_nil]; exact hown4'), hb40⟩
    case round =>
      obtain ⟨j, A0, n0, c0, hj, rfl, rfl, hn0, hc0, HLL, hown, hbel4⟩ := hrel
      by_cases hlt : j < ne
      · have hltI : (j : Int) < (ne : Int) := by omega
        obtain ⟨b, off, rfl, hbl, hcells⟩ := hE1.at (i := j) (by rw [HNE.out]; exact hlt)
        have hsn : es.take (j + 1) = es.take j ++ [es[j]'(by rw [HNE.out]; exact hlt)] := by rw [List.take_succ_eq_append_getElem]
        have htk := putEnts_take es (j + 1)
        have x0 : wr.cell? ⟨b, off + j * 2, none⟩ = some (.string (es[j]'(by rw [HNE.out]; exact hlt)).name) := (hbel4.cell hbl).trans (hcells 0 _ rfl)
        have x1 : wr.cell? ⟨b, off + j * 2 + 1, none⟩ = some (.int .i64 (es[j]'(by rw [HNE.out]; exact hlt)).no) := (hbel4.cell hbl).trans (hcells 1 _ rfl)
        rw [hsn, putEnts_snoc, HLE.out] at htk
        clear hcells
        generalize es[j]'_ = en at *
        rcases en with ⟨nm, eno⟩
        simp only at x0 x1
        have hl1 : (L3 ++ putEnts (es.take j) ++ putT nm).length = n0 + 4 + nm.size := by rw [List.length_append, HLL.out, putT_length]; omega
        have hl2 : (L3 ++ putEnts (es.take (j + 1))).length = n0 + 12 + nm.size := by rw [hsn, putEnts_snoc, ← List.append_assoc, List.length_append, HLL.out, putEnt_length]; simp only; omega
        have hL2 : L3 ++ putEnts (es.take j) ++ putT nm ++ putI eno = L3 ++ putEnts (es.take (j + 1)) := by rw [hsn, putEnts_snoc]; unfold putEnt; simp
        rw [List.length_append, putEnt_length] at htk
        simp only at htk
        have hn1 : n0 + 12 + nm.size ≤ n + 40 + tg.size + le := by
          have h1 := HLL.out
          rw [List.length_append, HM3.out] at h1
          omega
        have HL1 := Lib.hid hl1
        have HL2' := Lib.hid hl2
        have HLE2 := Lib.hid hL2
        clear hsn htk hl1 hl2 hL2
        go_upto_region 6 with fail
        have hbe := Blk.new wr [.string nm, .int .i64 eno] 80
        have hbe2 := below_alloc wr (.cells [.string nm, .int .i64 eno].toArray 80 (0, 0))
        generalize wr.alloc (.cells [.string nm, .int .i64 eno].toArray 80 (0, 0)) = w5 at *
        have HQ2 := Lib.hid (fun (W : World) (h : Blk W wr.heap.size 80 [.string nm, .int .i64 eno]) => (⟨h.cell 0 _ rfl, h.cell 1 _ rfl⟩ : W.cell? ⟨wr.heap.size, 0, none⟩ = some (.string nm) ∧ W.cell? ⟨wr.heap.size, 1, none⟩ = some (.int .i64 eno)))
        have hyd := (hown.below hbe2).read.drewN 1
        have hb50 := hbel4.trans (hbe2.mono hbel4.size)
        have hz5 := hb50.size
        have hbd := (below_drewN (Below.refl w5.heap.size w5) 1)
        have hn2 : n0 + nm.size ≤ 140737488350000 := by omega
        have hn3 : n0 + 4 + nm.size ≤ 140737488355000 := by omega
        go_region_held3 (fun w' => w'.cell? ⟨wr.heap.size, 0, none⟩ = some (.string nm) ∧ w'.cell? ⟨wr.heap.size, 1, none⟩ = some (.int .i64 eno))
          (first | (with_reducible exact HQ2.out _ hbe) | (with_reducible exact HQ2.out _ hbe.drew) | (with_reducible exact HQ2.out _ hbe6) | (with_reducible exact HQ2.out _ hbe7))
          (first
            | (go_at_call 76; refine (pk_putText A0 n0 c0 _ nm _ hyd HLL.out hn2 rfl HL1.out).mono ?_; rintro e w6 ⟨A6, c6, rfl, hc6, hown6, hb6⟩; have hbe6 := hbe.drew.below hb6; have hb60 := hbd.trans (hb6.mono hbd.size))
            | (go_at_call 63; refine (pk_putInt A6 (n0 + 4 + nm.size) c6 _ eno _ hown6.read HL1.out hn3 HLE2.out HL2'.out).mono ?_; rintro e w7 ⟨A7, c7, rfl, hc7, hown7, hb7⟩; have hbe7 := hbe6.below hb7; have hb70 := hb60.trans (hb7.mono hb60.size)))
        have hb7z := hb50.trans (hb70.mono hz5)
        have hown7' := hown7.mono (B' := w1.heap.size) (Nat.le_trans hz5 hb60.size)
        clear hbe hbe6 hbe7 hyd hb60 hb6 hb7 hown6 hown7 hb70 hown hc6 x0 x1
        go_wp2_with fail
        go_roundw
        case rel => exact ⟨j + 1, A7, n0 + 12 + nm.size, c7, by omega, by go_num, rfl, hn1, hc7, HL2'.out, hown7', hb7z⟩
        case measure => simp [intOf]; omega
      · obtain rfl : j = ne := by omega
        have hlast : es.take j = es := by rw [← HNE.out, List.take_length]
        rw [hlast] at HLL hown
        have hn9 : n0 = n + 40 + tg.size + le := by
          have h1 := HLL.out
          rw [List.length_append, HM3.out, HLE.out] at h1
          omega
        have HN9 := Lib.hid hn9
        clear hn9 hlast
        go_wp2_with fail
        go_meet
        exact ⟨A0, c0, n0, rfl, HN9.out, hc0, hown, hbel4⟩
  case rest =>
  obtain ⟨A5, c5, n5, rfl, hn5, hc5, hown5, hb50⟩ := hcut
  obtain ⟨w5, rfl⟩ : ∃ w5, w5 = wc := ⟨_, rfl⟩
  have HN5 := Lib.hid (show (L3 ++ putEnts es).length = n5 by rw [List.length_append, HM3.out, HLE.out, hn5])
  have hn5b : n5 + 4 + 24 * nr ≤ 140737488300000 := by omega
  clear hn5 hown4' hb40 d5 d6
  obtain ⟨L4, hL4⟩ : ∃ L4, L3 ++ putEnts es = L4 := ⟨_, rfl⟩
  have HL4 := Lib.hid hL4
  rw [hL4] at HN5 hown5
  clear hL4
  have HM5 := Lib.hid (show (L4 ++ low nr 4).length = n5 + 4 by rw [List.length_append, HN5.out, low_length])
  obtain ⟨d5, d6⟩ := HX5.out _ hb50
  have hur : IntKind.u64.wrap (nr : Int) = (nr : Int) := IntWalk.u64_in _ (by omega)
  go_upto_region 9 with (go_at_call 53; refine (pk_put A5 n5 c5 L4 nr 4 _ hown5.read HN5.out (by omega) (by omega) (by decide) (by decide) (L := L4 ++ low nr 4) rfl HM5.out).mono ?_; rintro e w6 ⟨A6, c6, rfl, hc6, hown6, hb6⟩)
  have hb60 := hb50.trans (hb6.mono hb50.size)
  have hown6' := hown6.mono (B' := w1.heap.size) hb50.size
  clear hown5 hown6 hb50 hb6 hur d5 d6 hc5
  obtain ⟨L5, hL5⟩ : ∃ L5, L4 ++ low nr 4 = L5 := ⟨_, rfl⟩
  have HL5 := Lib.hid hL5
  rw [hL5] at HM5 hown6'
  clear hL5
  obtain ⟨d5, d6⟩ := HX5.out _ hb60
  go_upto_block 2 with fail
  go_cut [0] (fun v0 w' => ∃ A7 c7, v0 = .slice A7 m c7 ∧ (m ≤ c7 ∧ c7 ≤ maxLen) ∧ Own w' w1.heap.size (.slice A7 m c7) L ∧ Below w1.heap.size w1 w')
  case first =>
    go_upto_region 10 with fail
    go_loopw [0, 53] (fun v0 v53 wr => ∃ (j : Nat) (A0 : Option Addr) (n0 c0 : Nat), j ≤ nr ∧ v53 = .int .i64 (j : Int) ∧ v0 = .slice A0 n0 c0 ∧ n0 ≤ n5 + 4 + 24 * j ∧ (n0 ≤ c0 ∧ c0 ≤ maxLen) ∧ Hid ((L5 ++ putRuns (rs.take j)).length = n0) ∧ Own wr w1.heap.size (.slice A0 n0 c0) (L5 ++ putRuns (rs.take j)) ∧ Below w1.heap.size w1 wr) (fun _ v53 _ => nr - (intOf v53).toNat)
    case atStart => exact ⟨0, A6, _, c6, Nat.zero_le _, rfl, rfl, by omega, hc6, (by show (L5 ++ putRuns (rs.take 0)).length = _; rw [List.take_zero, show putRuns [] = [] from rfl, List.append_nil, HM5.out]), (by rw [List.take_zero, show putRuns [] = [] from rfl, List.append_nil]; exact hown6'), hb60⟩
    case round =>
      obtain ⟨j, A0, n0, c0, hj, rfl, rfl, hn0, hc0, HLL, hown, hbel4⟩ := hrel
      by_cases hlt : j < nr
      · have hltI : (j : Int) < (nr : Int) := by omega
        obtain ⟨b, off, rfl, hbl, hcells⟩ := hR1.at (i := j) (by rw [HNR.out]; exact hlt)
        have hsn : rs.take (j + 1) = rs.take j ++ [rs[j]'(by rw [HNR.out]; exact hlt)] := by rw [List.take_succ_eq_append_getElem]
        have x0 : wr.cell? ⟨b, off + j * 3, none⟩ = some (.int .i64 (rs[j]'(by rw [HNR.out]; exact hlt)).f) := (hbel4.cell hbl).trans (hcells 0 _ rfl)
        have x1 : wr.cell? ⟨b, off + j * 3 + 1, none⟩ = some (.int .i64 (rs[j]'(by rw [HNR.out]; exact hlt)).a) := (hbel4.cell hbl).trans (hcells 1 _ rfl)
        have x2 : wr.cell? ⟨b, off + j * 3 + 2, none⟩ = some (.int .i64 (rs[j]'(by rw [HNR.out]; exact hlt)).c) := (hbel4.cell hbl).trans (hcells 2 _ rfl)
        clear hcells
        generalize rs[j]'_ = en at *
        rcases en with ⟨rf, ra, rc⟩
        simp only at x0 x1 x2
        have hl2 : (L5 ++ putRuns (rs.take (j + 1))).length = n0 + 24 := by rw [hsn, putRuns_snoc, ← List.append_assoc, List.length_append, HLL.out, putRun_length]
        have hL2 : L5 ++ putRuns (rs.take j) ++ putInts [rf, ra, rc] = L5 ++ putRuns (rs.take (j + 1)) := by rw [hsn, putRuns_snoc, List.append_assoc]; unfold putRun putInts; simp
        have HL2' := Lib.hid hl2
        have HLE2 := Lib.hid hL2
        clear hsn hl2 hL2
        go_upto_region 12 with fail
        have hbe := Blk.new wr [.int .i64 rf, .int .i64 ra, .int .i64 rc] 109
        have hbe2 := below_alloc wr (.cells [.int .i64 rf, .int .i64 ra, .int .i64 rc].toArray 109 (0, 0))
        generalize wr.alloc (.cells [.int .i64 rf, .int .i64 ra, .int .i64 rc].toArray 109 (0, 0)) = w7 at *
        have hb70 := hbel4.trans (hbe2.mono hbel4.size)
        have hil : Ints (w7.alloc (.cells #[.int .i64 rf, .int .i64 ra, .int .i64 rc] 3)) (some ⟨w7.heap.size, 0, none⟩) [rf, ra, rc] := ints_lit w7 [rf, ra, rc]
        have hba := below_alloc w7 (.cells #[.int .i64 rf, .int .i64 ra, .int .i64 rc] 3)
        have hya := ((hown.below hbe2).below hba).read
        have e0 := hbe.cell 0 _ rfl
        have e1 := hbe.cell 1 _ rfl
        have e2 := hbe.cell 2 _ rfl
        have hb7a := hb70.trans (hba.mono hb70.size)
        clear x0 x1 x2 hbe
        go_wp2_with (go_at_call 77; refine (pk_ints A0 n0 c0 _ _ 3 3 [rf, ra, rc] _ hya HLL.out hc0 hil rfl (by decide) (by decide) (by omega) HLE2.out HL2'.out).mono ?_; rintro e w8 ⟨A8, c8, rfl, hc8, hown8, hb8⟩)
        have hb80 := hb7a.trans (hb8.mono hb7a.size)
        have hown8' := hown8.mono (B' := w1.heap.size) hb7a.size
        go_roundw
        case rel => exact ⟨j + 1, A8, n0 + 24, c8, by omega, by go_num, rfl, by omega, hc8, HL2'.out, hown8', hb80⟩
        case measure => simp [intOf]; omega
      · obtain rfl : j = nr := by omega
        have hlast : rs.take j = rs := by rw [← HNR.out, List.take_length]
        rw [hlast] at HLL hown
        have hfin : L5 ++ putRuns rs = L := by
          rw [← HL.out, ← HL5.out, ← HL4.out, ← HL3.out, ← HL2.out, ← HNR.out]
          unfold putIno putHead putInts
          simp
        rw [hfin] at HLL hown
        have hm9 : n0 = m := by rw [← HLL.out, HM.out]
        have HF := Lib.hid hm9
        clear hm9 hfin hlast
        go_wp2_with fail
        go_meet
        rw [HF.out] at hown hc0 ⊢
        exact ⟨A0, c0, rfl, hc0, hown, hbel4⟩
  case rest =>
    obtain ⟨A7, c7, rfl, hc7, hown7, hb70⟩ := hcut
    go_wp2_with fail
    go_ret
    exact ⟨A7, c7, rfl, hc7, hown7.mono (Nat.le_of_lt hs1), hbel.trans (hb70.mono (Nat.le_of_lt hs1))⟩

set_option maxHeartbeats 8000000 in
theorem pk_deeds (A : Option Addr) (k c : Nat) (ds : List Dd) (w : World) (hd : DdsAt w A ds) (hk : ds.length = k) (hl : ddsW ds ≤ 4000000)
    {m : Nat} (hm : (putDds ds).length = m) :
    Calls Try.prog 44 #[.slice A k c] w (Gives w (putDds ds) m) := by
  obtain ⟨w0, rfl⟩ : ∃ w0 : World, w0 = w := ⟨_, rfl⟩
  have hs0 := Nat.le_refl w0.heap.size
  have HM := Lib.hid hm
  have HK := Lib.hid hk
  have hk2 := dds_le ds
  have hmb := putDds_le ds
  rw [hk] at hk2
  rw [hm] at hmb
  have hkb : k ≤ 400000 := by omega
  have HPW := Lib.hid (fun (j : Nat) (hj : j < ds.length) => (show (putDds (ds.take (j + 1))).length ≤ (putDds ds).length by
    have : putDds ds = putDds (ds.take (j + 1)) ++ putDds (ds.drop (j + 1)) := by rw [← putDds_append, List.take_append_drop]
    rw [this, List.length_append]; omega))
  clear hm hk hk2
  go_enter Try.func44, Try.ntmps44
  go_upto_region 3 with fail
  go_loopw [3, 8] (fun v3 v8 wr => ∃ (j : Nat) (A0 : Option Addr) (n0 c0 : Nat), j ≤ k ∧ v8 = .int .i64 (j : Int) ∧ v3 = .slice A0 n0 c0 ∧ n0 ≤ m ∧ (n0 ≤ c0 ∧ c0 ≤ maxLen) ∧ Hid ((putDds (ds.take j)).length = n0) ∧ Own wr w0.heap.size (.slice A0 n0 c0) (putDds (ds.take j)) ∧ Below w0.heap.size w0 wr) (fun _ v8 _ => k - (intOf v8).toNat)
  case atStart => exact ⟨0, none, 0, 0, Nat.zero_le _, rfl, rfl, Nat.zero_le _, ⟨Nat.le_refl _, Nat.zero_le _⟩, (by show (putDds (ds.take 0)).length = 0; rfl), Own.nil _ _, Below.refl _ _⟩
  case round =>
    obtain ⟨j, A0, n0, c0, hj, rfl, rfl, hn0, hc0, HLL, hown, hbel⟩ := hrel
    by_cases hlt : j < k
    · have hltI : (j : Int) < (k : Int) := by omega
      have hjl : j < ds.length := by rw [HK.out]; exact hlt
      obtain ⟨b, off, v, rfl, hbl, hcells, hIv0⟩ := hd.at (i := j) hjl
      have hIv := hIv0.below hbel
      have hsn : ds.take (j + 1) = ds.take j ++ [ds[j]] := by rw [List.take_succ_eq_append_getElem]
      have hcw : ∀ i u, (ddCells ds[j] v)[i]? = some u → wr.cell? ⟨b, off + j * 9 + i, none⟩ = some u := fun i u hu => (hbel.cell hbl).trans (hcells i u hu)
      have hpw := HPW.out j hjl
      rw [hsn, putDds_snoc, HM.out] at hpw
      rw [List.length_append, HLL.out] at hpw
      clear hcells hIv0
      generalize ds[j] = d at *
      rcases d with ⟨kd, no, x⟩
      have x0 : wr.cell? ⟨b, off + j * 9, none⟩ = some (.int .i64 kd) := hcw 0 _ rfl
      have x1 : wr.cell? ⟨b, off + j * 9 + 1, none⟩ = some (.int .i64 no) := hcw 1 _ rfl
      have x2 : wr.cell? ⟨b, off + j * 9 + 2, none⟩ = some (.int .i64 x.no) := hcw 2 _ rfl
      have x3 : wr.cell? ⟨b, off + j * 9 + 3, none⟩ = some (.int .i64 x.kind) := hcw 3 _ rfl
      have x4 : wr.cell? ⟨b, off + j * 9 + 4, none⟩ = some (.int .i64 x.links) := hcw 4 _ rfl
      have x5 : wr.cell? ⟨b, off + j * 9 + 5, none⟩ = some (.int .i64 x.size) := hcw 5 _ rfl
      have x6 : wr.cell? ⟨b, off + j * 9 + 6, none⟩ = some (.string x.target) := hcw 6 _ rfl
      have x7 : wr.cell? ⟨b, off + j * 9 + 7, none⟩ = some (.slice v.EA x.ents.length v.Ec) := hcw 7 _ rfl
      have x8 : wr.cell? ⟨b, off + j * 9 + 8, none⟩ = some (.slice v.RA x.runs.length v.Rc) := hcw 8 _ rfl
      have HSN := Lib.hid hsn
      clear hcw hsn
      go_upto_region 5 with fail
      have hbe := Blk.new wr [.int .i64 kd, .int .i64 no, .int .i64 x.no, .int .i64 x.kind, .int .i64 x.links, .int .i64 x.size, .string x.target, .slice v.EA x.ents.length v.Ec, .slice v.RA x.runs.length v.Rc] 71
      have hbe2 := below_alloc wr (.cells [.int .i64 kd, .int .i64 no, .int .i64 x.no, .int .i64 x.kind, .int .i64 x.links, .int .i64 x.size, .string x.target, .slice v.EA x.ents.length v.Ec, .slice v.RA x.runs.length v.Rc].toArray 71 (0, 0))
      generalize wr.alloc (.cells [.int .i64 kd, .int .i64 no, .int .i64 x.no, .int .i64 x.kind, .int .i64 x.links, .int .i64 x.size, .string x.target, .slice v.EA x.ents.length v.Ec, .slice v.RA x.runs.length v.Rc].toArray 71 (0, 0)) = w5 at *
      have hb50 := hbel.trans (hbe2.mono hbel.size)
      have hIv5 := hIv.below hbe2
      have hown5 := hown.below hbe2
      clear x0 x1 x2 x3 x4 x5 x6 x7 x8 hIv hown
      have hu := uof_eq kd
      have hult := uof_lt kd
      obtain ⟨u, HU⟩ : ∃ u, Hid (uof kd = u) := ⟨_, rfl⟩
      rw [HU.out] at hu hult
      have d0 := hbe.cell 0 _ rfl
      have HM6 := Lib.hid (show (putDds (ds.take j) ++ low u 1).length = n0 + 1 by rw [List.length_append, HLL.out, low_length])
      go_upto_region 6 with (go_at_call 53; refine (pk_put A0 n0 c0 _ u 1 _ hown5.read HLL.out (by omega) hult (by decide) (by decide) (L := putDds (ds.take j) ++ low u 1) rfl HM6.out).mono ?_; rintro e w6 ⟨A6, c6, rfl, hc6, hown6, hb6⟩)
      have hb60 := hb50.trans (hb6.mono hb50.size)
      have hbe6 := hbe.below hb6
      have hIv6 := hIv5.below hb6
      have d0 := hbe6.cell 0 _ rfl
      have d1 := hbe6.cell 1 _ rfl
      have d2 := hbe6.cell 2 _ rfl
      have d3 := hbe6.cell 3 _ rfl
      have d4 := hbe6.cell 4 _ rfl
      have d5 := hbe6.cell 5 _ rfl
      have d6 := hbe6.cell 6 _ rfl
      have d7 := hbe6.cell 7 _ rfl
      have d8 := hbe6.cell 8 _ rfl
      have HPD := Lib.hid hpw
      have hz50 := hb50.size
      clear hu hult hbe hb6 hb50 hbe2 hown5 hIv5 hbe6 hpw
      by_cases k1 : kd = 1
      · subst k1
        as_aux_lemma =>
          have HL9 := Lib.hid (show putDds (ds.take j) ++ low u 1 ++ putI no = putDds (ds.take (j + 1)) by rw [HSN.out, putDds_snoc]; unfold putDd putRest; rw [if_pos (by decide : numKind 1), HU.out]; simp)
          have HM9 := Lib.hid (show (putDds (ds.take j) ++ low u 1 ++ putI no).length = n0 + 1 + 8 by rw [List.length_append, HM6.out, putI_length])
          have hpw' : n0 + 1 + 8 ≤ m := by
            have h1 := HPD.out
            unfold putDd putRest at h1
            rw [if_pos (by decide : numKind 1), List.length_append, low_length, putI_length] at h1
            omega
          go_wp2_with (go_at_call 63; refine (pk_putInt A6 (n0 + 1) c6 _ no _ hown6.read HM6.out (by omega) rfl HM9.out).mono ?_; rintro e w7 ⟨A7, c7, rfl, hc7, hown7, hb7⟩)
          go_roundw
          case rel => exact ⟨j + 1, A7, n0 + 1 + 8, c7, by omega, by go_num, rfl, hpw', hc7, (by show (putDds (ds.take (j + 1))).length = _; rw [← HL9.out]; exact HM9.out), (by rw [← HL9.out]; exact hown7.mono hb60.size), hb60.trans (hb7.mono hb60.size)⟩
          case measure => simp [intOf]; omega
      by_cases k3 : kd = 3
      · subst k3
        as_aux_lemma =>
          have HL9 := Lib.hid (show putDds (ds.take j) ++ low u 1 ++ putI no = putDds (ds.take (j + 1)) by rw [HSN.out, putDds_snoc]; unfold putDd putRest; rw [if_pos (by decide : numKind 3), HU.out]; simp)
          have HM9 := Lib.hid (show (putDds (ds.take j) ++ low u 1 ++ putI no).length = n0 + 1 + 8 by rw [List.length_append, HM6.out, putI_length])
          have hpw' : n0 + 1 + 8 ≤ m := by
            have h1 := HPD.out
            unfold putDd putRest at h1
            rw [if_pos (by decide : numKind 3), List.length_append, low_length, putI_length] at h1
            omega
          go_wp2_with (go_at_call 63; refine (pk_putInt A6 (n0 + 1) c6 _ no _ hown6.read HM6.out (by omega) rfl HM9.out).mono ?_; rintro e w7 ⟨A7, c7, rfl, hc7, hown7, hb7⟩)
          go_roundw
          case rel => exact ⟨j + 1, A7, n0 + 1 + 8, c7, by omega, by go_num, rfl, hpw', hc7, (by show (putDds (ds.take (j + 1))).length = _; rw [← HL9.out]; exact HM9.out), (by rw [← HL9.out]; exact hown7.mono hb60.size), hb60.trans (hb7.mono hb60.size)⟩
          case measure => simp [intOf]; omega
      by_cases k4 : kd = 4
      · subst k4
        as_aux_lemma =>
          have HL9 := Lib.hid (show putDds (ds.take j) ++ low u 1 ++ putI no = putDds (ds.take (j + 1)) by rw [HSN.out, putDds_snoc]; unfold putDd putRest; rw [if_pos (by decide : numKind 4), HU.out]; simp)
          have HM9 := Lib.hid (show (putDds (ds.take j) ++ low u 1 ++ putI no).length = n0 + 1 + 8 by rw [List.length_append, HM6.out, putI_length])
          have hpw' : n0 + 1 + 8 ≤ m := by
            have h1 := HPD.out
            unfold putDd putRest at h1
            rw [if_pos (by decide : numKind 4), List.length_append, low_length, putI_length] at h1
            omega
          go_wp2_with (go_at_call 63; refine (pk_putInt A6 (n0 + 1) c6 _ no _ hown6.read HM6.out (by omega) rfl HM9.out).mono ?_; rintro e w7 ⟨A7, c7, rfl, hc7, hown7, hb7⟩)
          go_roundw
          case rel => exact ⟨j + 1, A7, n0 + 1 + 8, c7, by omega, by go_num, rfl, hpw', hc7, (by show (putDds (ds.take (j + 1))).length = _; rw [← HL9.out]; exact HM9.out), (by rw [← HL9.out]; exact hown7.mono hb60.size), hb60.trans (hb7.mono hb60.size)⟩
          case measure => simp [intOf]; omega
      have hnk : ¬ numKind kd := by unfold numKind; omega
      by_cases k2 : kd = 2
      · subst k2
        as_aux_lemma =>
          obtain ⟨ml, hml⟩ : ∃ ml, (putIno x).length = ml := ⟨_, rfl⟩
          have HML := Lib.hid hml
          have HL9 := Lib.hid (show putDds (ds.take j) ++ low u 1 ++ putIno x = putDds (ds.take (j + 1)) by rw [HSN.out, putDds_snoc]; unfold putDd putRest; rw [if_neg (by decide : ¬ numKind 2), if_pos rfl, HU.out]; simp)
          have HM9 := Lib.hid (show (putDds (ds.take j) ++ low u 1 ++ putIno x).length = n0 + 1 + ml by rw [List.length_append, HM6.out, hml])
          have hpw' : n0 + 1 + ml ≤ m := by
            have h1 := HPD.out
            unfold putDd putRest at h1
            rw [if_neg (by decide : ¬ numKind 2), if_pos rfl, List.length_append, low_length] at h1
            simp only at h1
            omega
          have hlim : n0 + 1 + (putIno x).length ≤ 140737488300000 := by rw [hml]; omega
          clear hml
          go_wp2_with (go_at_call 64; refine (pk_inode A6 (n0 + 1) c6 _ x v _ hown6.read HM6.out hc6 hIv6 hlim rfl HM9.out).mono ?_; rintro e w7 ⟨A7, c7, rfl, hc7, hown7, hb7⟩)
          go_roundw
          case rel => exact ⟨j + 1, A7, n0 + 1 + ml, c7, by omega, by go_num, rfl, hpw', hc7, (by show (putDds (ds.take (j + 1))).length = _; rw [← HL9.out]; exact HM9.out), (by rw [← HL9.out]; exact hown7.mono hb60.size), hb60.trans (hb7.mono hb60.size)⟩
          case measure => simp [intOf]; omega
      · as_aux_lemma =>
          have k1' : (kd == 1) = false := beq_eq_false_iff_ne.2 k1
          have k3' : (kd == 3) = false := beq_eq_false_iff_ne.2 k3
          have k4' : (kd == 4) = false := beq_eq_false_iff_ne.2 k4
          have k2' : (kd == 2) = false := beq_eq_false_iff_ne.2 k2
          have HL9 := Lib.hid (show putDds (ds.take j) ++ low u 1 = putDds (ds.take (j + 1)) by rw [HSN.out, putDds_snoc]; unfold putDd putRest; rw [if_neg hnk, if_neg k2, HU.out]; simp)
          have hpw' : n0 + 1 ≤ m := by
            have h1 := HPD.out
            unfold putDd at h1
            rw [List.length_append, low_length] at h1
            omega
          clear k1 k2 k3 k4 hnk
          go_wp2_with fail
          go_roundw
          case rel => exact ⟨j + 1, A6, n0 + 1, c6, by omega, by go_num, rfl, hpw', hc6, (by show (putDds (ds.take (j + 1))).length = _; rw [← HL9.out]; exact HM6.out), (by rw [← HL9.out]; exact hown6.mono hz50), hb60⟩
          case measure => simp [intOf]; omega
    · obtain rfl : j = k := by omega
      have hlast : ds.take j = ds := by rw [← HK.out, List.take_length]
      rw [hlast] at HLL hown
      have HF := Lib.hid (show n0 = m by rw [← HLL.out, HM.out])
      clear hlast
      go_wp2_with fail
      go_ret
      rw [HF.out] at hown hc0 ⊢
      exact ⟨A0, c0, rfl, hc0, hown, hbel⟩
end Go.Proofs.Ytdieeleaaejfhaa
