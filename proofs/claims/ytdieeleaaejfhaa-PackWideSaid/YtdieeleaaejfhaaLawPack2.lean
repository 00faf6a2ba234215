/- The walk of PackWide: an inode by value, and two numbers, packed and parsed. -/
import Derived.Test.YtdieeleaaejfhaaLawPack
import Derived.Test.YtdieeleaaejfhaaPackA
set_option linter.unusedVariables false
set_option maxRecDepth 100000
set_option linter.unusedSimpArgs false
namespace Go.Proofs.Ytdieeleaaejfhaa
open Go.RowKit

theorem entsW_few (l : List Ent) (h : ∀ e ∈ l, e.name.size ≤ 100) : entsW l ≤ 110 * l.length := by
  induction l with
  | nil => simp [entsW]
  | cons e l ih =>
    have h1 := h e (by simp)
    have h2 := ih (fun y hy => h y (by simp [hy]))
    rw [entsW_cons, List.length_cons]
    omega

def wideDds (x : Ino) (a b : Int) : List Dd := [⟨2, 0, x⟩, ⟨4, a, ino0⟩, ⟨3, b, ino0⟩]

set_option maxHeartbeats 4000000 in
theorem packWide_walk {w : World} (x : Ino) (v : IV) (hiv : IvIs w v x) (hx : InoIn x) (no : Int) (wn : (Lit.int .i64 no).wf = true) :
    Calls Try.prog 14 #[.agg #[.int .i64 x.no, .int .i64 x.kind, .int .i64 x.links, .int .i64 x.size, .string x.target, .slice v.EA x.ents.length v.Ec, .slice v.RA x.runs.length v.Rc], .int .i64 no] w fun e w' => e = .returned (.bool true) ∧ Below w.heap.size w w' := by
  obtain ⟨w0, rfl⟩ : ∃ w0 : World, w0 = w := ⟨_, rfl⟩
  have bn := wf_i64 wn
  clear wn
  have hbx := Blk.new w0 [.int .i64 x.no, .int .i64 x.kind, .int .i64 x.links, .int .i64 x.size, .string x.target, .slice v.EA x.ents.length v.Ec, .slice v.RA x.runs.length v.Rc] 69
  have hbel := below_alloc w0 (.cells [.int .i64 x.no, .int .i64 x.kind, .int .i64 x.links, .int .i64 x.size, .string x.target, .slice v.EA x.ents.length v.Ec, .slice v.RA x.runs.length v.Rc].toArray 69 (0, 0))
  have hiv1 := hiv.below hbel
  have hec := hiv.ec
  have hrc := hiv.rc
  go_enter Try.func14, Try.ntmps14
  go_upto_region 1 with fail
  generalize w0.alloc (.cells [.int .i64 x.no, .int .i64 x.kind, .int .i64 x.links, .int .i64 x.size, .string x.target, .slice v.EA x.ents.length v.Ec, .slice v.RA x.runs.length v.Rc].toArray 69 (0, 0)) = w1 at *
  have q0 := hbx.cell 0 _ rfl
  have q1 := hbx.cell 1 _ rfl
  have q2 := hbx.cell 2 _ rfl
  have q3 := hbx.cell 3 _ rfl
  have q4 := hbx.cell 4 _ rfl
  have q5 := hbx.cell 5 _ rfl
  have q6 := hbx.cell 6 _ rfl
  have hs1 := hbel.size
  by_cases hE : 20 < x.ents.length
  · have hE' : (20 : Int) < (x.ents.length : Int) := by omega
    go_wp2_with (go_at_call 40; refine (awake13 _).mono ?_; rintro e w' ⟨rfl, hb'⟩)
    go_ret
    exact ⟨rfl, hbel.trans (hb'.mono hs1)⟩
  have hE' : ¬ (20 : Int) < (x.ents.length : Int) := by omega
  by_cases hR : 20 < x.runs.length
  · have hR' : (20 : Int) < (x.runs.length : Int) := by omega
    go_wp2_with (go_at_call 40; refine (awake13 _).mono ?_; rintro e w' ⟨rfl, hb'⟩)
    go_ret
    exact ⟨rfl, hbel.trans (hb'.mono hs1)⟩
  have hR' : ¬ (20 : Int) < (x.runs.length : Int) := by omega
  by_cases hT : 200 < x.target.size
  · have hT' : (200 : Int) < (x.target.size : Int) := by omega
    go_wp2_with (go_at_call 40; refine (awake13 _).mono ?_; rintro e w' ⟨rfl, hb'⟩)
    go_ret
    exact ⟨rfl, hbel.trans (hb'.mono hs1)⟩
  have hT' : ¬ (200 : Int) < (x.target.size : Int) := by omega
  have HX := Lib.hid hx
  have HIV := Lib.hid hiv1
  clear hiv hx
  rcases x with ⟨xn, xk, xl, xs, tg, es, rs⟩
  rcases v with ⟨EA, Ec, RA, Rc⟩
  simp only at *
  obtain ⟨ne, hne⟩ : ∃ k, es.length = k := ⟨_, rfl⟩
  obtain ⟨nr, hnr⟩ : ∃ k, rs.length = k := ⟨_, rfl⟩
  rw [hne] at q5 hE hE' hec hbx ⊢
  rw [hnr] at q6 hR hR' hrc hbx ⊢
  have HNE := Lib.hid hne
  have HNR := Lib.hid hnr
  clear hne hnr
  go_upto_region 4 with fail
  go_loopw [5] (fun v5 wr => ∃ j : Nat, j ≤ ne ∧ v5 = .int .i64 (j : Int) ∧ wr = w1 ∧ Hid (∀ i : Nat, (hi : i < es.length) → i < j → (es[i]).name.size ≤ 100)) (fun v5 _ => ne - (intOf v5).toNat)
  case atStart => exact ⟨0, by omega, rfl, rfl, fun i hi h => by omega⟩
  case round =>
    obtain ⟨j, hj, rfl, rfl, HJ⟩ := hrel
    by_cases hlt : j < ne
    · obtain ⟨b, off, hEA, hb, hc⟩ := HIV.out.e.at (i := j) (by rw [HNE.out]; exact hlt)
      simp only at hEA
      subst hEA
      have hltI : (j : Int) < (ne : Int) := by omega
      have c0 : wr.cell? ⟨b, off + j * 2, none⟩ = some (.string (es[j]'(by rw [HNE.out]; exact hlt)).name) := hc 0 _ rfl
      have HJ2 : Hid (∀ (h : (es[j]'(by rw [HNE.out]; exact hlt)).name.size ≤ 100), ∀ i : Nat, (hi : i < es.length) → i < j + 1 → (es[i]).name.size ≤ 100) := fun h i hi h2 => by
        by_cases e : i = j
        · subst e
          exact h
        · exact HJ.out i hi (by omega)
      have hj20 : j ≤ 20 := by omega
      clear hc HJ
      generalize es[j]'_ = en at *
      by_cases hL : 100 < en.name.size
      · have hLI : (100 : Int) < (en.name.size : Int) := by omega
        go_wp2_with (go_at_call 40; refine (awake13 _).mono ?_; rintro e w' ⟨rfl, hb'⟩)
        go_ret
        exact ⟨rfl, hbel.trans (hb'.mono hs1)⟩
      · have hLI : ¬ (100 : Int) < (en.name.size : Int) := by omega
        go_wp2_with fail
        go_roundw
        case rel => exact ⟨j + 1, by omega, by go_num, (by first | rfl | trivial), HJ2.out (by omega)⟩
        case measure => simp [intOf]; omega
    · obtain rfl : j = ne := by omega
      have hnm : ∀ e ∈ es, e.name.size ≤ 100 := fun e he => by
        obtain ⟨i, hi, rfl⟩ := List.mem_iff_getElem.1 he
        exact HJ.out i hi (by rw [← HNE.out]; exact hi)
      obtain ⟨nn, hneg⟩ : ∃ z, IntKind.i64.wrap (-no) = z := ⟨_, rfl⟩
      have hnn : I64 nn := by
        rw [← hneg, IntKind.wrap_i64]
        unfold I64
        omega
      have hzD : ∀ W : World, (zeroValue 71).run Try.prog W = .ok (.agg #[.int .i64 0, .int .i64 0, .int .i64 0, .int .i64 0, .int .i64 0, .int .i64 0, .string ByteArray.empty, .slice none 0 0, .slice none 0 0]) W := fun W => by kernel_rfl
      have hd0 := dds_lit (w := wr) [(⟨2, 0, ⟨xn, xk, xl, xs, tg, es, rs⟩⟩, ⟨EA, Ec, RA, Rc⟩), (⟨4, no, ino0⟩, ⟨none, 0, none, 0⟩), (⟨3, nn, ino0⟩, ⟨none, 0, none, 0⟩)] (fun p hp => by
        simp at hp
        rcases hp with rfl | rfl | rfl
        · exact HIV.out
        · exact iv_nil _
        · exact iv_nil _)
      have hl0 : (kDd.cells [((⟨2, 0, ⟨xn, xk, xl, xs, tg, es, rs⟩⟩ : Dd), (⟨EA, Ec, RA, Rc⟩ : IV)), (⟨4, no, ino0⟩, ⟨none, 0, none, 0⟩), (⟨3, nn, ino0⟩, ⟨none, 0, none, 0⟩)]).toArray = #[.int .i64 2, .int .i64 0, .int .i64 xn, .int .i64 xk, .int .i64 xl, .int .i64 xs, .string tg, .slice EA j Ec, .slice RA nr Rc, .int .i64 4, .int .i64 no, .int .i64 0, .int .i64 0, .int .i64 0, .int .i64 0, .string ByteArray.empty, .slice none 0 0, .slice none 0 0, .int .i64 3, .int .i64 nn, .int .i64 0, .int .i64 0, .int .i64 0, .int .i64 0, .string ByteArray.empty, .slice none 0 0, .slice none 0 0] := by
        rw [← HNE.out, ← HNR.out]
        rfl
      rw [hl0] at hd0
      have hd : DdsAt (wr.alloc (.cells #[.int .i64 2, .int .i64 0, .int .i64 xn, .int .i64 xk, .int .i64 xl, .int .i64 xs, .string tg, .slice EA j Ec, .slice RA nr Rc, .int .i64 4, .int .i64 no, .int .i64 0, .int .i64 0, .int .i64 0, .int .i64 0, .string ByteArray.empty, .slice none 0 0, .slice none 0 0, .int .i64 3, .int .i64 nn, .int .i64 0, .int .i64 0, .int .i64 0, .int .i64 0, .string ByteArray.empty, .slice none 0 0, .slice none 0 0] 71)) (some ⟨wr.heap.size, 0, none⟩) (wideDds ⟨xn, xk, xl, xs, tg, es, rs⟩ no nn) := hd0
      have hba := below_alloc wr (.cells #[.int .i64 2, .int .i64 0, .int .i64 xn, .int .i64 xk, .int .i64 xl, .int .i64 xs, .string tg, .slice EA j Ec, .slice RA nr Rc, .int .i64 4, .int .i64 no, .int .i64 0, .int .i64 0, .int .i64 0, .int .i64 0, .string ByteArray.empty, .slice none 0 0, .slice none 0 0, .int .i64 3, .int .i64 nn, .int .i64 0, .int .i64 0, .int .i64 0, .int .i64 0, .string ByteArray.empty, .slice none 0 0, .slice none 0 0] 71)
      clear hd0 hl0
      have hes := entsW_few es hnm
      have D : Hid (ddsW (wideDds ⟨xn, xk, xl, xs, tg, es, rs⟩ no nn) ≤ 3000) := by
        show _ ≤ _
        have e1 := HNE.out
        have e2 := HNR.out
        simp only [wideDds, ddsW, List.map_cons, List.map_nil, List.sum_cons, List.sum_nil, inoW]
        have e3 : entsW ino0.ents = 0 := rfl
        have e4 : ino0.target.size = 0 := rfl
        have e5 : ino0.runs.length = 0 := rfl
        rw [e3, e4, e5]
        omega
      have hok : ∀ d ∈ wideDds ⟨xn, xk, xl, xs, tg, es, rs⟩ no nn, DdOk d := fun d hd => by
        simp only [wideDds, List.mem_cons, List.not_mem_nil, or_false] at hd
        rcases hd with rfl | rfl | rfl
        · have hx := HX.out
          exact Or.inr ⟨rfl, rfl, ⟨hx.no, hx.kind, hx.links, hx.size, (by show tg.size < _; omega), (by show es.length < _; rw [HNE.out]; omega), (by show rs.length < _; rw [HNR.out]; omega), fun e he => ⟨(hx.ents e he).2, by have := hnm e he; omega⟩, fun r hr => hx.runs r hr⟩⟩
        · exact Or.inl ⟨by show numKind 4; decide, bn, rfl⟩
        · exact Or.inl ⟨by show numKind 3; decide, hnn, rfl⟩
      have P0 := rdDds_all _ hok
      have hle := putDds_le (wideDds ⟨xn, xk, xl, xs, tg, es, rs⟩ no nn)
      have K := Lib.hid (show (wideDds ⟨xn, xk, xl, xs, tg, es, rs⟩ no nn).length = 3 from rfl)
      generalize hW : wideDds ⟨xn, xk, xl, xs, tg, es, rs⟩ no nn = W at *
      obtain ⟨m, hm⟩ : ∃ m, (putDds W).length = m := ⟨_, rfl⟩
      rw [hm] at P0 hle
      have hm1 : m ≤ 80000 := by have := D.out; omega
      have HW := Lib.hid hW
      have L := Lib.hid hm
      have P := Lib.hid P0
      have D2 := Lib.hid (show ddsW W ≤ 4000000 from Nat.le_trans D.out (by decide))
      clear P0 hm hW hle hok hes D hnm
      go_upto_region 9 with (first
        | (go_at_call 44; refine (pk_deeds _ 3 3 W _ hd K.out D2.out L.out).mono ?_; rintro e w2 ⟨A1, c1, rfl, hc1, hown1, hb1⟩; have hb21 := hba.trans (hb1.mono hba.size))
        | (go_at_call 42; refine (pk_parse A1 m c1 (putDds W) _ hown1.read L.out hc1 (by omega) P.out K.out).mono ?_; rintro e w3 ⟨A2, c2, rfl, hc2, hat2, -, hb2⟩))
      have hb31 := hb21.trans (hb2.mono hb21.size)
      have hbx3 := hbx.below hb31
      have hiv3 := HIV.out.below hb31
      have hb30 := hbel.trans (hb31.mono hs1)
      rw [← HW.out] at hat2
      obtain ⟨b, off, v', hA2, hbl, hc0, hiv4⟩ := hat2.at (i := 0) (by show 0 < 3; decide)
      obtain ⟨b', off', v2, hA3, -, hc1', -⟩ := hat2.at (i := 1) (by show 1 < 3; decide)
      obtain ⟨b'', off'', v3, hA4, -, hc2', -⟩ := hat2.at (i := 2) (by show 2 < 3; decide)
      subst hA2
      cases hA3
      cases hA4
      have e7 : w3.cell? ⟨b, off + 7, none⟩ = some (.slice v'.EA j v'.Ec) := by
        have := hc0 7 (.slice v'.EA es.length v'.Ec) rfl
        rwa [HNE.out] at this
      have e8 : w3.cell? ⟨b, off + 8, none⟩ = some (.slice v'.RA nr v'.Rc) := by
        have := hc0 8 (.slice v'.RA rs.length v'.Rc) rfl
        rwa [HNR.out] at this
      have HS : Hid (∀ W : World, Below w3.heap.size w3 W → W.cell? ⟨w0.heap.size, 0, none⟩ = some (.int .i64 xn) ∧ W.cell? ⟨w0.heap.size, 1, none⟩ = some (.int .i64 xk) ∧ W.cell? ⟨w0.heap.size, 2, none⟩ = some (.int .i64 xl) ∧ W.cell? ⟨w0.heap.size, 3, none⟩ = some (.int .i64 xs) ∧ W.cell? ⟨w0.heap.size, 4, none⟩ = some (.string tg) ∧ W.cell? ⟨w0.heap.size, 5, none⟩ = some (.slice EA j Ec) ∧ W.cell? ⟨w0.heap.size, 6, none⟩ = some (.slice RA nr Rc) ∧ W.cell? ⟨b, off + 2, none⟩ = some (.int .i64 xn) ∧ W.cell? ⟨b, off + 3, none⟩ = some (.int .i64 xk) ∧ W.cell? ⟨b, off + 4, none⟩ = some (.int .i64 xl) ∧ W.cell? ⟨b, off + 5, none⟩ = some (.int .i64 xs) ∧ W.cell? ⟨b, off + 6, none⟩ = some (.string tg) ∧ W.cell? ⟨b, off + 7, none⟩ = some (.slice v'.EA j v'.Ec) ∧ W.cell? ⟨b, off + 8, none⟩ = some (.slice v'.RA nr v'.Rc) ∧ W.cell? ⟨b, off + 1, none⟩ = some (.int .i64 0) ∧ W.cell? ⟨b, off + 10, none⟩ = some (.int .i64 no) ∧ W.cell? ⟨b, off + 19, none⟩ = some (.int .i64 nn)) := fun W hB =>
        ⟨(hbx3.below hB).cell 0 _ rfl, (hbx3.below hB).cell 1 _ rfl, (hbx3.below hB).cell 2 _ rfl, (hbx3.below hB).cell 3 _ rfl, (hbx3.below hB).cell 4 _ rfl, (hbx3.below hB).cell 5 _ rfl, (hbx3.below hB).cell 6 _ rfl,
         (hB.cell hbl).trans (hc0 2 _ rfl), (hB.cell hbl).trans (hc0 3 _ rfl), (hB.cell hbl).trans (hc0 4 _ rfl), (hB.cell hbl).trans (hc0 5 _ rfl), (hB.cell hbl).trans (hc0 6 _ rfl), (hB.cell hbl).trans e7, (hB.cell hbl).trans e8, (hB.cell hbl).trans (hc0 1 _ rfl), (hB.cell hbl).trans (hc1' 1 _ rfl), (hB.cell hbl).trans (hc2' 1 _ rfl)⟩
      have HI3 := Lib.hid hiv3
      have HI4 : Hid (IvIs w3 v' ⟨xn, xk, xl, xs, tg, es, rs⟩) := hiv4
      have HH : Hid (∀ W : World, Below w3.heap.size w3 W → Calls Try.prog 50 #[.agg #[.int .i64 xn, .int .i64 xk, .int .i64 xl, .int .i64 xs, .string tg, .slice v'.EA j v'.Ec, .slice v'.RA nr v'.Rc], .agg #[.int .i64 xn, .int .i64 xk, .int .i64 xl, .int .i64 xs, .string tg, .slice EA j Ec, .slice RA nr Rc]] W fun e w' => e = .returned (.bool true) ∧ Below W.heap.size W w') := fun W hB => by
        have := help_inode ⟨xn, xk, xl, xs, tg, es, rs⟩ v' ⟨EA, Ec, RA, Rc⟩ W (HI4.out.below hB) (HI3.out.below hB) (by show es.length ≤ _; rw [HNE.out]; omega) (by show rs.length ≤ _; rw [HNR.out]; omega)
        simp only [HNE.out, HNR.out] at this
        exact this
      have hC : Below w3.heap.size w3 w3.drew := (Below.refl _ _).drew
      have nz : (no == no) = true := by simp
      have nz2 : (nn == nn) = true := by simp
      clear e7 e8 hat2 hc0 hc1' hc2' hiv4 hiv3 hbx3 hb31 hb21 hb2 hba hbx q0 q1 q2 q3 q4 q5 q6 hown1 hd hbel hzD HW L P D2 K HIV HX HJ
      go_region_held3 (fun W => W.cell? ⟨w0.heap.size, 0, none⟩ = some (.int .i64 xn) ∧ W.cell? ⟨w0.heap.size, 1, none⟩ = some (.int .i64 xk) ∧ W.cell? ⟨w0.heap.size, 2, none⟩ = some (.int .i64 xl) ∧ W.cell? ⟨w0.heap.size, 3, none⟩ = some (.int .i64 xs) ∧ W.cell? ⟨w0.heap.size, 4, none⟩ = some (.string tg) ∧ W.cell? ⟨w0.heap.size, 5, none⟩ = some (.slice EA j Ec) ∧ W.cell? ⟨w0.heap.size, 6, none⟩ = some (.slice RA nr Rc) ∧ W.cell? ⟨b, off + 2, none⟩ = some (.int .i64 xn) ∧ W.cell? ⟨b, off + 3, none⟩ = some (.int .i64 xk) ∧ W.cell? ⟨b, off + 4, none⟩ = some (.int .i64 xl) ∧ W.cell? ⟨b, off + 5, none⟩ = some (.int .i64 xs) ∧ W.cell? ⟨b, off + 6, none⟩ = some (.string tg) ∧ W.cell? ⟨b, off + 7, none⟩ = some (.slice v'.EA j v'.Ec) ∧ W.cell? ⟨b, off + 8, none⟩ = some (.slice v'.RA nr v'.Rc) ∧ W.cell? ⟨b, off + 1, none⟩ = some (.int .i64 0) ∧ W.cell? ⟨b, off + 10, none⟩ = some (.int .i64 no) ∧ W.cell? ⟨b, off + 19, none⟩ = some (.int .i64 nn))
        (exact HS.out _ hC)
        (first
          | (go_at_call 40; refine (awake13 _).mono ?_; rintro e w4 ⟨rfl, hx⟩; replace hC := hC.trans (hx.mono hC.size); clear hx)
          | (go_at_call 50; refine (HH.out _ hC).mono ?_; rintro e w5 ⟨rfl, hx⟩; replace hC := hC.trans (hx.mono hC.size); clear hx))
      go_wp2_with fail
      go_ret
      exact ⟨rfl, by have := hb30.trans (hC.mono hb30.size); simpa [World.drewN_drewN] using this⟩
end Go.Proofs.Ytdieeleaaejfhaa
