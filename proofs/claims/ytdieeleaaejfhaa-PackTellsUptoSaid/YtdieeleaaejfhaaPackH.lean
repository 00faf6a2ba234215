/- Deeds held against deeds. -/
import Derived.Test.YtdieeleaaejfhaaParse
import Derived.Test.YtdieeleaaejfhaaHelp
import Derived.Laws.StructEq
set_option linter.unusedVariables false
set_option maxRecDepth 100000
set_option linter.unusedSimpArgs false
namespace Go.Proofs.Ytdieeleaaejfhaa
open Go.RowKit

set_option maxHeartbeats 1000000 in
theorem one_ent (en : Ent) (w : World) : Calls Try.prog 81 #[.agg #[.string en.name, .int .i64 en.no], .agg #[.string en.name, .int .i64 en.no]] w fun e w' => e = .returned (.bool true) ∧ Below w.heap.size w w' := by
  obtain ⟨w0, rfl⟩ : ∃ w0 : World, w0 = w := ⟨_, rfl⟩
  rcases en with ⟨name, no⟩
  simp only
  go_enter Try.func81, Try.ntmps81
  go_upto_region 1 with fail
  have hb1 := (Blk.new w0 [.string name, .int .i64 no] 80).alloc (.cells [.string name, .int .i64 no].toArray 80 (0, 0))
  have hb2 : Blk ((w0.alloc (.cells [.string name, .int .i64 no].toArray 80 (0, 0))).alloc (.cells [.string name, .int .i64 no].toArray 80 (0, 0))) (w0.heap.size + 1) 80 [.string name, .int .i64 no] := by
    have := Blk.new (w0.alloc (.cells [.string name, .int .i64 no].toArray 80 (0, 0))) [.string name, .int .i64 no] 80
    rw [World.size_alloc] at this
    exact this
  have hbl : Below w0.heap.size w0 ((w0.alloc (.cells [.string name, .int .i64 no].toArray 80 (0, 0))).alloc (.cells [.string name, .int .i64 no].toArray 80 (0, 0))) := (below_alloc w0 _).alloc (by rw [World.size_alloc]; omega) _
  generalize (w0.alloc (.cells [.string name, .int .i64 no].toArray 80 (0, 0))).alloc (.cells [.string name, .int .i64 no].toArray 80 (0, 0)) = w1 at *
  have c0 := hb1.cell 0 _ rfl
  have d0 := hb2.cell 0 _ rfl
  have c1 := hb1.cell 1 _ rfl
  have d1 := hb2.cell 1 _ rfl
  go_wp2_with fail
  go_ret
  exact ⟨rfl, hbl⟩

set_option maxHeartbeats 1000000 in
theorem one_run (en : RunT) (w : World) : Calls Try.prog 83 #[.agg #[.int .i64 en.f, .int .i64 en.a, .int .i64 en.c], .agg #[.int .i64 en.f, .int .i64 en.a, .int .i64 en.c]] w fun e w' => e = .returned (.bool true) ∧ Below w.heap.size w w' := by
  obtain ⟨w0, rfl⟩ : ∃ w0 : World, w0 = w := ⟨_, rfl⟩
  rcases en with ⟨f, a, c⟩
  simp only
  go_enter Try.func83, Try.ntmps83
  go_upto_region 1 with fail
  have hb1 := (Blk.new w0 [.int .i64 f, .int .i64 a, .int .i64 c] 109).alloc (.cells [.int .i64 f, .int .i64 a, .int .i64 c].toArray 109 (0, 0))
  have hb2 : Blk ((w0.alloc (.cells [.int .i64 f, .int .i64 a, .int .i64 c].toArray 109 (0, 0))).alloc (.cells [.int .i64 f, .int .i64 a, .int .i64 c].toArray 109 (0, 0))) (w0.heap.size + 1) 109 [.int .i64 f, .int .i64 a, .int .i64 c] := by
    have := Blk.new (w0.alloc (.cells [.int .i64 f, .int .i64 a, .int .i64 c].toArray 109 (0, 0))) [.int .i64 f, .int .i64 a, .int .i64 c] 109
    rw [World.size_alloc] at this
    exact this
  have hbl : Below w0.heap.size w0 ((w0.alloc (.cells [.int .i64 f, .int .i64 a, .int .i64 c].toArray 109 (0, 0))).alloc (.cells [.int .i64 f, .int .i64 a, .int .i64 c].toArray 109 (0, 0))) := (below_alloc w0 _).alloc (by rw [World.size_alloc]; omega) _
  generalize (w0.alloc (.cells [.int .i64 f, .int .i64 a, .int .i64 c].toArray 109 (0, 0))).alloc (.cells [.int .i64 f, .int .i64 a, .int .i64 c].toArray 109 (0, 0)) = w1 at *
  have c0 := hb1.cell 0 _ rfl
  have d0 := hb2.cell 0 _ rfl
  have c1 := hb1.cell 1 _ rfl
  have d1 := hb2.cell 1 _ rfl
  have c2 := hb1.cell 2 _ rfl
  have d2 := hb2.cell 2 _ rfl
  go_wp2_with fail
  go_ret
  exact ⟨rfl, hbl⟩

set_option maxHeartbeats 4000000 in
theorem same_ent (A : Option Addr) (n c : Nat) (A' : Option Addr) (c' : Nat) (es : List Ent) (w : World) (hb : kEnt.At w A es) (hn : es.length = n) (hb' : kEnt.At w A' es) (hl : n ≤ 1000000000000) :
    Calls Try.prog 80 #[.slice A n c, .slice A' n c', .func (.func 81) #[] #[]] w fun e w' => e = .returned (.bool true) ∧ Below w.heap.size w w' := by
  obtain ⟨w0, rfl⟩ : ∃ w0 : World, w0 = w := ⟨_, rfl⟩
  have HN := Lib.hid hn
  have hnn : ((n : Int) != (n : Int)) = false := by simp
  clear hn
  go_enter Try.func80, Try.ntmps80
  go_upto_region 4 with fail
  go_loopw [7] (fun v7 wr => ∃ j : Nat, j ≤ n ∧ v7 = .int .i64 (j : Int) ∧ Below w0.heap.size w0 wr) (fun v7 _ => n - (intOf v7).toNat)
  case atStart => exact ⟨0, Nat.zero_le _, rfl, Below.refl _ _⟩
  case round =>
    obtain ⟨j, hj, rfl, hbel⟩ := hrel
    by_cases hlt : j < n
    · have hltI : (j : Int) < (n : Int) := by omega
      have hjl : j < es.length := by rw [HN.out]; exact hlt
      obtain ⟨b, off, rfl, hbl, hcells⟩ := hb.at hjl
      obtain ⟨b', off', rfl, hbl', hcells'⟩ := hb'.at hjl
      have x0 : wr.cell? ⟨b, off + j * 2, none⟩ = some (.string (es[j]).name) := (hbel.cell hbl).trans (hcells 0 _ rfl)
      have y0 : wr.cell? ⟨b', off' + j * 2, none⟩ = some (.string (es[j]).name) := (hbel.cell hbl').trans (hcells' 0 _ rfl)
      have x1 : wr.cell? ⟨b, off + j * 2 + 1, none⟩ = some (.int .i64 (es[j]).no) := (hbel.cell hbl).trans (hcells 1 _ rfl)
      have y1 : wr.cell? ⟨b', off' + j * 2 + 1, none⟩ = some (.int .i64 (es[j]).no) := (hbel.cell hbl').trans (hcells' 1 _ rfl)
      clear hcells hcells'
      generalize es[j] = en at *
      go_upto_region 6 with fail
      have hq : ∀ W : World, Below w0.heap.size w0 W → (W.cell? ⟨b, off + j * 2, none⟩ = some (.string en.name) ∧ W.cell? ⟨b, off + j * 2 + 1, none⟩ = some (.int .i64 en.no) ∧ W.cell? ⟨b', off' + j * 2, none⟩ = some (.string en.name) ∧ W.cell? ⟨b', off' + j * 2 + 1, none⟩ = some (.int .i64 en.no)) := fun W hB => by
        refine ⟨?_, ?_, ?_, ?_⟩
        all_goals (first | exact (hB.cell hbl).trans ((hbel.cell hbl).symm.trans x0) | exact (hB.cell hbl').trans ((hbel.cell hbl').symm.trans y0) | exact (hB.cell hbl).trans ((hbel.cell hbl).symm.trans x1) | exact (hB.cell hbl').trans ((hbel.cell hbl').symm.trans y1))
      have HQ := Lib.hid hq
      have hbd := hbel.drew
      clear hq x0 y0 x1 y1
      go_region_held3 (fun w' => w'.cell? ⟨b, off + j * 2, none⟩ = some (.string en.name) ∧ w'.cell? ⟨b, off + j * 2 + 1, none⟩ = some (.int .i64 en.no) ∧ w'.cell? ⟨b', off' + j * 2, none⟩ = some (.string en.name) ∧ w'.cell? ⟨b', off' + j * 2 + 1, none⟩ = some (.int .i64 en.no))
        (first | (with_reducible exact HQ.out _ hbel) | (with_reducible exact HQ.out _ hbd) | (with_reducible exact HQ.out _ hb20))
        (first
          | (go_at_call 81; refine (one_ent en _).mono ?_; rintro e w2 ⟨rfl, hb2⟩; have hb20 := hbd.trans (hb2.mono hbd.size)))
      go_wp2_with fail
      go_roundw
      case rel => exact ⟨j + 1, by omega, by go_num, hb20⟩
      case measure => simp [intOf]; omega
    · obtain rfl : j = n := by omega
      go_wp2_with fail
      go_ret
      exact ⟨rfl, hbel⟩

set_option maxHeartbeats 4000000 in
theorem same_run (A : Option Addr) (n c : Nat) (A' : Option Addr) (c' : Nat) (es : List RunT) (w : World) (hb : kRun.At w A es) (hn : es.length = n) (hb' : kRun.At w A' es) (hl : n ≤ 1000000000000) :
    Calls Try.prog 82 #[.slice A n c, .slice A' n c', .func (.func 83) #[] #[]] w fun e w' => e = .returned (.bool true) ∧ Below w.heap.size w w' := by
  obtain ⟨w0, rfl⟩ : ∃ w0 : World, w0 = w := ⟨_, rfl⟩
  have HN := Lib.hid hn
  have hnn : ((n : Int) != (n : Int)) = false := by simp
  clear hn
  go_enter Try.func82, Try.ntmps82
  go_upto_region 4 with fail
  go_loopw [7] (fun v7 wr => ∃ j : Nat, j ≤ n ∧ v7 = .int .i64 (j : Int) ∧ Below w0.heap.size w0 wr) (fun v7 _ => n - (intOf v7).toNat)
  case atStart => exact ⟨0, Nat.zero_le _, rfl, Below.refl _ _⟩
  case round =>
    obtain ⟨j, hj, rfl, hbel⟩ := hrel
    by_cases hlt : j < n
    · have hltI : (j : Int) < (n : Int) := by omega
      have hjl : j < es.length := by rw [HN.out]; exact hlt
      obtain ⟨b, off, rfl, hbl, hcells⟩ := hb.at hjl
      obtain ⟨b', off', rfl, hbl', hcells'⟩ := hb'.at hjl
      have x0 : wr.cell? ⟨b, off + j * 3, none⟩ = some (.int .i64 (es[j]).f) := (hbel.cell hbl).trans (hcells 0 _ rfl)
      have y0 : wr.cell? ⟨b', off' + j * 3, none⟩ = some (.int .i64 (es[j]).f) := (hbel.cell hbl').trans (hcells' 0 _ rfl)
      have x1 : wr.cell? ⟨b, off + j * 3 + 1, none⟩ = some (.int .i64 (es[j]).a) := (hbel.cell hbl).trans (hcells 1 _ rfl)
      have y1 : wr.cell? ⟨b', off' + j * 3 + 1, none⟩ = some (.int .i64 (es[j]).a) := (hbel.cell hbl').trans (hcells' 1 _ rfl)
      have x2 : wr.cell? ⟨b, off + j * 3 + 2, none⟩ = some (.int .i64 (es[j]).c) := (hbel.cell hbl).trans (hcells 2 _ rfl)
      have y2 : wr.cell? ⟨b', off' + j * 3 + 2, none⟩ = some (.int .i64 (es[j]).c) := (hbel.cell hbl').trans (hcells' 2 _ rfl)
      clear hcells hcells'
      generalize es[j] = en at *
      go_upto_region 6 with fail
      have hq : ∀ W : World, Below w0.heap.size w0 W → (W.cell? ⟨b, off + j * 3, none⟩ = some (.int .i64 en.f) ∧ W.cell? ⟨b, off + j * 3 + 1, none⟩ = some (.int .i64 en.a) ∧ W.cell? ⟨b, off + j * 3 + 2, none⟩ = some (.int .i64 en.c) ∧ W.cell? ⟨b', off' + j * 3, none⟩ = some (.int .i64 en.f) ∧ W.cell? ⟨b', off' + j * 3 + 1, none⟩ = some (.int .i64 en.a) ∧ W.cell? ⟨b', off' + j * 3 + 2, none⟩ = some (.int .i64 en.c)) := fun W hB => by
        refine ⟨?_, ?_, ?_, ?_, ?_, ?_⟩
        all_goals (first | exact (hB.cell hbl).trans ((hbel.cell hbl).symm.trans x0) | exact (hB.cell hbl').trans ((hbel.cell hbl').symm.trans y0) | exact (hB.cell hbl).trans ((hbel.cell hbl).symm.trans x1) | exact (hB.cell hbl').trans ((hbel.cell hbl').symm.trans y1) | exact (hB.cell hbl).trans ((hbel.cell hbl).symm.trans x2) | exact (hB.cell hbl').trans ((hbel.cell hbl').symm.trans y2))
      have HQ := Lib.hid hq
      have hbd := hbel.drew
      clear hq x0 y0 x1 y1 x2 y2
      go_region_held3 (fun w' => w'.cell? ⟨b, off + j * 3, none⟩ = some (.int .i64 en.f) ∧ w'.cell? ⟨b, off + j * 3 + 1, none⟩ = some (.int .i64 en.a) ∧ w'.cell? ⟨b, off + j * 3 + 2, none⟩ = some (.int .i64 en.c) ∧ w'.cell? ⟨b', off' + j * 3, none⟩ = some (.int .i64 en.f) ∧ w'.cell? ⟨b', off' + j * 3 + 1, none⟩ = some (.int .i64 en.a) ∧ w'.cell? ⟨b', off' + j * 3 + 2, none⟩ = some (.int .i64 en.c))
        (first | (with_reducible exact HQ.out _ hbel) | (with_reducible exact HQ.out _ hbd) | (with_reducible exact HQ.out _ hb20))
        (first
          | (go_at_call 83; refine (one_run en _).mono ?_; rintro e w2 ⟨rfl, hb2⟩; have hb20 := hbd.trans (hb2.mono hbd.size)))
      go_wp2_with fail
      go_roundw
      case rel => exact ⟨j + 1, by omega, by go_num, hb20⟩
      case measure => simp [intOf]; omega
    · obtain rfl : j = n := by omega
      go_wp2_with fail
      go_ret
      exact ⟨rfl, hbel⟩

theorem plain_ent (A : Option Addr) (n c : Nat) (A' : Option Addr) (c' : Nat) (es : List Ent) (w : World) (hb : kEnt.At w A es) (hn : es.length = n) (hb' : kEnt.At w A' es) (hl : n ≤ 1000000000000) :
    Calls Try.prog 68 #[.slice A n c, .slice A' n c'] w fun e w' => e = .returned (.bool true) ∧ Below w.heap.size w w' := by
  have H := Lib.hid (same_ent A n c A' c' es w hb hn hb' hl)
  clear hn hb hb'
  go_enter Try.func68, Try.ntmps68
  go_wp2_with (go_at_call 80; refine H.out.mono ?_; rintro e w' ⟨rfl, hb1⟩)
  go_ret
  exact ⟨rfl, hb1⟩

theorem plain_run (A : Option Addr) (n c : Nat) (A' : Option Addr) (c' : Nat) (es : List RunT) (w : World) (hb : kRun.At w A es) (hn : es.length = n) (hb' : kRun.At w A' es) (hl : n ≤ 1000000000000) :
    Calls Try.prog 69 #[.slice A n c, .slice A' n c'] w fun e w' => e = .returned (.bool true) ∧ Below w.heap.size w w' := by
  have H := Lib.hid (same_run A n c A' c' es w hb hn hb' hl)
  clear hn hb hb'
  go_enter Try.func69, Try.ntmps69
  go_wp2_with (go_at_call 82; refine H.out.mono ?_; rintro e w' ⟨rfl, hb1⟩)
  go_ret
  exact ⟨rfl, hb1⟩

set_option maxHeartbeats 4000000 in
theorem help_inode (x : Ino) (v v' : IV) (w : World) (h : IvIs w v x) (h' : IvIs w v' x) (hl : x.ents.length ≤ 1000000000000) (hl' : x.runs.length ≤ 1000000000000) :
    Calls Try.prog 50 #[.agg #[.int .i64 x.no, .int .i64 x.kind, .int .i64 x.links, .int .i64 x.size, .string x.target, .slice v.EA x.ents.length v.Ec, .slice v.RA x.runs.length v.Rc], .agg #[.int .i64 x.no, .int .i64 x.kind, .int .i64 x.links, .int .i64 x.size, .string x.target, .slice v'.EA x.ents.length v'.Ec, .slice v'.RA x.runs.length v'.Rc]] w fun e w' => e = .returned (.bool true) ∧ Below w.heap.size w w' := by
  obtain ⟨w0, rfl⟩ : ∃ w0 : World, w0 = w := ⟨_, rfl⟩
  go_enter Try.func50, Try.ntmps50
  go_upto_region 1 with fail
  have hb1 := (Blk.new w0 [.int .i64 x.no, .int .i64 x.kind, .int .i64 x.links, .int .i64 x.size, .string x.target, .slice v.EA x.ents.length v.Ec, .slice v.RA x.runs.length v.Rc] 69).alloc (.cells [.int .i64 x.no, .int .i64 x.kind, .int .i64 x.links, .int .i64 x.size, .string x.target, .slice v'.EA x.ents.length v'.Ec, .slice v'.RA x.runs.length v'.Rc].toArray 69 (0, 0))
  have hb2 : Blk ((w0.alloc (.cells [.int .i64 x.no, .int .i64 x.kind, .int .i64 x.links, .int .i64 x.size, .string x.target, .slice v.EA x.ents.length v.Ec, .slice v.RA x.runs.length v.Rc].toArray 69 (0, 0))).alloc (.cells [.int .i64 x.no, .int .i64 x.kind, .int .i64 x.links, .int .i64 x.size, .string x.target, .slice v'.EA x.ents.length v'.Ec, .slice v'.RA x.runs.length v'.Rc].toArray 69 (0, 0))) (w0.heap.size + 1) 69 [.int .i64 x.no, .int .i64 x.kind, .int .i64 x.links, .int .i64 x.size, .string x.target, .slice v'.EA x.ents.length v'.Ec, .slice v'.RA x.runs.length v'.Rc] := by
    have := Blk.new (w0.alloc (.cells [.int .i64 x.no, .int .i64 x.kind, .int .i64 x.links, .int .i64 x.size, .string x.target, .slice v.EA x.ents.length v.Ec, .slice v.RA x.runs.length v.Rc].toArray 69 (0, 0))) [.int .i64 x.no, .int .i64 x.kind, .int .i64 x.links, .int .i64 x.size, .string x.target, .slice v'.EA x.ents.length v'.Ec, .slice v'.RA x.runs.length v'.Rc] 69
    rw [World.size_alloc] at this
    exact this
  have hbl : Below w0.heap.size w0 ((w0.alloc (.cells [.int .i64 x.no, .int .i64 x.kind, .int .i64 x.links, .int .i64 x.size, .string x.target, .slice v.EA x.ents.length v.Ec, .slice v.RA x.runs.length v.Rc].toArray 69 (0, 0))).alloc (.cells [.int .i64 x.no, .int .i64 x.kind, .int .i64 x.links, .int .i64 x.size, .string x.target, .slice v'.EA x.ents.length v'.Ec, .slice v'.RA x.runs.length v'.Rc].toArray 69 (0, 0))) := (below_alloc w0 _).alloc (by rw [World.size_alloc]; omega) _
  generalize (w0.alloc (.cells [.int .i64 x.no, .int .i64 x.kind, .int .i64 x.links, .int .i64 x.size, .string x.target, .slice v.EA x.ents.length v.Ec, .slice v.RA x.runs.length v.Rc].toArray 69 (0, 0))).alloc (.cells [.int .i64 x.no, .int .i64 x.kind, .int .i64 x.links, .int .i64 x.size, .string x.target, .slice v'.EA x.ents.length v'.Ec, .slice v'.RA x.runs.length v'.Rc].toArray 69 (0, 0)) = w1 at *
  have c0 := hb1.cell 0 _ rfl
  have d0 := hb2.cell 0 _ rfl
  have c1 := hb1.cell 1 _ rfl
  have d1 := hb2.cell 1 _ rfl
  have c2 := hb1.cell 2 _ rfl
  have d2 := hb2.cell 2 _ rfl
  have c3 := hb1.cell 3 _ rfl
  have d3 := hb2.cell 3 _ rfl
  have c4 := hb1.cell 4 _ rfl
  have d4 := hb2.cell 4 _ rfl
  have c5 := hb1.cell 5 _ rfl
  have d5 := hb2.cell 5 _ rfl
  have c6 := hb1.cell 6 _ rfl
  have d6 := hb2.cell 6 _ rfl
  have hI := h.below hbl
  have hI' := h'.below hbl
  have q0 : ∀ z : Int, (z == z) = true := by simp
  obtain ⟨ne, hne⟩ : ∃ k, x.ents.length = k := ⟨_, rfl⟩
  obtain ⟨nr, hnr⟩ : ∃ k, x.runs.length = k := ⟨_, rfl⟩
  rw [hne] at hl c5 d5 ⊢
  rw [hnr] at hl' c6 d6 ⊢
  have HNE := Lib.hid hne
  have HNR := Lib.hid hnr
  clear hne hnr
  go_wp2_with (first
    | (go_at_call 68; refine (plain_ent _ ne _ _ _ x.ents _ hI.e HNE.out hI'.e hl).mono ?_; rintro e w2 ⟨rfl, hbp⟩; have hI2 := hI.below hbp; have hI2' := hI'.below hbp; have c6b := (hb1.below hbp).cell 6 _ rfl; have d6b := (hb2.below hbp).cell 6 _ rfl; rw [HNR.out] at c6b d6b; have hbl2 := hbl.trans (hbp.mono hbl.size))
    | (go_at_call 69; refine (plain_run _ nr _ _ _ x.runs _ hI2.r HNR.out hI2'.r hl').mono ?_; rintro e w3 ⟨rfl, hbp3⟩))
  go_ret
  exact ⟨rfl, hbl2.trans (hbp3.mono hbl2.size)⟩

set_option maxHeartbeats 4000000 in
theorem help_deed (d : Dd) (v v' : IV) (w : World) (h : IvIs w v d.ino) (h' : IvIs w v' d.ino) (hl : d.ino.ents.length ≤ 1000000000000) (hl' : d.ino.runs.length ≤ 1000000000000) :
    Calls Try.prog 47 #[.agg #[.int .i64 d.kind, .int .i64 d.no, .int .i64 d.ino.no, .int .i64 d.ino.kind, .int .i64 d.ino.links, .int .i64 d.ino.size, .string d.ino.target, .slice v.EA d.ino.ents.length v.Ec, .slice v.RA d.ino.runs.length v.Rc], .agg #[.int .i64 d.kind, .int .i64 d.no, .int .i64 d.ino.no, .int .i64 d.ino.kind, .int .i64 d.ino.links, .int .i64 d.ino.size, .string d.ino.target, .slice v'.EA d.ino.ents.length v'.Ec, .slice v'.RA d.ino.runs.length v'.Rc]] w fun e w' => e = .returned (.bool true) ∧ Below w.heap.size w w' := by
  obtain ⟨w0, rfl⟩ : ∃ w0 : World, w0 = w := ⟨_, rfl⟩
  go_enter Try.func47, Try.ntmps47
  go_upto_region 1 with fail
  have hb1 := (Blk.new w0 [.int .i64 d.kind, .int .i64 d.no, .int .i64 d.ino.no, .int .i64 d.ino.kind, .int .i64 d.ino.links, .int .i64 d.ino.size, .string d.ino.target, .slice v.EA d.ino.ents.length v.Ec, .slice v.RA d.ino.runs.length v.Rc] 71).alloc (.cells [.int .i64 d.kind, .int .i64 d.no, .int .i64 d.ino.no, .int .i64 d.ino.kind, .int .i64 d.ino.links, .int .i64 d.ino.size, .string d.ino.target, .slice v'.EA d.ino.ents.length v'.Ec, .slice v'.RA d.ino.runs.length v'.Rc].toArray 71 (0, 0))
  have hb2 : Blk ((w0.alloc (.cells [.int .i64 d.kind, .int .i64 d.no, .int .i64 d.ino.no, .int .i64 d.ino.kind, .int .i64 d.ino.links, .int .i64 d.ino.size, .string d.ino.target, .slice v.EA d.ino.ents.length v.Ec, .slice v.RA d.ino.runs.length v.Rc].toArray 71 (0, 0))).alloc (.cells [.int .i64 d.kind, .int .i64 d.no, .int .i64 d.ino.no, .int .i64 d.ino.kind, .int .i64 d.ino.links, .int .i64 d.ino.size, .string d.ino.target, .slice v'.EA d.ino.ents.length v'.Ec, .slice v'.RA d.ino.runs.length v'.Rc].toArray 71 (0, 0))) (w0.heap.size + 1) 71 [.int .i64 d.kind, .int .i64 d.no, .int .i64 d.ino.no, .int .i64 d.ino.kind, .int .i64 d.ino.links, .int .i64 d.ino.size, .string d.ino.target, .slice v'.EA d.ino.ents.length v'.Ec, .slice v'.RA d.ino.runs.length v'.Rc] := by
    have := Blk.new (w0.alloc (.cells [.int .i64 d.kind, .int .i64 d.no, .int .i64 d.ino.no, .int .i64 d.ino.kind, .int .i64 d.ino.links, .int .i64 d.ino.size, .string d.ino.target, .slice v.EA d.ino.ents.length v.Ec, .slice v.RA d.ino.runs.length v.Rc].toArray 71 (0, 0))) [.int .i64 d.kind, .int .i64 d.no, .int .i64 d.ino.no, .int .i64 d.ino.kind, .int .i64 d.ino.links, .int .i64 d.ino.size, .string d.ino.target, .slice v'.EA d.ino.ents.length v'.Ec, .slice v'.RA d.ino.runs.length v'.Rc] 71
    rw [World.size_alloc] at this
    exact this
  have hbl : Below w0.heap.size w0 ((w0.alloc (.cells [.int .i64 d.kind, .int .i64 d.no, .int .i64 d.ino.no, .int .i64 d.ino.kind, .int .i64 d.ino.links, .int .i64 d.ino.size, .string d.ino.target, .slice v.EA d.ino.ents.length v.Ec, .slice v.RA d.ino.runs.length v.Rc].toArray 71 (0, 0))).alloc (.cells [.int .i64 d.kind, .int .i64 d.no, .int .i64 d.ino.no, .int .i64 d.ino.kind, .int .i64 d.ino.links, .int .i64 d.ino.size, .string d.ino.target, .slice v'.EA d.ino.ents.length v'.Ec, .slice v'.RA d.ino.runs.length v'.Rc].toArray 71 (0, 0))) := (below_alloc w0 _).alloc (by rw [World.size_alloc]; omega) _
  generalize (w0.alloc (.cells [.int .i64 d.kind, .int .i64 d.no, .int .i64 d.ino.no, .int .i64 d.ino.kind, .int .i64 d.ino.links, .int .i64 d.ino.size, .string d.ino.target, .slice v.EA d.ino.ents.length v.Ec, .slice v.RA d.ino.runs.length v.Rc].toArray 71 (0, 0))).alloc (.cells [.int .i64 d.kind, .int .i64 d.no, .int .i64 d.ino.no, .int .i64 d.ino.kind, .int .i64 d.ino.links, .int .i64 d.ino.size, .string d.ino.target, .slice v'.EA d.ino.ents.length v'.Ec, .slice v'.RA d.ino.runs.length v'.Rc].toArray 71 (0, 0)) = w1 at *
  have c0 := hb1.cell 0 _ rfl
  have d0 := hb2.cell 0 _ rfl
  have c1 := hb1.cell 1 _ rfl
  have d1 := hb2.cell 1 _ rfl
  have c2 := hb1.cell 2 _ rfl
  have d2 := hb2.cell 2 _ rfl
  have c3 := hb1.cell 3 _ rfl
  have d3 := hb2.cell 3 _ rfl
  have c4 := hb1.cell 4 _ rfl
  have d4 := hb2.cell 4 _ rfl
  have c5 := hb1.cell 5 _ rfl
  have d5 := hb2.cell 5 _ rfl
  have c6 := hb1.cell 6 _ rfl
  have d6 := hb2.cell 6 _ rfl
  have c7 := hb1.cell 7 _ rfl
  have d7 := hb2.cell 7 _ rfl
  have c8 := hb1.cell 8 _ rfl
  have d8 := hb2.cell 8 _ rfl
  have hI := h.below hbl
  have hI' := h'.below hbl
  have q0 : ∀ z : Int, (z == z) = true := by simp
  go_wp2_with (go_at_call 50; refine (help_inode d.ino v v' _ hI hI' hl hl').mono ?_; rintro e w2 ⟨rfl, hbp⟩)
  go_ret
  exact ⟨rfl, hbl.trans (hbp.mono hbl.size)⟩

set_option maxHeartbeats 8000000 in
theorem same_dds (A : Option Addr) (n c : Nat) (A' : Option Addr) (c' : Nat) (ds : List Dd) (w : World) (hb : DdsAt w A ds) (hn : ds.length = n) (hb' : DdsAt w A' ds) (hl : n ≤ 1000000000000) (hsz : ∀ d ∈ ds, d.ino.ents.length ≤ 1000000000000 ∧ d.ino.runs.length ≤ 1000000000000) :
    Calls Try.prog 46 #[.slice A n c, .slice A' n c', .func (.func 47) #[] #[]] w fun e w' => e = .returned (.bool true) ∧ Below w.heap.size w w' := by
  obtain ⟨w0, rfl⟩ : ∃ w0 : World, w0 = w := ⟨_, rfl⟩
  have HN := Lib.hid hn
  have hnn : ((n : Int) != (n : Int)) = false := by simp
  clear hn
  go_enter Try.func46, Try.ntmps46
  go_upto_region 4 with fail
  go_loopw [7] (fun v7 wr => ∃ j : Nat, j ≤ n ∧ v7 = .int .i64 (j : Int) ∧ Below w0.heap.size w0 wr) (fun v7 _ => n - (intOf v7).toNat)
  case atStart => exact ⟨0, Nat.zero_le _, rfl, Below.refl _ _⟩
  case round =>
    obtain ⟨j, hj, rfl, hbel⟩ := hrel
    by_cases hlt : j < n
    · have hltI : (j : Int) < (n : Int) := by omega
      have hjl : j < ds.length := by rw [HN.out]; exact hlt
      obtain ⟨b, off, v, rfl, hbl, hcells, hIv⟩ := hb.at hjl
      obtain ⟨b', off', v', rfl, hbl', hcells', hIv'⟩ := hb'.at hjl
      have hsj := hsz ds[j] (List.getElem_mem hjl)
      have x0 : w0.cell? ⟨b, off + j * 9, none⟩ = some (.int .i64 (ds[j]).kind) := hcells 0 _ rfl
      have x1 : w0.cell? ⟨b, off + j * 9 + 1, none⟩ = some (.int .i64 (ds[j]).no) := hcells 1 _ rfl
      have x2 : w0.cell? ⟨b, off + j * 9 + 2, none⟩ = some (.int .i64 (ds[j]).ino.no) := hcells 2 _ rfl
      have x3 : w0.cell? ⟨b, off + j * 9 + 3, none⟩ = some (.int .i64 (ds[j]).ino.kind) := hcells 3 _ rfl
      have x4 : w0.cell? ⟨b, off + j * 9 + 4, none⟩ = some (.int .i64 (ds[j]).ino.links) := hcells 4 _ rfl
      have x5 : w0.cell? ⟨b, off + j * 9 + 5, none⟩ = some (.int .i64 (ds[j]).ino.size) := hcells 5 _ rfl
      have x6 : w0.cell? ⟨b, off + j * 9 + 6, none⟩ = some (.string (ds[j]).ino.target) := hcells 6 _ rfl
      have x7 : w0.cell? ⟨b, off + j * 9 + 7, none⟩ = some (.slice v.EA (ds[j]).ino.ents.length v.Ec) := hcells 7 _ rfl
      have x8 : w0.cell? ⟨b, off + j * 9 + 8, none⟩ = some (.slice v.RA (ds[j]).ino.runs.length v.Rc) := hcells 8 _ rfl
      have y0 : w0.cell? ⟨b', off' + j * 9, none⟩ = some (.int .i64 (ds[j]).kind) := hcells' 0 _ rfl
      have y1 : w0.cell? ⟨b', off' + j * 9 + 1, none⟩ = some (.int .i64 (ds[j]).no) := hcells' 1 _ rfl
      have y2 : w0.cell? ⟨b', off' + j * 9 + 2, none⟩ = some (.int .i64 (ds[j]).ino.no) := hcells' 2 _ rfl
      have y3 : w0.cell? ⟨b', off' + j * 9 + 3, none⟩ = some (.int .i64 (ds[j]).ino.kind) := hcells' 3 _ rfl
      have y4 : w0.cell? ⟨b', off' + j * 9 + 4, none⟩ = some (.int .i64 (ds[j]).ino.links) := hcells' 4 _ rfl
      have y5 : w0.cell? ⟨b', off' + j * 9 + 5, none⟩ = some (.int .i64 (ds[j]).ino.size) := hcells' 5 _ rfl
      have y6 : w0.cell? ⟨b', off' + j * 9 + 6, none⟩ = some (.string (ds[j]).ino.target) := hcells' 6 _ rfl
      have y7 : w0.cell? ⟨b', off' + j * 9 + 7, none⟩ = some (.slice v'.EA (ds[j]).ino.ents.length v'.Ec) := hcells' 7 _ rfl
      have y8 : w0.cell? ⟨b', off' + j * 9 + 8, none⟩ = some (.slice v'.RA (ds[j]).ino.runs.length v'.Rc) := hcells' 8 _ rfl
      clear hcells hcells'
      generalize ds[j] = d at *
      go_upto_region 6 with fail
      have hq : ∀ W : World, Below w0.heap.size w0 W → (W.cell? ⟨b, off + j * 9, none⟩ = some (.int .i64 d.kind) ∧ W.cell? ⟨b, off + j * 9 + 1, none⟩ = some (.int .i64 d.no) ∧ W.cell? ⟨b, off + j * 9 + 2, none⟩ = some (.int .i64 d.ino.no) ∧ W.cell? ⟨b, off + j * 9 + 3, none⟩ = some (.int .i64 d.ino.kind) ∧ W.cell? ⟨b, off + j * 9 + 4, none⟩ = some (.int .i64 d.ino.links) ∧ W.cell? ⟨b, off + j * 9 + 5, none⟩ = some (.int .i64 d.ino.size) ∧ W.cell? ⟨b, off + j * 9 + 6, none⟩ = some (.string d.ino.target) ∧ W.cell? ⟨b, off + j * 9 + 7, none⟩ = some (.slice v.EA d.ino.ents.length v.Ec) ∧ W.cell? ⟨b, off + j * 9 + 8, none⟩ = some (.slice v.RA d.ino.runs.length v.Rc) ∧ W.cell? ⟨b', off' + j * 9, none⟩ = some (.int .i64 d.kind) ∧ W.cell? ⟨b', off' + j * 9 + 1, none⟩ = some (.int .i64 d.no) ∧ W.cell? ⟨b', off' + j * 9 + 2, none⟩ = some (.int .i64 d.ino.no) ∧ W.cell? ⟨b', off' + j * 9 + 3, none⟩ = some (.int .i64 d.ino.kind) ∧ W.cell? ⟨b', off' + j * 9 + 4, none⟩ = some (.int .i64 d.ino.links) ∧ W.cell? ⟨b', off' + j * 9 + 5, none⟩ = some (.int .i64 d.ino.size) ∧ W.cell? ⟨b', off' + j * 9 + 6, none⟩ = some (.string d.ino.target) ∧ W.cell? ⟨b', off' + j * 9 + 7, none⟩ = some (.slice v'.EA d.ino.ents.length v'.Ec) ∧ W.cell? ⟨b', off' + j * 9 + 8, none⟩ = some (.slice v'.RA d.ino.runs.length v'.Rc)) := fun W hB => by
        refine ⟨?_, ?_, ?_, ?_, ?_, ?_, ?_, ?_, ?_, ?_, ?_, ?_, ?_, ?_, ?_, ?_, ?_, ?_⟩
        all_goals (first | exact (hB.cell hbl).trans x0 | exact (hB.cell hbl').trans y0 | exact (hB.cell hbl).trans x1 | exact (hB.cell hbl').trans y1 | exact (hB.cell hbl).trans x2 | exact (hB.cell hbl').trans y2 | exact (hB.cell hbl).trans x3 | exact (hB.cell hbl').trans y3 | exact (hB.cell hbl).trans x4 | exact (hB.cell hbl').trans y4 | exact (hB.cell hbl).trans x5 | exact (hB.cell hbl').trans y5 | exact (hB.cell hbl).trans x6 | exact (hB.cell hbl').trans y6 | exact (hB.cell hbl).trans x7 | exact (hB.cell hbl').trans y7 | exact (hB.cell hbl).trans x8 | exact (hB.cell hbl').trans y8)
      have HQ := Lib.hid hq
      have hbd := hbel.drew
      have hIvd := hIv.below hbd
      have hIvd' := hIv'.below hbd
      clear hq x0 y0 x1 y1 x2 y2 x3 y3 x4 y4 x5 y5 x6 y6 x7 y7 x8 y8
      go_region_held3 (fun w' => w'.cell? ⟨b, off + j * 9, none⟩ = some (.int .i64 d.kind) ∧ w'.cell? ⟨b, off + j * 9 + 1, none⟩ = some (.int .i64 d.no) ∧ w'.cell? ⟨b, off + j * 9 + 2, none⟩ = some (.int .i64 d.ino.no) ∧ w'.cell? ⟨b, off + j * 9 + 3, none⟩ = some (.int .i64 d.ino.kind) ∧ w'.cell? ⟨b, off + j * 9 + 4, none⟩ = some (.int .i64 d.ino.links) ∧ w'.cell? ⟨b, off + j * 9 + 5, none⟩ = some (.int .i64 d.ino.size) ∧ w'.cell? ⟨b, off + j * 9 + 6, none⟩ = some (.string d.ino.target) ∧ w'.cell? ⟨b, off + j * 9 + 7, none⟩ = some (.slice v.EA d.ino.ents.length v.Ec) ∧ w'.cell? ⟨b, off + j * 9 + 8, none⟩ = some (.slice v.RA d.ino.runs.length v.Rc) ∧ w'.cell? ⟨b', off' + j * 9, none⟩ = some (.int .i64 d.kind) ∧ w'.cell? ⟨b', off' + j * 9 + 1, none⟩ = some (.int .i64 d.no) ∧ w'.cell? ⟨b', off' + j * 9 + 2, none⟩ = some (.int .i64 d.ino.no) ∧ w'.cell? ⟨b', off' + j * 9 + 3, none⟩ = some (.int .i64 d.ino.kind) ∧ w'.cell? ⟨b', off' + j * 9 + 4, none⟩ = some (.int .i64 d.ino.links) ∧ w'.cell? ⟨b', off' + j * 9 + 5, none⟩ = some (.int .i64 d.ino.size) ∧ w'.cell? ⟨b', off' + j * 9 + 6, none⟩ = some (.string d.ino.target) ∧ w'.cell? ⟨b', off' + j * 9 + 7, none⟩ = some (.slice v'.EA d.ino.ents.length v'.Ec) ∧ w'.cell? ⟨b', off' + j * 9 + 8, none⟩ = some (.slice v'.RA d.ino.runs.length v'.Rc))
        (first | (with_reducible exact HQ.out _ hbel) | (with_reducible exact HQ.out _ hbd) | (with_reducible exact HQ.out _ hb20))
        (first
          | (go_at_call 47; refine (help_deed d v v' _ hIvd hIvd' hsj.1 hsj.2).mono ?_; rintro e w2 ⟨rfl, hb2⟩; have hb20 := hbd.trans (hb2.mono hbd.size)))
      go_wp2_with fail
      go_roundw
      case rel => exact ⟨j + 1, by omega, by go_num, hb20⟩
      case measure => simp [intOf]; omega
    · obtain rfl : j = n := by omega
      go_wp2_with fail
      go_ret
      exact ⟨rfl, hbel⟩
end Go.Proofs.Ytdieeleaaejfhaa
