/- The chip of pages is given other bytes; a nil chip. -/
import Derived.Test.YtionjddcahgpkaaLoadP
import Derived.Test.YtionjddcahgpkaaNandTw
import Derived.ArgAppend
set_option linter.unusedVariables false
set_option maxRecDepth 100000
set_option linter.unusedSimpArgs false
namespace Go.Proofs.Ytionjddcahgpkaa
open Go.RowKit
open Go.Maps (Keyed)

set_option maxHeartbeats 400000 in
theorem bytes_equal (A : Option Addr) (n c : Nat) (l : List UInt8) (A' : Option Addr) (n' c' : Nat) (l' : List UInt8) (w : World) (hb : Byts w A l) (hn : n = l.length) (hb' : Byts w A' l') (hn' : n' = l'.length) :
    Calls Try.prog 56 #[.slice A n c, .slice A' n' c'] w fun e w' => e = .returned (.bool (l == l')) ∧ w = w' := by
  subst hn
  subst hn'
  go_enter Try.func56, Try.ntmps56
  go_wp2_with (first
    | (refine wpList_wanted (by rfl) fun K hK => wp_convert_to_string _ rfl rfl hb rfl (hK _ _ ?_))
    | (refine wpList_wanted (by rfl) fun K hK => wp_convert_to_string _ rfl rfl hb' rfl (hK _ _ ?_)))
  go_ret
  exact ⟨by simp [strOf], rfl⟩

/-- append: bytes behind a row that is the call's own, or full. -/
theorem step_append_rowF {ops : Array Oper} {o : Oper} {a : Act} {w : World} {K : Act → World → Prop} {Q : Exit → Act → World → Prop} {E : Prop} (hw : Region.wanted o (yielded ops a.tmps) = true) (s x : Operand)
    (ho : o.op = .call { callee := .builtin .append, args := #[s, x], argTypes := #[33, 33] })
    {B : Nat} {v : Value} {l m : List UInt8} {A : Option Addr} {n c : Nat} (hs : a.eval s = v) (hx : a.eval x = .slice A n c) (hr : RowF w B v l) (hm : Byts w A m) (hn : n = m.length) (h0 : 0 < m.length) (hll : 0 < l.length)
    (hlen : l.length + m.length ≤ 1000000) (hB : B ≤ w.heap.size)
    (h : ∀ A' c' w', Byts w' A' (l ++ m) → Below B w w' → K (a.put o.dst (.slice A' (l ++ m).length c')) w') :
    if Region.wanted o (yielded ops a.tmps) = true then Oper.wp Try.prog o a w K Q else E := by
  rcases hr with hown | ⟨q, rfl, hq, hqB, -⟩
  · refine step_append_byts hw s x ho hs hx hown hm hn (by omega) hB (fun v' w' h1 h2 _ => ?_)
    obtain ⟨A', c', rfl, -, hy, -⟩ := h1.byts
    exact h A' c' w' hy (grown_below h2 hB (fun k e => (hown.lt e).1))
  · rw [if_pos hw]
    obtain ⟨i0, hi, hz0, hz1, hz2⟩ := info_parts info_u8
    obtain ⟨b, off, hA, -⟩ := hm.at (k := 0) h0
    subst hA
    subst hn
    have holds : ∀ (w : World) (b off : Nat) (l : List UInt8), Byts w (some ⟨b, off, none⟩) l → ∀ j u, (cellsB l)[j]? = some u → w.cell? ((⟨b, off, none⟩ : Addr).add j) = some u := fun w b off l hb j u hu => by
      obtain ⟨hj, rfl⟩ := cellsB_get l j u hu
      rw [add_none]
      exact hb.cell hj
    obtain ⟨v', w', hrun, h1, h2⟩ := run_append_arg_grows (P := Try.prog) w 33 o.type 5 i0 (.int .u8 0) 1 1 Try.underlying33 hi hz0 hz1 hz2 rfl (by omega) ⟨q, 0, none⟩ l.length l.length (cellsB l) (by rw [cellsB_length]; omega) (holds w q 0 l hq.read) ⟨b, off, none⟩ m.length c (cellsB m) (by rw [cellsB_length]; omega) (holds w b off m hm) (by omega) (by unfold maxLen; omega) (by omega)
    have hown : Own w' w.heap.size v' (l ++ m) := by unfold Own; rw [cellsB_append, List.length_append]; exact h1
    obtain ⟨A', c', rfl, -, hy, -⟩ := hown.byts
    unfold Oper.wp execOp
    simp only [ho, resolve, invoke, builtin, Sem.run_bind, Sem.run_pure, Result.andThen_ok, List.map_toArray, List.map_cons, List.map_nil, hs, hx]
    rw [hrun]
    exact h A' c' w' hy (grown_below h2 hB (fun k e => by cases e))

theorem nand_program_nil (b p : Int) (v u : Value) (w : World) : Calls Try.prog 12 #[.pointer none, .int .i64 b, .int .i64 p, v, u] w fun e w' => e = .returned (.int .i64 2) ∧ w = w' := by
  go_enter Try.func12, Try.ntmps12
  go_wp2_with (go_at_call 40; refine (nand_ask_nil _ _ _).mono ?_; rintro e w' ⟨rfl, rfl⟩)
  go_ret
  exact ⟨rfl, rfl⟩
theorem nand_erase_nil (b : Int) (w : World) : Calls Try.prog 13 #[.pointer none, .int .i64 b] w fun e w' => e = .returned (.int .i64 2) ∧ w = w' := by
  go_enter Try.func13, Try.ntmps13
  go_wp2_with (go_at_call 40; refine (nand_ask_nil _ _ _).mono ?_; rintro e w' ⟨rfl, rfl⟩)
  go_ret
  exact ⟨rfl, rfl⟩
theorem nand_load_nil (v : Value) (w : World) : Calls Try.prog 36 #[.pointer none, v] w fun e w' => e = .returned (.int .i64 2) ∧ w = w' := by
  go_enter Try.func36, Try.ntmps36
  go_wp2_with fail
  go_ret
  exact ⟨rfl, rfl⟩
theorem nand_programmed_nil (b : Int) (w : World) : Calls Try.prog 14 #[.pointer none, .int .i64 b] w fun e w' => e = .returned (.int .i64 0) ∧ w = w' := by
  go_enter Try.func14, Try.ntmps14
  go_wp2_with fail
  go_ret
  exact ⟨rfl, rfl⟩
theorem nand_erases_nil (b : Int) (w : World) : Calls Try.prog 22 #[.pointer none, .int .i64 b] w fun e w' => e = .returned (.int .i64 0) ∧ w = w' := by
  go_enter Try.func22, Try.ntmps22
  go_wp2_with fail
  go_ret
  exact ⟨rfl, rfl⟩
theorem nand_power_nil (w : World) : Calls Try.prog 26 #[.pointer none] w fun e w' => e = .returned (.pointer none) ∧ w = w' := by
  go_enter Try.func26, Try.ntmps26
  go_wp2_with fail
  go_ret
  exact ⟨rfl, rfl⟩

section
variable {w : World} {L cb m1 m2 m3 sa sz gc gd ge : Nat} {pp : Option Addr} {N : Nat} {n : NSt}
theorem nand_sizes (hok : Geo.ok ⟨sa, sz, gc, gd, ge⟩) {T : Nat} (hT : gc * gd * (ge + 16) = T) : T ≤ 557056 ∧ IntKind.i64.wrap ((ge : Int) + 16) = ((ge + 16 : Nat) : Int) ∧ IntKind.i64.wrap ((gc : Int) * (gd : Int)) = ((gc * gd : Nat) : Int) ∧ IntKind.i64.wrap (((gc * gd : Nat) : Int) * ((ge + 16 : Nat) : Int)) = (T : Int) := by
  unfold Geo.ok at hok
  simp only at hok
  have h1 : gc * gd ≤ 64 * 32 := Nat.mul_le_mul (by omega) (by omega)
  have h2 : T ≤ 557056 := by rw [← hT]; exact Nat.mul_le_mul h1 (by omega : ge + 16 ≤ 272)
  refine ⟨h2, ?_, ?_, ?_⟩
  · rw [show (ge : Int) + 16 = ((ge + 16 : Nat) : Int) by omega]; exact IntWalk.i64_in _ (by omega)
  · rw [← Int.natCast_mul]; exact IntWalk.i64_in _ (by omega)
  · rw [← Int.natCast_mul, hT]; exact IntWalk.i64_in _ (by omega)

set_option maxHeartbeats 1000000 in
theorem nand_load_bad (h : NandC w L cb m1 m2 m3 pp ⟨sa, sz, gc, gd, ge⟩ N n) (A : Option Addr) (k c : Nat) (hk : (k : Int) ≠ ((gc * gd * (ge + 16) : Nat) : Int)) :
    Calls Try.prog 36 #[.pointer (some ⟨cb, 0, none⟩), .slice A k c] w fun e w' => e = .returned (.int .i64 1) ∧ ∃ d, w' = w.drewN d := by
  obtain ⟨T, hT⟩ : ∃ T, gc * gd * (ge + 16) = T := ⟨_, rfl⟩
  obtain ⟨h1, h2, h3, h4⟩ := nand_sizes h.ok hT
  rw [hT] at hk
  have c2 := h.blk.cell 2 _ rfl
  have c3 := h.blk.cell 3 _ rfl
  have c4 := h.blk.cell 4 _ rfl
  simp only at c2 c3 c4
  have hne : ((k : Int) != (T : Int)) = true := by rw [bne_iff_ne]; exact hk
  clear h hT hk
  generalize gc * gd = M at *
  generalize ge + 16 = Z at *
  go_enter Try.func36, Try.ntmps36
  go_upto_region 4 with fail
  go_quiet (fail)
  go_wp2_with fail
  go_ret
  exact ⟨rfl, nq, rfl⟩
theorem nand_wiped (h : NandC w L cb m1 m2 m3 pp ⟨sa, sz, gc, gd, ge⟩ N n) {n0 : NSt} (he : (⟨fun _ _ => blankP ⟨sa, sz, gc, gd, ge⟩, fun _ => 0, n.er⟩ : NSt) = n0) (hn : NOk ⟨sa, sz, gc, gd, ge⟩ n0 N) :
    NandC ((((w.setCell ⟨cb, 6, none⟩ (.map (some w.heap.size))).setCell ⟨cb, 7, none⟩ (.map (some (w.heap.size + 1)))).alloc (.map #[] 0)).alloc (.map #[] 0)) (w.heap.size + 1 + 1) cb w.heap.size (w.heap.size + 1) m3 pp ⟨sa, sz, gc, gd, ge⟩ N n0 ∧
      Only [cb] w ((((w.setCell ⟨cb, 6, none⟩ (.map (some w.heap.size))).setCell ⟨cb, 7, none⟩ (.map (some (w.heap.size + 1)))).alloc (.map #[] 0)).alloc (.map #[] 0)) := by
  subst he
  have hl := h.lt
  obtain ⟨h1, ⟨f, h2, h2'⟩, ⟨f3, h3, h3'⟩, ⟨f4, h4, h4'⟩, h5, h6, h7, h8, h9, h10⟩ := h
  have ho : Only [cb] w ((w.setCell ⟨cb, 6, none⟩ (.map (some w.heap.size))).setCell ⟨cb, 7, none⟩ (.map (some (w.heap.size + 1)))) := ((Only.refl [cb] w).setCell (Or.inl (by simp)) _).setCell (Or.inl (by simp)) _
  have hb : Blk ((w.setCell ⟨cb, 6, none⟩ (.map (some w.heap.size))).setCell ⟨cb, 7, none⟩ (.map (some (w.heap.size + 1)))) cb 71 [.int .i64 (sa : Int), .int .i64 (sz : Int), .int .i64 (gc : Int), .int .i64 (gd : Int), .int .i64 (ge : Int), .pointer pp, .map (some w.heap.size), .map (some (w.heap.size + 1)), .map (some m3)] := (h1.set 6 (.map (some w.heap.size))).set 7 (.map (some (w.heap.size + 1)))
  have hs : ((w.setCell ⟨cb, 6, none⟩ (.map (some w.heap.size))).setCell ⟨cb, 7, none⟩ (.map (some (w.heap.size + 1)))).heap.size = w.heap.size := by simp [World.setCell]
  have h4w := h4.only ho (by simp; omega)
  generalize (w.setCell ⟨cb, 6, none⟩ (.map (some w.heap.size))).setCell ⟨cb, 7, none⟩ (.map (some (w.heap.size + 1))) = W at *
  have k1 := MapIs.made W Try.prog 84
  have k2 := MapIs.made (W.alloc (.map #[] 0)) Try.prog 84
  rw [World.size_alloc] at k2
  rw [hs] at k1 k2
  have g1 : ∀ (W : World) (k n : Nat) (f : Value → Option Value) (o : Obj), MapIs W Try.prog 84 k n f → MapIs (W.alloc o) Try.prog 84 k n f := fun W k n f o h => h.stay (Below.heap_alloc _ _ _ h.lt)
  have l1 := hl cb (by simp)
  have l3 := hl m3 (by simp)
  refine ⟨⟨(hb.alloc _).alloc _, ⟨_, (g1 _ _ _ _ _ k1).mono (Nat.zero_le N), fun b p _ => Or.inl ⟨rfl, rfl⟩⟩, ⟨_, k2.mono (Nat.zero_le N), fun b _ => rfl⟩, ⟨f4, g1 _ _ _ _ _ (g1 _ _ _ _ _ h4w), h4'⟩, hn, h6, by omega, by omega, fun x hx => ?_, ?_⟩, (ho.alloc _).alloc _⟩
  · simp at hx
    omega
  · rw [World.size_alloc, World.size_alloc, hs]
    exact Nat.le_refl _

set_option maxHeartbeats 8000000 in
theorem nand_load (h : NandC w L cb m1 m2 m3 pp ⟨sa, sz, gc, gd, ge⟩ N n) (hN : N ≤ 1000000) (A : Option Addr) (T c : Nat) (x : List UInt8) (hy : Byts w A x) (hT : gc * gd * (ge + 16) = T) (hx : x.length = T) (hc : T ≤ c ∧ c ≤ maxLen) (hA : ∀ a, A = some a → 0 < x.length → a.block ≠ cb) :
    Calls Try.prog 36 #[.pointer (some ⟨cb, 0, none⟩), .slice A T c] w fun e w' => e = .returned (.int .i64 0) ∧ (∃ L' m1' m2' N', NandC w' L' cb m1' m2' m3 pp ⟨sa, sz, gc, gd, ge⟩ N' (ldTo gd ge x ⟨fun _ _ => blankP ⟨sa, sz, gc, gd, ge⟩, fun _ => 0, n.er⟩ (gc * gd)) ∧ w.heap.size ≤ m1' ∧ w.heap.size ≤ m2' ∧ w.heap.size ≤ L') ∧ Only [cb] w w' := by
  obtain ⟨w0, rfl⟩ : ∃ w0 : World, w0 = w := ⟨_, rfl⟩
  obtain ⟨h1, h2, h3, h4⟩ := nand_sizes h.ok hT
  have hgo := h.ok
  unfold Geo.ok at hgo
  simp only at hgo
  have hgd0 : 0 < gd := by omega
  have c2 := h.blk.cell 2 _ rfl
  have c3 := h.blk.cell 3 _ rfl
  have c4 := h.blk.cell 4 _ rfl
  simp only at c2 c3 c4
  have c6 := h.blk.cell 6 _ rfl
  have c7 := h.blk.cell 7 _ rfl
  have c6f := h.blk.frz 6
  have c7f := h.blk.frz 7
  have hcl := h.lt cb (by simp)
  have hmk := @run_makeMap Try.prog
  have hn0 : NOk ⟨sa, sz, gc, gd, ge⟩ ⟨fun _ _ => blankP ⟨sa, sz, gc, gd, ge⟩, fun _ => 0, n.er⟩ N := by
    have hb := NOk.new h.ok
    refine ⟨hb.sz, fun y => ?_, h.n.er, fun y hy => ⟨rfl, (h.n.out y hy).2⟩⟩
    show (0 : Int) ≤ 0 ∧ (0 : Int) ≤ (gd : Int)
    omega
  obtain ⟨n0, hn00⟩ : ∃ n0 : NSt, (⟨fun _ _ => blankP ⟨sa, sz, gc, gd, ge⟩, fun _ => 0, n.er⟩ : NSt) = n0 := ⟨_, rfl⟩
  have HOKQ : Hid (∀ q, q ≤ gc * gd → NOk ⟨sa, sz, gc, gd, ge⟩ (ldTo gd ge x ⟨fun _ _ => blankP ⟨sa, sz, gc, gd, ge⟩, fun _ => 0, n.er⟩ q) N) := fun q hq => ldTo_ok rfl rfl rfl hgd0 (by rw [hx, ← hT]) hn0 q hq
  rw [hn00] at hn0 HOKQ ⊢
  have HN0 := Lib.hid (And.intro hn00 hn0)
  have HH := Lib.hid h
  have HY := Lib.hid hy
  have HT := Lib.hid (And.intro hT (And.intro hx hA))
  obtain ⟨M, hM⟩ : ∃ M, gc * gd = M := ⟨_, rfl⟩
  obtain ⟨Z, hZ⟩ : ∃ Z, ge + 16 = Z := ⟨_, rfl⟩
  rw [hM] at h3 h4 HOKQ ⊢
  rw [hZ] at h2 h4
  have HMZ := Lib.hid (And.intro hM hZ)
  clear h hy hn00 hn0 hT hx hA hM hZ
  go_enter Try.func36, Try.ntmps36
  go_upto_region 4 with fail
  go_quiet (fail)
  go_upto_region 6 with fail
  have HQX : Hid (Below w0.heap.size w0 (w0.drewN nq)) := below_drewN (Below.refl _ _) nq
  obtain ⟨wq, hwq⟩ : ∃ wq, w0.drewN nq = wq := ⟨_, rfl⟩
  have d6 : (w0.drewN nq).cell? ⟨cb, 6, none⟩ = some (.map (some m1)) := c6
  have d7 : (w0.drewN nq).cell? ⟨cb, 7, none⟩ = some (.map (some m2)) := c7
  have d6f : (w0.drewN nq).frozen? ⟨cb, 6, none⟩ = false := c6f
  have d7f : (w0.drewN nq).frozen? ⟨cb, 7, none⟩ = false := c7f
  have hcq : cb < (w0.drewN nq).heap.size := hcl
  rw [hwq] at HQX d6 d7 d6f d7f hcq ⊢
  clear hwq c2 c3 c4 c6 c7 c6f c7f
  have hcn1 : cb ≠ wq.heap.size := by omega
  have hcn2 : cb ≠ wq.heap.size + 1 := by omega
  go_upto_region 7 with fail
  have hW := nand_wiped (HH.out.below HQX.out) HN0.out.1 HN0.out.2
  have hW1 := hW.1
  have hW2 : Only [cb] w0 _ := (Only.of_below HQX.out [cb]).trans hW.2
  clear hW d6 d7 d6f d7f hcn1 hcn2
  generalize ((((wq.setCell ⟨cb, 6, none⟩ (.map (some wq.heap.size))).setCell ⟨cb, 7, none⟩ (.map (some (wq.heap.size + 1)))).alloc (.map #[] 0)).alloc (.map #[] 0)) = w7 at *
  have hm1w : w0.heap.size ≤ wq.heap.size := HQX.out.size
  obtain ⟨L', hL'⟩ : ∃ L', wq.heap.size + 1 + 1 = L' := ⟨_, rfl⟩
  obtain ⟨k2, hk2⟩ : ∃ k2, wq.heap.size + 1 = k2 := ⟨_, rfl⟩
  obtain ⟨k1, hk1⟩ : ∃ k1, wq.heap.size = k1 := ⟨_, rfl⟩
  rw [hL', hk2, hk1] at hW1
  have HK := Lib.hid (And.intro hk1 (And.intro hk2 hL'))
  rw [hk1] at hm1w
  clear hk1 hk2 hL' hcq
  have c2 := hW1.blk.cell 2 _ rfl
  have c3 := hW1.blk.cell 3 _ rfl
  simp only at c2 c3
  have hgcM : Hid (∀ i, i < gc → i * gd + gd ≤ M) := fun i hi => by rw [← HMZ.out.1, ← Nat.succ_mul]; exact Nat.mul_le_mul_right _ hi
  have HRoom : Hid (∀ q, q < M → q * Z + Z ≤ T) := fun q hq => by rw [← HT.out.1, HMZ.out.1, HMZ.out.2, ← Nat.succ_mul]; exact Nat.mul_le_mul_right _ hq
  go_upto_region 8 with fail
  go_loopw [1, 46] (fun v1 v46 wr => ∃ (i r : Nat) (Aq : Option Addr) (cq : Nat), i ≤ gc ∧ v46 = .int .i64 (i : Int) ∧ v1 = .slice Aq r cq ∧ Hid (r + i * gd * Z = T) ∧ Hid (Byts w0 Aq (x.drop (i * gd * Z)) ∧ (r ≤ cq ∧ cq ≤ maxLen) ∧ ∀ a, Aq = some a → 0 < (x.drop (i * gd * Z)).length → a.block ≠ cb) ∧ NandC wr L' cb k1 k2 m3 pp ⟨sa, sz, gc, gd, ge⟩ (N + i * gd) (ldTo gd ge x n0 (i * gd)) ∧ Only [cb] w0 wr) (fun _ v46 _ => gc - (intOf v46).toNat)
  case atStart => exact ⟨0, T, A, c, Nat.zero_le _, rfl, rfl, (by show T + 0 * gd * Z = T; simp), (by show _ ∧ _; simp only [Nat.zero_mul, List.drop_zero]; exact ⟨HY.out, hc, HT.out.2.2⟩), (by simpa [ldTo] using hW1), hW2⟩
  case round =>
    clear hW1 hW2 c2 c3
    obtain ⟨i, r, Aq, cq, hi, rfl, rfl, hr, hB, hC, ho⟩ := hrel
    obtain ⟨wo, rfl⟩ : ∃ wo, wo = wr := ⟨_, rfl⟩
    by_cases hlt : i < gc
    · have hltI : (i : Int) < (gc : Int) := by omega
      have c3 := hC.blk.cell 3 _ rfl
      simp only at c3
      go_upto_region 11 with fail
      go_loopw [1, 54] (fun v1 v54 wr => ∃ (k r : Nat) (Aq : Option Addr) (cq : Nat), k ≤ gd ∧ v54 = .int .i64 (k : Int) ∧ v1 = .slice Aq r cq ∧ Hid (r + (i * gd + k) * Z = T) ∧ Hid (Byts w0 Aq (x.drop ((i * gd + k) * Z)) ∧ (r ≤ cq ∧ cq ≤ maxLen) ∧ ∀ a, Aq = some a → 0 < (x.drop ((i * gd + k) * Z)).length → a.block ≠ cb) ∧ NandC wr L' cb k1 k2 m3 pp ⟨sa, sz, gc, gd, ge⟩ (N + (i * gd + k)) (ldTo gd ge x n0 (i * gd + k)) ∧ Only [cb] w0 wr) (fun _ v54 _ => gd - (intOf v54).toNat)
      case atStart => exact ⟨0, r, Aq, cq, Nat.zero_le _, rfl, rfl, hr, hB, hC, ho⟩
      case round =>
        clear hr hB hC ho c3
        obtain ⟨k, r, Aq, cq, hk, rfl, rfl, hr, hB, hC, ho⟩ := hrel
        obtain ⟨wi, rfl⟩ : ∃ wi, wi = wr := ⟨_, rfl⟩
        by_cases hltk : k < gd
        · have hltI2 : (k : Int) < (gd : Int) := by omega
          obtain ⟨q, hq⟩ : ∃ q, i * gd + k = q := ⟨_, rfl⟩
          have hqM : q < M := by have := hgcM.out i hlt; omega
          have hroom := HRoom.out q hqM
          have hstep := ldTo_at (D := gd) (E := ge) (x := x) (n0 := n0) i k hltk
          rw [hq] at hr hB hC hstep
          have hrZ : Z ≤ r := by have := hr.out; omega
          have hxl : x.length = T := HT.out.2.1
          obtain ⟨ch, hch⟩ : ∃ ch, chunk x (ge + 16) q = ch := ⟨_, rfl⟩
          have hchl : ch.length = Z := by rw [← hch, ← HMZ.out.2]; exact chunk_len (M := M) (by rw [HT.out.2.1, ← HT.out.1, HMZ.out.1]) hqM
          rw [hch] at hstep
          have hZ17 : 32 ≤ Z ∧ Z ≤ 272 ∧ ge < Z ∧ 16 ≤ ge := by have := HMZ.out.2; omega
          obtain ⟨bq, oq, hAq, -⟩ := hB.out.1.at (k := 0) (by rw [List.length_drop]; omega)
          subst hAq
          have hdl : (x.drop (q * Z)).length = r := by rw [List.length_drop]; have := hr.out; omega
          have hbne : bq ≠ cb := hB.out.2.2 _ rfl (by omega)
          have hy8 : Byts w0 (some ⟨bq, oq, none⟩) ch := by
            have := hB.out.1.take Z
            rw [← hch, HMZ.out.2]
            exact this
          have hy1 : Byts w0 (some ⟨bq, oq + Z, none⟩) (x.drop ((q + 1) * Z)) := by
            have := hB.out.1.drop Z
            rw [List.drop_drop, show q * Z + Z = (q + 1) * Z by rw [Nat.add_mul, Nat.one_mul]] at this
            exact this
          have hcqr := hB.out.2.1
          have HS := Lib.hid (And.intro hstep (And.intro hchl (And.intro hy8 (And.intro hy1 (And.intro hq hdl)))))
          have i1 : (0 : Int) ≤ (Z : Int) := by omega
          have i2 : (Z : Int) ≤ (cq : Int) := by omega
          have i3 : (Z : Int) ≤ (r : Int) := by omega
          have i4 : (r : Int) ≤ (cq : Int) := by omega
          clear hstep hch hchl hy8 hy1 hq hdl
          go_upto_region 15 with fail
          have HB : Hid (∀ W, Calls Try.prog 57 #[.int .i64 (Z : Int)] W (Ret fun v w' => ∃ A1 c1, v = .slice A1 Z c1 ∧ Byts w' A1 (ffs Z) ∧ Below W.heap.size W w')) := fun W => (nand_blank Z W (by omega) (by omega)).mono fun e w1 h1 => by
            obtain ⟨v, rfl, hv, hb⟩ := h1
            obtain ⟨A1, c1, rfl, hc1, hy1, -⟩ := hv.byts
            rw [ffs_length]
            exact Ret.mk ⟨A1, c1, rfl, hy1, hb⟩
          obtain ⟨eq, heq⟩ : ∃ eq, (ch == ffs Z) = eq := ⟨_, rfl⟩
          have HE : Hid (∀ W A1 c1, Only [cb] w0 W → Byts W A1 (ffs Z) → Calls Try.prog 56 #[.slice (some ⟨bq, oq, none⟩) Z cq, .slice A1 Z c1] W fun e w' => e = .returned (.bool eq) ∧ W = w') := fun W A1 c1 hW h1 => by
            have := bytes_equal (some ⟨bq, oq, none⟩) Z cq ch A1 Z c1 (ffs Z) W (HS.out.2.2.1.only hW (fun a e _ => by cases e; simpa using hbne)) HS.out.2.1.symm h1 (ffs_length _).symm
            rw [heq] at this
            exact this
          have hrest : Hid (r - Z + (i * gd + (k + 1)) * Z = T ∧ Byts w0 (if cq = Z then some ⟨bq, oq, none⟩ else some ⟨bq, oq + Z, none⟩) (x.drop ((i * gd + (k + 1)) * Z)) ∧ (r - Z ≤ cq - Z ∧ cq - Z ≤ maxLen) ∧ ∀ a, (if cq = Z then some (⟨bq, oq, none⟩ : Addr) else some ⟨bq, oq + Z, none⟩) = some a → 0 < (x.drop ((i * gd + (k + 1)) * Z)).length → a.block ≠ cb) := by
            have e1 : i * gd + (k + 1) = q + 1 := by have := HS.out.2.2.2.2.1; omega
            rw [e1]
            have hr' := hr.out
            refine ⟨by rw [Nat.add_mul, Nat.one_mul]; omega, ?_, by omega, fun a e h0 => ?_⟩
            · split
              · left
                apply List.eq_nil_of_length_eq_zero
                rw [List.length_drop, Nat.add_mul, Nat.one_mul]
                omega
              · exact HS.out.2.2.2.1
            · split at e <;> (cases e; exact hbne)
          obtain ⟨Aq2, hAq2⟩ : ∃ Aq2, (if cq = Z then some (⟨bq, oq, none⟩ : Addr) else some ⟨bq, oq + Z, none⟩) = Aq2 := ⟨_, rfl⟩
          rw [hAq2] at hrest ⊢
          obtain ⟨r2, hr2⟩ : ∃ r2, r - Z = r2 := ⟨_, rfl⟩
          obtain ⟨cq2, hcq2⟩ : ∃ cq2, cq - Z = cq2 := ⟨_, rfl⟩
          rw [hr2, hcq2] at hrest ⊢
          have hi2 : i * gd + k = q := HS.out.2.2.2.2.1
          have h3k : Hid (i * gd + (k + 1) = q + 1) := by show _ = _; omega
          clear hAq2 hr2 hcq2 hi2 hB hr hxl hroom
          cases eq with
          | true =>
            have hne : ch = ffs Z := by simpa using heq
            have HND := Lib.hid (show ldTo gd ge x n0 (i * gd + (k + 1)) = ldTo gd ge x n0 q by
              rw [h3k.out, HS.out.1]
              unfold ldStep
              rw [if_pos (by rw [HMZ.out.2]; exact hne)])
            clear hne heq
            go_wp2_with (first
              | (go_at_call 57; (with_reducible refine (HB.out _).mono ?_); rintro e w2 ⟨v, rfl, A1, c1, rfl, hyb, hb2⟩; have ho2 := ho.trans (Only.of_below hb2 [cb]))
              | (go_at_call 56; (with_reducible refine (HE.out _ _ _ ho2 hyb).mono ?_); rintro e w' ⟨rfl, rfl⟩))
            go_roundw
            case rel => exact ⟨k + 1, r2, Aq2, cq2, by omega, by go_num, rfl, hrest.out.1, hrest.out.2, by rw [HND.out]; exact (hC.below hb2).mono (by have := h3k.out; omega), ho2⟩
            case measure => (simp [intOf] <;> omega)
          | false =>
            have hne : ¬ ch = ffs Z := by simpa using heq
            have HND := Lib.hid (show ldTo gd ge x n0 (i * gd + (k + 1)) = ⟨upP (ldTo gd ge x n0 q).pg (i : Int) (k : Int) (ch.take ge, ch.drop ge), up1 (ldTo gd ge x n0 q).nx (i : Int) ((k : Int) + 1), (ldTo gd ge x n0 q).er⟩ by
              rw [h3k.out, HS.out.1]
              unfold ldStep
              rw [if_neg (by rw [HMZ.out.2]; exact hne)])
            clear hne heq
            go_upto_region 16 with (first
              | (go_at_call 57; (with_reducible refine (HB.out _).mono ?_); rintro e w2 ⟨v, rfl, A1, c1, rfl, hyb, hb2⟩; have ho2 := ho.trans (Only.of_below hb2 [cb]))
              | (go_at_call 56; (with_reducible refine (HE.out _ _ _ ho2 hyb).mono ?_); rintro e w' ⟨rfl, rfl⟩))
            have hC2 := hC.below hb2
            clear hb2 hyb hC ho HB HE
            have d6 := hC2.blk.cell 6 _ rfl
            have d4 : w2.cell? ⟨cb, 4, none⟩ = some (.int .i64 (ge : Int)) := hC2.blk.cell 4 _ rfl
            have S0 := And.intro d6 d4
            have S1 : w2.drew.cell? ⟨cb, 6, none⟩ = some (.map (some k1)) ∧ w2.drew.cell? ⟨cb, 4, none⟩ = some (.int .i64 (ge : Int)) := S0
            have j1 : (0 : Int) ≤ (ge : Int) := by omega
            have j2 : (ge : Int) ≤ (cq : Int) := by omega
            have j3 : (ge : Int) ≤ (Z : Int) := by omega
            have j4 : ¬ cq = ge := by omega
            have HCL : Hid (∀ W (o m : Nat) (l : List UInt8) (cc : Nat), Only [cb] w0 W → Byts w0 (some ⟨bq, o, none⟩) l → l.length = m → m ≤ 1000 → Calls Try.prog 58 #[.slice (some ⟨bq, o, none⟩) m cc] W fun e w' => ∃ Aa ca, e = .returned (.slice Aa m ca) ∧ (m ≤ ca ∧ ca ≤ maxLen) ∧ Byts w' Aa l ∧ (∀ y, Aa = some y → W.heap.size ≤ y.block ∧ y.off = 0) ∧ Below W.heap.size W w') := fun W o m l cc hW hl hm hm2 => by
              refine (clone_byts (some ⟨bq, o, none⟩) m cc l W (hl.only hW (fun a e _ => by cases e; simpa using hbne)) hm.symm (by omega)).mono fun e w1 h1 => ?_
              obtain ⟨v, rfl, hv, hb⟩ := h1
              obtain ⟨Aa, ca, rfl, hca, hya, hxa⟩ := hv.byts
              rw [hm] at hca ⊢
              exact ⟨Aa, ca, rfl, hca, hya, fun y e => ⟨(hxa y e).1, congrArg Addr.off (hxa y e).2.1⟩, hb⟩
            have hchl := HS.out.2.1
            have HD1 : Hid (Byts w0 (some ⟨bq, oq, none⟩) (ch.take ge) ∧ (ch.take ge).length = ge) := ⟨HS.out.2.2.1.take ge, by rw [List.length_take, hchl]; omega⟩
            have HD2 : Hid (Byts w0 (some ⟨bq, oq + ge, none⟩) (ch.drop ge) ∧ (ch.drop ge).length = Z - ge) := ⟨HS.out.2.2.1.drop ge, by rw [List.length_drop, hchl]⟩
            have hX2 := (Below.refl w2.heap.size w2).drew
            have ho2d := ho2.drew
            have hwi : (Lit.int .i64 (i : Int)).wf = true := wfOf (by omega)
            have hwk : (Lit.int .i64 (k : Int)).wf = true := wfOf (by omega)
            obtain ⟨kl, hkey⟩ := place_key (i : Int) (k : Int) hwi hwk
            obtain ⟨kl2, hkey2⟩ := place_key (i : Int) 0 hwi (by decide)
            have hM64 : M ≤ 2048 := by rw [← HMZ.out.1]; exact Nat.mul_le_mul (by omega : gc ≤ 64) (by omega : gd ≤ 32)
            have hNm : N + q < maxLen := by unfold maxLen; omega
            have hZg : Z - ge ≤ 1000 := by omega
            have hge1 : ge ≤ 1000 := by omega
            have hdd := hC2.d1
            have hdd2 := hC2.d2
            clear hchl
            go_region_held3 (fun w' => w'.cell? ⟨cb, 6, none⟩ = some (.map (some k1)) ∧ w'.cell? ⟨cb, 4, none⟩ = some (.int .i64 (ge : Int)))
              (first | (with_reducible exact S0) | (with_reducible exact S1) | (with_reducible exact S3) | (with_reducible exact S4) | (with_reducible exact S5))
              (first
                | (go_at_call 58; (with_reducible refine (HCL.out _ oq ge (ch.take ge) cq ho2d HD1.out.1 HD1.out.2 hge1).mono ?_); rintro e w3 ⟨Aa, ca, rfl, hca, hya, hxa, hb3⟩; have hX3 := hX2.trans (hb3.mono hX2.size); have hC3 := hC2.below hX3; have ho3 := ho2.trans (Only.of_below hX3 [cb]); have S3 := And.intro (hC3.blk.cell 6 _ rfl) (show w3.cell? ⟨cb, 4, none⟩ = some (.int .i64 (ge : Int)) from hC3.blk.cell 4 _ rfl))
                | (go_at_call 58; (with_reducible refine (HCL.out _ (oq + ge) (Z - ge) (ch.drop ge) (cq - ge) ho3 HD2.out.1 HD2.out.2 hZg).mono ?_); rintro e w4 ⟨Ab, cb2, rfl, hcb, hyb, hxb, hb4⟩; have hX4 := hX3.trans (hb4.mono hX3.size); have hC4 := hC2.below hX4; have ho4 := ho2.trans (Only.of_below hX4 [cb]); have S4 := And.intro (hC4.blk.cell 6 _ rfl) (show w4.cell? ⟨cb, 4, none⟩ = some (.int .i64 (ge : Int)) from hC4.blk.cell 4 _ rfl); have hya4 := hya.below hb4; obtain ⟨f1, hm1, hf1⟩ := hC4.pages; obtain ⟨w5, hput, hm5, hg5⟩ := hm1.put (val := .agg #[.slice Aa ge ca, .slice Ab (Z - ge) cb2]) placeKeyed Try.underlying68 hNm hkey; have ho45 := Only.of_grown hg5; have hk5 := hC4.blk.only ho45 (by simp; omega); have S5 := And.intro (hk5.cell 6 _ rfl) (show w5.cell? ⟨cb, 4, none⟩ = some (.int .i64 (ge : Int)) from hk5.cell 4 _ rfl)))
            have e7 := hk5.cell 7 _ rfl
            obtain ⟨f2, hm2, hf2⟩ := hC4.cnts
            have hm25 := hm2.only ho45 (by simp; omega)
            have hLw : L' ≤ w2.heap.size := hC2.le
            have hwy : IntKind.i64.wrap ((k : Int) + 1) = (k : Int) + 1 := IntWalk.i64_in _ (by omega)
            have hs3 := hX3.size
            have HF := Lib.hid (And.intro hC4 (And.intro hya4 (And.intro hyb (And.intro hf1 (And.intro hm5 (And.intro hg5 (And.intro hf2 (And.intro ho4 (And.intro hxa hxb)))))))))
            clear S0 S1 S3 S4 S5 hC3 hC4 hX3 hX4 ho3 ho4 hya hya4 hyb hm1 hf1 hput hm5 hg5 hf2 hb3 hb4 hC2 ho2 ho2d hkey d4 d6 hk5 hm2 HCL hxa hxb
            go_wp2_with (at_mapUpdate; refine wpList_wanted (by rfl) fun K hK => wp_mapUpdate_is _ _ _ rfl placeKeyed Try.underlying69 rfl hm25 hNm rfl rfl hkey2 ?_; intro w6 hm6 hg6; refine hK _ _ ?_; clear hK K)
            go_roundw
            case rel =>
              obtain ⟨hC4, hya4, hyb, hf1, hm5, hg5, hf2, ho4, hxa, hxb⟩ := HF.out
              have hup1 : w0.heap.size ≤ k1 := hm1w
              have hup2 : w0.heap.size ≤ k2 := by have := HK.out.2.1; have := HK.out.1; omega
              have hnok := (HOKQ.out (q + 1) (by omega)).mono (Nat.le_add_right N (q + 1))
              rw [h3k.out] at HND
              rw [HND.out] at hnok
              have hput := hC4.put (i : Int) (k : Int) (ch.take ge) (ch.drop ge) hf1 hf2 hya4 (fun y e => ⟨Nat.le_trans hLw (hxa y e).1, (hxa y e).2⟩) (by rw [HD1.out.2]; exact hca) hyb (fun y e => ⟨Nat.le_trans hLw (Nat.le_trans hs3 (hxb y e).1), (hxb y e).2⟩) (by rw [HD2.out.2]; exact hcb) (by rw [HD1.out.2, HD2.out.2]; exact hm5) hg5 hm6 hg6 (by rw [Nat.add_assoc]; exact hnok)
              refine ⟨k + 1, r2, Aq2, cq2, by omega, by go_num, rfl, hrest.out.1, hrest.out.2, ?_, ?_⟩
              · rw [h3k.out, HND.out, ← Nat.add_assoc]
                exact hput
              · exact (ho4.trans' (Only.of_grown hg5) (fun y hy => by simp at hy; right; omega)).trans' (Only.of_grown hg6) (fun y hy => by simp at hy; right; omega)
            case measure => (simp [intOf] <;> omega)
        · obtain rfl : k = gd := by omega
          have hltI2 : ¬ (k : Int) < (k : Int) := by omega
          have e1 : i * k + k = (i + 1) * k := by rw [Nat.add_mul, Nat.one_mul]
          rw [e1] at hr hB hC
          go_wp2_with fail
          go_roundw
          case rel => exact ⟨i + 1, r, Aq, cq, by omega, by go_num, rfl, hr, hB, hC, ho⟩
          case measure => (simp [intOf] <;> omega)
    · obtain rfl : i = gc := by omega
      have hltI : ¬ (i : Int) < (i : Int) := by omega
      have hfin : ldTo gd ge x n0 (i * gd) = ldTo gd ge x n0 M := by rw [HMZ.out.1]
      rw [hfin] at hC
      have hk3 : w0.heap.size ≤ k1 ∧ w0.heap.size ≤ k2 ∧ w0.heap.size ≤ L' := by have := HK.out; omega
      have HF := Lib.hid (And.intro (And.intro hC hk3) ho)
      clear hC ho hr hB hk3
      go_wp2_with fail
      go_ret
      first | exact ⟨rfl, ⟨_, _, _, ⟨_, HF.out.1.1⟩, HF.out.1.2⟩, HF.out.2⟩ | exact ⟨rfl, ⟨_, _, _, _, HF.out.1⟩, HF.out.2⟩
end
end Go.Proofs.Ytionjddcahgpkaa
