/- The reference's deeds as bytes. -/
import Derived.Test.YtdieeleaaejfhaaPackG
set_option linter.unusedVariables false
set_option maxRecDepth 100000
set_option linter.unusedSimpArgs false
namespace Go.Proofs.Ytdieeleaaejfhaa
open Go.RowKit

theorem rp_put (A : Option Addr) (n c : Nat) (l : List UInt8) (v : Nat) (k : Int) (w : World) (hb : Byts w A l) (hn : l.length = n) (hl : n ≤ 140737488355000) (hv : v < 18446744073709551616) (hk1 : -9223372036854775808 ≤ k) (hk2 : k ≤ 9223372036854775807)
    {L : List UInt8} {m : Nat} (hL : l ++ low v (putN k) = L) (hm : L.length = m) :
    Calls Try.prog 56 #[.slice A n c, .int .u64 (v : Int), .int .i64 k] w (Gives w L m) := by
  subst hn hL
  exact (ref_put A _ c l v k w hb rfl hl hv hk1 hk2).mono fun e w' h => gives_of hm h
theorem rp_putText (A : Option Addr) (n c : Nat) (l : List UInt8) (s : ByteArray) (w : World) (hb : Byts w A l) (hn : l.length = n) (hl : n + s.size ≤ 140737488350000)
    {L : List UInt8} {m : Nat} (hL : l ++ putT s = L) (hm : L.length = m) :
    Calls Try.prog 66 #[.slice A n c, .string s] w (Gives w L m) := by
  subst hn hL
  unfold putT at hm ⊢
  rw [← List.append_assoc] at hm ⊢
  exact (ref_putText A _ c l s w hb rfl hl).mono fun e w' h => gives_of hm h
set_option maxHeartbeats 400000 in
theorem rp_num (A : Option Addr) (n c : Nat) (l : List UInt8) (v : Int) (w : World) (hb : Byts w A l) (hn : l.length = n) (hl : n ≤ 140737488355000)
    {L : List UInt8} {m : Nat} (hL : l ++ putI v = L) (hm : L.length = m) :
    Calls Try.prog 65 #[.slice A n c, .int .i64 v] w (Gives w L m) := by
  obtain ⟨w0, rfl⟩ : ∃ w0 : World, w0 = w := ⟨_, rfl⟩
  have hu := uof_eq v
  have hult := uof_lt v
  obtain ⟨u, HU⟩ : ∃ u, Hid (uof v = u) := ⟨_, rfl⟩
  rw [HU.out] at hu hult
  have HL : Hid (l ++ low u (putN 8) = L) := by
    show _ = _
    rw [← hL, ← HU.out]
    rfl
  have HM := Lib.hid hm
  clear hL hm
  go_enter Try.func65, Try.ntmps65
  go_wp2_with (go_at_call 56; refine (rp_put A n c l u 8 _ hb hn hl hult (by decide) (by decide) HL.out HM.out).mono ?_; rintro e w6 ⟨A6, c6, rfl, hc6, hown6, hb6⟩)
  go_ret
  exact ⟨A6, c6, rfl, hc6, hown6, hb6⟩
theorem Blk.grownR {w w' : World} {b : Nat} {T : TypeId} {cs : List Value} {row : Option Nat} (h : Blk w b T cs) (hg : w.grownBy w' row) (hn : row ≠ some b) : Blk w' b T cs :=
  h.stay (hg.block b h.lt (fun e => hn e.symm))
theorem low1_byte (u : Nat) : low u 1 = [UInt8.ofNat u] := by
  show [UInt8.ofNat (u / 2 ^ (8 * 0))] = _
  simp
theorem u8_of (kd : Int) : IntKind.u8.wrap kd = ((UInt8.ofNat (uof kd)).toNat : Int) := by
  have h : ((UInt8.ofNat (uof kd)).toNat : Int) = ((uof kd % 256 : Nat) : Int) := by simp
  rw [h, IntKind.wrap_u8]
  unfold uof
  rw [IntKind.wrap_u64]
  omega

set_option maxHeartbeats 8000000 in
theorem ref_pack (A : Option Addr) (k c : Nat) (ds : List Dd) (w : World) (hd : DdsAt w A ds) (hk : ds.length = k) (hl : ddsW ds ≤ 4000000)
    {m : Nat} (hm : (putDds ds).length = m) :
    Calls Try.prog 45 #[.slice A k c] w (Gives w (putDds ds) m) := by
  obtain ⟨w0, rfl⟩ : ∃ w0 : World, w0 = w := ⟨_, rfl⟩
  have hs0 := Nat.le_refl w0.heap.size
  have HM := Lib.hid hm
  have HK := Lib.hid hk
  have hk2 := dds_le ds
  have hmb := putDds_le ds
  rw [hk] at hk2
  rw [hm] at hmb
  have hkb : k ≤ 400000 := by omega
  have HPW := Lib.hid (fun (j : Nat) (hj : j < ds.length) => (show (putDds (ds.take (j + 1))).length ≤ (putDds ds).length by
    have : putDds ds = putDds (ds.take (j + 1)) ++ putDds (ds.drop (j + 1)) := by rw [← putDds_append, List.take_append_drop]
    rw [this, List.length_append]; omega))
  clear hm hk hk2
  have hzI : ∀ W : World, (zeroValue 69).run Try.prog W = .ok (.agg #[.int .i64 0, .int .i64 0, .int .i64 0, .int .i64 0, .string ByteArray.empty, .slice none 0 0, .slice none 0 0]) W := fun W => by kernel_rfl
  have hzD : ∀ W : World, (zeroValue 71).run Try.prog W = .ok (.agg #[.int .i64 0, .int .i64 0, .int .i64 0, .int .i64 0, .int .i64 0, .int .i64 0, .string ByteArray.empty, .slice none 0 0, .slice none 0 0]) W := fun W => by kernel_rfl
  go_enter Try.func45, Try.ntmps45
  go_upto_region 3 with fail
  go_loopw [3, 4] (fun v3 v4 wr => ∃ (j : Nat) (A0 : Option Addr) (n0 c0 : Nat), j ≤ k ∧ v4 = .int .i64 (j : Int) ∧ v3 = .slice A0 n0 c0 ∧ n0 ≤ m ∧ (n0 ≤ c0 ∧ c0 ≤ maxLen) ∧ Hid ((putDds (ds.take j)).length = n0) ∧ Own wr w0.heap.size (.slice A0 n0 c0) (putDds (ds.take j)) ∧ Below w0.heap.size w0 wr) (fun _ v4 _ => k - (intOf v4).toNat)
  case atStart => exact ⟨0, none, 0, 0, Nat.zero_le _, rfl, rfl, Nat.zero_le _, ⟨Nat.le_refl _, Nat.zero_le _⟩, (by show (putDds (ds.take 0)).length = 0; rfl), Own.nil _ _, Below.refl _ _⟩
  case round =>
    obtain ⟨j, A0, n0, c0, hj, rfl, rfl, hn0, hc0, HLL, hown, hbel⟩ := hrel
    by_cases hlt : j < k
    · obtain ⟨wo, rfl⟩ : ∃ wo, wo = wr := ⟨_, rfl⟩
      have hltI : (j : Int) < (k : Int) := by omega
      have hjl : j < ds.length := by rw [HK.out]; exact hlt
      obtain ⟨b, off, v, hAe, hbl, hcells, hIv0⟩ := hd.at (i := j) hjl
      subst hAe
      have hIv := hIv0.below hbel
      have hsn : ds.take (j + 1) = ds.take j ++ [ds[j]] := by rw [List.take_succ_eq_append_getElem]
      have hcw : ∀ i u, (ddCells ds[j] v)[i]? = some u → wo.cell? ⟨b, off + j * 9 + i, none⟩ = some u := fun i u hu => (hbel.cell hbl).trans (hcells i u hu)
      have hpw := HPW.out j hjl
      rw [hsn, putDds_snoc, HM.out] at hpw
      rw [List.length_append, HLL.out] at hpw
      clear hcells
      generalize ds[j] = d at *
      rcases d with ⟨kd, no, x⟩
      have x0 : wo.cell? ⟨b, off + j * 9, none⟩ = some (.int .i64 kd) := hcw 0 _ rfl
      have x1 : wo.cell? ⟨b, off + j * 9 + 1, none⟩ = some (.int .i64 no) := hcw 1 _ rfl
      have x2 : wo.cell? ⟨b, off + j * 9 + 2, none⟩ = some (.int .i64 x.no) := hcw 2 _ rfl
      have x3 : wo.cell? ⟨b, off + j * 9 + 3, none⟩ = some (.int .i64 x.kind) := hcw 3 _ rfl
      have x4 : wo.cell? ⟨b, off + j * 9 + 4, none⟩ = some (.int .i64 x.links) := hcw 4 _ rfl
      have x5 : wo.cell? ⟨b, off + j * 9 + 5, none⟩ = some (.int .i64 x.size) := hcw 5 _ rfl
      have x6 : wo.cell? ⟨b, off + j * 9 + 6, none⟩ = some (.string x.target) := hcw 6 _ rfl
      have x7 : wo.cell? ⟨b, off + j * 9 + 7, none⟩ = some (.slice v.EA x.ents.length v.Ec) := hcw 7 _ rfl
      have x8 : wo.cell? ⟨b, off + j * 9 + 8, none⟩ = some (.slice v.RA x.runs.length v.Rc) := hcw 8 _ rfl
      have HSN := Lib.hid hsn
      clear hcw hsn
      go_upto_region 6 with fail
      have hbe := Blk.new wo [.int .i64 kd, .int .i64 no, .int .i64 x.no, .int .i64 x.kind, .int .i64 x.links, .int .i64 x.size, .string x.target, .slice v.EA x.ents.length v.Ec, .slice v.RA x.runs.length v.Rc] 71
      have hbe2 := below_alloc wo (.cells [.int .i64 kd, .int .i64 no, .int .i64 x.no, .int .i64 x.kind, .int .i64 x.links, .int .i64 x.size, .string x.target, .slice v.EA x.ents.length v.Ec, .slice v.RA x.runs.length v.Rc].toArray 71 (0, 0))
      generalize wo.alloc (.cells [.int .i64 kd, .int .i64 no, .int .i64 x.no, .int .i64 x.kind, .int .i64 x.links, .int .i64 x.size, .string x.target, .slice v.EA x.ents.length v.Ec, .slice v.RA x.runs.length v.Rc].toArray 71 (0, 0)) = w5 at *
      have hb50 := hbel.trans (hbe2.mono hbel.size)
      have hIv5 := hIv.below hbe2
      have hown5 := hown.below hbe2
      have hown5b := hown
      clear x0 x1 x2 x3 x4 x5 x6 x7 x8 hIv hown
      obtain ⟨kb, HKB⟩ : ∃ kb, Hid (UInt8.ofNat (uof kd) = kb) := ⟨_, rfl⟩
      have hk8 : IntKind.u8.wrap kd = (kb.toNat : Int) := by rw [u8_of, HKB.out]
      have hk8m : kd % 256 = (kb.toNat : Int) := by rw [← hk8, IntKind.wrap_u8]
      have d0 := hbe.cell 0 _ rfl
      have HM6 := Lib.hid (show (putDds (ds.take j) ++ [kb]).length = n0 + 1 by rw [List.length_append, HLL.out]; rfl)
      have HLA := Lib.hid (show (putDds (ds.take j)).length + [kb].length ≤ 140737488355328 by rw [HLL.out]; simp; omega)
      have hs50 := hb50.size
      have hownA := hown5.below (below_alloc w5 (.cells #[.int .u8 (kb.toNat : Int)] 5))
      have hlit : Byts (w5.alloc (.cells #[.int .u8 (kb.toNat : Int)] 5)) (some ⟨w5.heap.size, 0, none⟩) [kb] := byts_one w5 kb
      have hsA : w0.heap.size ≤ (w5.alloc (.cells #[.int .u8 (kb.toNat : Int)] 5)).heap.size := by rw [World.size_alloc]; omega
      go_upto_region 7 with (at_builtin; refine wpList_wanted (by rfl) fun K hK => wp_append_byts _ _ rfl rfl rfl hownA hlit rfl HLA.out hsA ?_; intro v6 w6 hown6 hg6 hz6; refine hK _ _ ?_; clear hK K)
      obtain ⟨A6, c6, rfl, hc6, -, -⟩ := hown6.byts
      rw [HM6.out] at hc6 hown6 ⊢
      have hb60 : Below w0.heap.size w0 w6 := (hb50.alloc hs50 _).grown hg6 hsA (fun g e => (hownA.lt e).1)
      have hs60 := hb60.size
      have hy6 := hown6.read
      have HPL : Hid ((putDds (ds.take (j + 1))).length ≤ m) := by show _ ≤ _; rw [← HM.out]; exact HPW.out j hjl
      have HKL := Lib.hid (show low (uof kd) 1 = [kb] by rw [low1_byte, HKB.out])
      have hbe6 : Blk w6 wo.heap.size 71 [.int .i64 kd, .int .i64 no, .int .i64 x.no, .int .i64 x.kind, .int .i64 x.links, .int .i64 x.size, .string x.target, .slice v.EA x.ents.length v.Ec, .slice v.RA x.runs.length v.Rc] := (hbe.below (below_alloc w5 (.cells #[.int .u8 (kb.toNat : Int)] 5))).grownR hg6 (fun e => by have := (hown5b.lt e).2; omega)
      have d0 := hbe6.cell 0 _ rfl
      have d1 := hbe6.cell 1 _ rfl
      have d2 := hbe6.cell 2 _ rfl
      have d3 := hbe6.cell 3 _ rfl
      have d4 := hbe6.cell 4 _ rfl
      have d5 := hbe6.cell 5 _ rfl
      have d6 := hbe6.cell 6 _ rfl
      have d7 := hbe6.cell 7 _ rfl
      have d8 := hbe6.cell 8 _ rfl
      have hIv6 : IvIs w6 v x := hIv0.below hb60
      clear hbe hbe2 hownA hlit hown5 hown5b hsA hg6 hz6 hIv5 hIv0 hk8 hk8m hb50 hs50 HLA hpw
      by_cases k1 : kd = 1
      · subst k1
        as_aux_lemma =>
          have HL9 := Lib.hid (show putDds (ds.take j) ++ [kb] ++ putI no = putDds (ds.take (j + 1)) by rw [HSN.out, putDds_snoc]; unfold putDd putRest; rw [if_pos (by decide : numKind 1), HKL.out]; simp)
          have HM9 := Lib.hid (show (putDds (ds.take (j + 1))).length = n0 + 9 by rw [← HL9.out, List.length_append, HM6.out, putI_length])
          have hpw' : n0 + 9 ≤ m := by rw [← HM9.out]; exact HPL.out
          go_wp2_with (go_at_call 65; refine (rp_num A6 (n0 + 1) c6 _ no _ hy6 HM6.out (by omega) HL9.out HM9.out).mono ?_; rintro e w7 ⟨A7, c7, rfl, hc7, hown7, hb7⟩)
          have hb70 := hb60.trans (hb7.mono hs60)
          have hown7' := hown7.mono (B' := w0.heap.size) hs60
          go_roundw
          case rel => exact ⟨j + 1, A7, n0 + 9, c7, by omega, by go_num, rfl, hpw', hc7, HM9.out, hown7', hb70⟩
          case measure => simp [intOf]; omega
      by_cases k3 : kd = 3
      · subst k3
        as_aux_lemma =>
          have HL9 := Lib.hid (show putDds (ds.take j) ++ [kb] ++ putI no = putDds (ds.take (j + 1)) by rw [HSN.out, putDds_snoc]; unfold putDd putRest; rw [if_pos (by decide : numKind 3), HKL.out]; simp)
          have HM9 := Lib.hid (show (putDds (ds.take (j + 1))).length = n0 + 9 by rw [← HL9.out, List.length_append, HM6.out, putI_length])
          have hpw' : n0 + 9 ≤ m := by rw [← HM9.out]; exact HPL.out
          go_wp2_with (go_at_call 65; refine (rp_num A6 (n0 + 1) c6 _ no _ hy6 HM6.out (by omega) HL9.out HM9.out).mono ?_; rintro e w7 ⟨A7, c7, rfl, hc7, hown7, hb7⟩)
          have hb70 := hb60.trans (hb7.mono hs60)
          have hown7' := hown7.mono (B' := w0.heap.size) hs60
          go_roundw
          case rel => exact ⟨j + 1, A7, n0 + 9, c7, by omega, by go_num, rfl, hpw', hc7, HM9.out, hown7', hb70⟩
          case measure => simp [intOf]; omega
      by_cases k4 : kd = 4
      · subst k4
        as_aux_lemma =>
          have HL9 := Lib.hid (show putDds (ds.take j) ++ [kb] ++ putI no = putDds (ds.take (j + 1)) by rw [HSN.out, putDds_snoc]; unfold putDd putRest; rw [if_pos (by decide : numKind 4), HKL.out]; simp)
          have HM9 := Lib.hid (show (putDds (ds.take (j + 1))).length = n0 + 9 by rw [← HL9.out, List.length_append, HM6.out, putI_length])
          have hpw' : n0 + 9 ≤ m := by rw [← HM9.out]; exact HPL.out
          go_wp2_with (go_at_call 65; refine (rp_num A6 (n0 + 1) c6 _ no _ hy6 HM6.out (by omega) HL9.out HM9.out).mono ?_; rintro e w7 ⟨A7, c7, rfl, hc7, hown7, hb7⟩)
          have hb70 := hb60.trans (hb7.mono hs60)
          have hown7' := hown7.mono (B' := w0.heap.size) hs60
          go_roundw
          case rel => exact ⟨j + 1, A7, n0 + 9, c7, by omega, by go_num, rfl, hpw', hc7, HM9.out, hown7', hb70⟩
          case measure => simp [intOf]; omega
      by_cases k2 : kd = 2
      · subst k2
        rcases x with ⟨xn, xk, xl, xs, tg, es, rs⟩
        rcases v with ⟨EA, Ec, RA, Rc⟩
        simp only at d2 d3 d4 d5 d6 d7 d8 hIv6
        obtain ⟨hE, hR, hec, hrc⟩ := hIv6
        simp only at hE hR hec hrc
        have hen := putEnts_ge es
        have HFIN : Hid (∀ L : List UInt8, L = putDds (ds.take j) ++ [kb] ++ putIno ⟨xn, xk, xl, xs, tg, es, rs⟩ → L = putDds (ds.take (j + 1))) := fun L h => by
          rw [h, HSN.out, putDds_snoc]
          unfold putDd putRest
          rw [if_neg (by decide : ¬ numKind 2), if_pos rfl, HKL.out]
          simp
        have hq := HPL.out
        rw [← HFIN.out _ rfl, List.length_append, HM6.out, putIno_length] at hq
        simp only at hq
        obtain ⟨ne, hne⟩ : ∃ q, es.length = q := ⟨_, rfl⟩
        obtain ⟨nr, hnr⟩ : ∃ q, rs.length = q := ⟨_, rfl⟩
        obtain ⟨le, hle⟩ : ∃ q, (putEnts es).length = q := ⟨_, rfl⟩
        rw [hne] at hec hen d7
        rw [hnr] at hrc hq d8
        rw [hle] at hq hen
        have HNE := Lib.hid hne
        have HNR := Lib.hid hnr
        have HLE := Lib.hid hle
        have hn0b : n0 ≤ 140737488000000 := by omega
        have hmb2 : m ≤ 100000000 := by omega
        obtain ⟨L0, hL0⟩ : ∃ L, putDds (ds.take j) ++ [kb] = L := ⟨_, rfl⟩
        rw [hL0] at HM6 HFIN hown6 hy6
        obtain ⟨n1, hn1⟩ : ∃ q, n0 + 1 = q := ⟨_, rfl⟩
        rw [hn1] at HM6 hown6 hq hc6 ⊢
        clear hne hnr hle hL0 HPL HKL HSN HLL
        go_upto_region 14 with fail
        have hbx := Blk.new w6 [.int .i64 xn, .int .i64 xk, .int .i64 xl, .int .i64 xs, .string tg, .slice EA ne Ec, .slice RA nr Rc] 69
        have hbl7 := below_alloc w6 (.cells [.int .i64 xn, .int .i64 xk, .int .i64 xl, .int .i64 xs, .string tg, .slice EA ne Ec, .slice RA nr Rc].toArray 69 (0, 0))
        generalize w6.alloc (.cells [.int .i64 xn, .int .i64 xk, .int .i64 xl, .int .i64 xs, .string tg, .slice EA ne Ec, .slice RA nr Rc].toArray 69 (0, 0)) = w7 at *
        have hb70 := hb60.trans (hbl7.mono hs60)
        have hs70 := hb70.size
        have hE7 := hE.below hbl7
        have hR7 := hR.below hbl7
        have hown7 := hown6.below hbl7
        have HQ := Lib.hid (fun (W : World) (h : Below w7.heap.size w7 W) => (⟨(hbx.below h).cell 0 _ rfl, (hbx.below h).cell 1 _ rfl, (hbx.below h).cell 2 _ rfl, (hbx.below h).cell 3 _ rfl, (hbx.below h).cell 4 _ rfl, (hbx.below h).cell 5 _ rfl, (hbx.below h).cell 6 _ rfl⟩ : W.cell? ⟨w6.heap.size, 0, none⟩ = some (.int .i64 xn) ∧ W.cell? ⟨w6.heap.size, 1, none⟩ = some (.int .i64 xk) ∧ W.cell? ⟨w6.heap.size, 2, none⟩ = some (.int .i64 xl) ∧ W.cell? ⟨w6.heap.size, 3, none⟩ = some (.int .i64 xs) ∧ W.cell? ⟨w6.heap.size, 4, none⟩ = some (.string tg) ∧ W.cell? ⟨w6.heap.size, 5, none⟩ = some (.slice EA ne Ec) ∧ W.cell? ⟨w6.heap.size, 6, none⟩ = some (.slice RA nr Rc)))
        have hC : Below w7.heap.size w7 w7.drew := (Below.refl _ _).drew
        have hy7 := (hown7.below hC).read
        have HM1 := Lib.hid (show (L0 ++ putI xn).length = n1 + 8 by rw [List.length_append, HM6.out, putI_length])
        have HM2 := Lib.hid (show (L0 ++ putI xn ++ putI xk).length = n1 + 16 by rw [List.length_append, HM1.out, putI_length])
        have HM3 := Lib.hid (show (L0 ++ putI xn ++ putI xk ++ putI xl).length = n1 + 24 by rw [List.length_append, HM2.out, putI_length])
        have HM4 := Lib.hid (show (L0 ++ putI xn ++ putI xk ++ putI xl ++ putI xs).length = n1 + 32 by rw [List.length_append, HM3.out, putI_length])
        clear d0 d1 d2 d3 d4 d5 d6 d7 d8 hE hR hown6 hy6 hbl7 hbe6 hb60 hs60 hbx
        go_region_held3 (fun W => W.cell? ⟨w6.heap.size, 0, none⟩ = some (.int .i64 xn) ∧ W.cell? ⟨w6.heap.size, 1, none⟩ = some (.int .i64 xk) ∧ W.cell? ⟨w6.heap.size, 2, none⟩ = some (.int .i64 xl) ∧ W.cell? ⟨w6.heap.size, 3, none⟩ = some (.int .i64 xs))
          (exact ⟨(HQ.out _ hC).1, (HQ.out _ hC).2.1, (HQ.out _ hC).2.2.1, (HQ.out _ hC).2.2.2.1⟩)
          (first
            | (go_at_call 65; (with_reducible refine (rp_num A6 n1 c6 L0 xn _ hy7 HM6.out (by omega) rfl HM1.out).mono ?_); rintro e w8 ⟨A8, c8, rfl, hc8, hown8, hb8⟩; replace hC := hC.trans (hb8.mono hC.size))
            | (go_at_call 65; (with_reducible refine (rp_num A8 (n1 + 8) c8 _ xk _ hown8.read HM1.out (by omega) rfl HM2.out).mono ?_); rintro e w9 ⟨A9, c9, rfl, hc9, hown9, hb9⟩; replace hC := hC.trans (hb9.mono hC.size))
            | (go_at_call 65; (with_reducible refine (rp_num A9 (n1 + 16) c9 _ xl _ hown9.read HM2.out (by omega) rfl HM3.out).mono ?_); rintro e w10 ⟨A10, c10, rfl, hc10, hown10, hb10⟩; replace hC := hC.trans (hb10.mono hC.size))
            | (go_at_call 65; (with_reducible refine (rp_num A10 (n1 + 24) c10 _ xs _ hown10.read HM3.out (by omega) rfl HM4.out).mono ?_); rintro e w11 ⟨A11, c11, rfl, hc11, hown11, hb11⟩; have hown11' := hown11.mono (B' := w0.heap.size) (Nat.le_trans hs70 hC.size); replace hC := hC.trans (hb11.mono hC.size)))
        clear hown7 hown8 hown9 hown10 hown11 hy7 hb8 hb9 hb10 hb11 hc8 hc9 hc10 hc6 HM1 HM2 HM3
        obtain ⟨L1, HL1⟩ : ∃ L, Hid (L0 ++ putI xn ++ putI xk ++ putI xl ++ putI xs = L) := ⟨_, rfl⟩
        rw [HL1.out] at HM4 hown11'
        replace hC := hC.drew
        have hy11 := (hown11'.below (below_drewN (Below.refl _ _) 1)).read
        have HM5 := Lib.hid (show (L1 ++ putT tg).length = n1 + 36 + tg.size by rw [List.length_append, HM4.out, putT_length]; omega)
        have HM6' := Lib.hid (show (L1 ++ putT tg ++ low ne 4).length = n1 + 40 + tg.size by rw [List.length_append, HM5.out, low_length]; omega)
        have hue : IntKind.u64.wrap (ne : Int) = (ne : Int) := IntWalk.u64_in _ (by omega)
        go_upto_region 15 with fail
        go_region_held3 (fun W => W.cell? ⟨w6.heap.size, 4, none⟩ = some (.string tg) ∧ W.cell? ⟨w6.heap.size, 5, none⟩ = some (.slice EA ne Ec))
          (exact ⟨(HQ.out _ hC).2.2.2.2.1, (HQ.out _ hC).2.2.2.2.2.1⟩)
          (first
            | (go_at_call 66; refine (rp_putText A11 (n1 + 32) c11 L1 tg _ hy11 HM4.out (by omega) rfl HM5.out).mono ?_; rintro e w12 ⟨A12, c12, rfl, hc12, hown12, hb12⟩; replace hC := hC.trans (hb12.mono hC.size))
            | (go_at_call 56; refine (rp_put A12 (n1 + 36 + tg.size) c12 _ ne 4 _ hown12.read HM5.out (by omega) (by omega) (by decide) (by decide) (L := L1 ++ putT tg ++ low ne 4) rfl HM6'.out).mono ?_; rintro e w13 ⟨A13, c13, rfl, hc13, hown13, hb13⟩; have hown13' := hown13.mono (B' := w0.heap.size) (Nat.le_trans hs70 hC.size); replace hC := hC.trans (hb13.mono hC.size)))
        clear hown11' hown12 hown13 hy11 hb12 hb13 hc11 hc12 HM4 HM5 hue
        obtain ⟨L3, HL3⟩ : ∃ L, Hid (L1 ++ putT tg ++ low ne 4 = L) := ⟨_, rfl⟩
        rw [HL3.out] at HM6' hown13'
        go_upto_block 3 with fail
        go_cut [3] (fun v3 w' => ∃ A5 c5 n5, v3 = .slice A5 n5 c5 ∧ n5 = n1 + 40 + tg.size + le ∧ (n5 ≤ c5 ∧ c5 ≤ maxLen) ∧ Own w' w0.heap.size (.slice A5 n5 c5) (L3 ++ putEnts es) ∧ Below w7.heap.size w7 w')
        case first =>
          go_upto_region 17 with fail
          go_loopw [3, 7] (fun v3 v7 wr => ∃ (i : Nat) (A0 : Option Addr) (n0 c0 : Nat), i ≤ ne ∧ v7 = .int .i64 (i : Int) ∧ v3 = .slice A0 n0 c0 ∧ n0 ≤ n1 + 40 + tg.size + le ∧ (n0 ≤ c0 ∧ c0 ≤ maxLen) ∧ Hid ((L3 ++ putEnts (es.take i)).length = n0) ∧ Own wr w0.heap.size (.slice A0 n0 c0) (L3 ++ putEnts (es.take i)) ∧ Below w7.heap.size w7 wr) (fun _ v7 _ => ne - (intOf v7).toNat)
          case atStart => exact ⟨0, A13, _, c13, Nat.zero_le _, rfl, rfl, by omega, hc13, (by show (L3 ++ putEnts (es.take 0)).length = _; rw [List.take_zero, show putEnts [] = [] from rfl, List.append_nil, HM6'.out]), (by rw [List.take_zero, show putEnts [] = [] from rfl, List.append_nil]; exact hown13'), hC⟩
          case round =>
            clear hC hown13'
            obtain ⟨i, A0, n0, c0, hi, rfl, rfl, hn0, hc0, HLL, hown, hC⟩ := hrel
            have hq5 := (HQ.out _ hC).2.2.2.2.2.1
            by_cases hlt2 : i < ne
            · have hltI2 : (i : Int) < (ne : Int) := by omega
              obtain ⟨b2, off2, hEA, hbl2, hcells2⟩ := hE7.at (i := i) (by rw [HNE.out]; exact hlt2)
              subst hEA
              have hsn2 : es.take (i + 1) = es.take i ++ [es[i]'(by rw [HNE.out]; exact hlt2)] := by rw [List.take_succ_eq_append_getElem]
              have htk := putEnts_take es (i + 1)
              have hcw2 : ∀ W : World, Below w7.heap.size w7 W → W.cell? ⟨b2, off2 + i * 2, none⟩ = some (.string (es[i]'(by rw [HNE.out]; exact hlt2)).name) ∧ W.cell? ⟨b2, off2 + i * 2 + 1, none⟩ = some (.int .i64 (es[i]'(by rw [HNE.out]; exact hlt2)).no) := fun W h => ⟨(h.cell hbl2).trans (hcells2 0 _ rfl), (h.cell hbl2).trans (hcells2 1 _ rfl)⟩
              rw [hsn2, putEnts_snoc, HLE.out] at htk
              clear hcells2
              generalize es[i]'_ = en at *
              rcases en with ⟨nm, eno⟩
              simp only at hcw2
              have HCW := Lib.hid hcw2
              have hl1 : (L3 ++ putEnts (es.take i) ++ putT nm).length = n0 + 4 + nm.size := by rw [List.length_append, HLL.out, putT_length]; omega
              have hl2 : (L3 ++ putEnts (es.take (i + 1))).length = n0 + 12 + nm.size := by rw [hsn2, putEnts_snoc, ← List.append_assoc, List.length_append, HLL.out, putEnt_length]; simp only; omega
              have hL2 : L3 ++ putEnts (es.take i) ++ putT nm ++ putI eno = L3 ++ putEnts (es.take (i + 1)) := by rw [hsn2, putEnts_snoc]; unfold putEnt; simp
              rw [List.length_append, putEnt_length] at htk
              simp only at htk
              have hn1x : n0 + 12 + nm.size ≤ n1 + 40 + tg.size + le := by
                have h1 := HLL.out
                rw [List.length_append, HM6'.out] at h1
                omega
              have HLa := Lib.hid hl1
              have HLb := Lib.hid hl2
              have HLc := Lib.hid hL2
              clear hsn2 htk hl1 hl2 hL2 hcw2
              have hn2 : n0 + nm.size ≤ 140737488350000 := by omega
              have hn3 : n0 + 4 + nm.size ≤ 140737488355000 := by omega
              go_upto_region 19 with fail
              have hyd := (hown.below (below_drewN (Below.refl _ _) 1)).read
              replace hC := hC.drew
              go_region_held3 (fun W => W.cell? ⟨w6.heap.size, 5, none⟩ = some (.slice (some ⟨b2, off2, none⟩) ne Ec) ∧ W.cell? ⟨b2, off2 + i * 2, none⟩ = some (.string nm) ∧ W.cell? ⟨b2, off2 + i * 2 + 1, none⟩ = some (.int .i64 eno))
                (exact ⟨(HQ.out _ hC).2.2.2.2.2.1, (HCW.out _ hC).1, (HCW.out _ hC).2⟩)
                (first
                  | (go_at_call 66; refine (rp_putText A0 n0 c0 _ nm _ hyd HLL.out hn2 rfl HLa.out).mono ?_; rintro e w14 ⟨A14, c14, rfl, hc14, hown14, hb14⟩; replace hC := hC.trans (hb14.mono hC.size))
                  | (go_at_call 65; refine (rp_num A14 (n0 + 4 + nm.size) c14 _ eno _ hown14.read HLa.out hn3 HLc.out HLb.out).mono ?_; rintro e w15 ⟨A15, c15, rfl, hc15, hown15, hb15⟩; have hown15' := hown15.mono (B' := w0.heap.size) (Nat.le_trans hs70 hC.size); replace hC := hC.trans (hb15.mono hC.size)))
              clear hown hown14 hown15 hyd hb14 hb15 hc14 hq5
              go_wp2_with fail
              go_roundw
              case rel => exact ⟨i + 1, A15, n0 + 12 + nm.size, c15, by omega, by go_num, rfl, hn1x, hc15, HLb.out, hown15', hC⟩
              case measure => simp [intOf]; omega
            · obtain rfl : i = ne := by omega
              have hlast : es.take i = es := by rw [← HNE.out, List.take_length]
              rw [hlast] at HLL hown
              have hn9 : n0 = n1 + 40 + tg.size + le := by
                have h1 := HLL.out
                rw [List.length_append, HM6'.out, HLE.out] at h1
                omega
              have HN9 := Lib.hid hn9
              clear hn9 hlast
              go_wp2_with fail
              go_meet
              exact ⟨A0, c0, n0, rfl, HN9.out, hc0, hown, hC⟩
        case rest =>
          clear hC hown13' hc13
          obtain ⟨A5, c5, n5, rfl, hn5, hc5, hown5, hC⟩ := hcut
          obtain ⟨w14, rfl⟩ : ∃ w14, w14 = wc := ⟨_, rfl⟩
          have HN5 := Lib.hid (show (L3 ++ putEnts es).length = n5 by rw [List.length_append, HM6'.out, HLE.out, hn5])
          have hn5b : n5 + 4 + 24 * nr ≤ m := by omega
          clear hn5
          obtain ⟨L4, HL4⟩ : ∃ L, Hid (L3 ++ putEnts es = L) := ⟨_, rfl⟩
          rw [HL4.out] at HN5 hown5
          have HM5 := Lib.hid (show (L4 ++ low nr 4).length = n5 + 4 by rw [List.length_append, HN5.out, low_length])
          have hq6 := (HQ.out _ hC).2.2.2.2.2.2
          have hur : IntKind.u64.wrap (nr : Int) = (nr : Int) := IntWalk.u64_in _ (by omega)
          have hs14 := hC.size
          go_upto_region 21 with (go_at_call 56; refine (rp_put A5 n5 c5 L4 nr 4 _ hown5.read HN5.out (by omega) (by omega) (by decide) (by decide) (L := L4 ++ low nr 4) rfl HM5.out).mono ?_; rintro e w15 ⟨A15, c15, rfl, hc15, hown15, hb15⟩)
          have hown15' := hown15.mono (B' := w0.heap.size) (Nat.le_trans hs70 hs14)
          replace hC := hC.trans (hb15.mono hs14)
          clear hown5 hown15 hb15 hur hq6 hc5 hs14
          obtain ⟨L5, HL5⟩ : ∃ L, Hid (L4 ++ low nr 4 = L) := ⟨_, rfl⟩
          rw [HL5.out] at HM5 hown15'
          go_upto_region 22 with fail
          go_loopw [3, 8] (fun v3 v8 wr => ∃ (i : Nat) (A0 : Option Addr) (n0 c0 : Nat), i ≤ nr ∧ v8 = .int .i64 (i : Int) ∧ v3 = .slice A0 n0 c0 ∧ n0 = n5 + 4 + 24 * i ∧ (n0 ≤ c0 ∧ c0 ≤ maxLen) ∧ Hid ((L5 ++ putRuns (rs.take i)).length = n0) ∧ Own wr w0.heap.size (.slice A0 n0 c0) (L5 ++ putRuns (rs.take i)) ∧ Below w7.heap.size w7 wr) (fun _ v8 _ => nr - (intOf v8).toNat)
          case atStart => exact ⟨0, A15, _, c15, Nat.zero_le _, rfl, rfl, by omega, hc15, (by show (L5 ++ putRuns (rs.take 0)).length = _; rw [List.take_zero, show putRuns [] = [] from rfl, List.append_nil, HM5.out]), (by rw [List.take_zero, show putRuns [] = [] from rfl, List.append_nil]; exact hown15'), hC⟩
          case round =>
            clear hC hown15'
            obtain ⟨i, A0, n0, c0, hi, rfl, rfl, hn0, hc0, HLL, hown, hC⟩ := hrel
            have hq6 := (HQ.out _ hC).2.2.2.2.2.2
            have HN0 := Lib.hid hn0
            have hn0m : n0 ≤ m := by rw [hn0]; omega
            clear hn0
            by_cases hlt2 : i < nr
            · have hltI2 : (i : Int) < (nr : Int) := by omega
              obtain ⟨b2, off2, hRA, hbl2, hcells2⟩ := hR7.at (i := i) (by rw [HNR.out]; exact hlt2)
              subst hRA
              have hsn2 : rs.take (i + 1) = rs.take i ++ [rs[i]'(by rw [HNR.out]; exact hlt2)] := by rw [List.take_succ_eq_append_getElem]
              have hcw2 : ∀ W : World, Below w7.heap.size w7 W → W.cell? ⟨b2, off2 + i * 3, none⟩ = some (.int .i64 (rs[i]'(by rw [HNR.out]; exact hlt2)).f) ∧ W.cell? ⟨b2, off2 + i * 3 + 1, none⟩ = some (.int .i64 (rs[i]'(by rw [HNR.out]; exact hlt2)).a) ∧ W.cell? ⟨b2, off2 + i * 3 + 2, none⟩ = some (.int .i64 (rs[i]'(by rw [HNR.out]; exact hlt2)).c) := fun W h => ⟨(h.cell hbl2).trans (hcells2 0 _ rfl), (h.cell hbl2).trans (hcells2 1 _ rfl), (h.cell hbl2).trans (hcells2 2 _ rfl)⟩
              clear hcells2
              generalize rs[i]'_ = en at *
              rcases en with ⟨rf, ra, rc⟩
              simp only at hcw2
              have HCW := Lib.hid hcw2
              have HLa := Lib.hid (show (L5 ++ putRuns (rs.take i) ++ putI rf).length = n0 + 8 by rw [List.length_append, HLL.out, putI_length])
              have HLb := Lib.hid (show (L5 ++ putRuns (rs.take i) ++ putI rf ++ putI ra).length = n0 + 16 by rw [List.length_append, HLa.out, putI_length])
              have HLc := Lib.hid (show L5 ++ putRuns (rs.take i) ++ putI rf ++ putI ra ++ putI rc = L5 ++ putRuns (rs.take (i + 1)) by rw [hsn2, putRuns_snoc]; unfold putRun; simp)
              have HLd := Lib.hid (show (L5 ++ putRuns (rs.take (i + 1))).length = n0 + 24 by rw [← HLc.out, List.length_append, HLb.out, putI_length])
              clear hsn2 hcw2
              go_upto_region 24 with fail
              have hyd := (hown.below (Below.refl _ _).drew).read
              replace hC := hC.drew
              go_region_held3 (fun W => W.cell? ⟨w6.heap.size, 6, none⟩ = some (.slice (some ⟨b2, off2, none⟩) nr Rc) ∧ W.cell? ⟨b2, off2 + i * 3, none⟩ = some (.int .i64 rf) ∧ W.cell? ⟨b2, off2 + i * 3 + 1, none⟩ = some (.int .i64 ra) ∧ W.cell? ⟨b2, off2 + i * 3 + 2, none⟩ = some (.int .i64 rc))
                (exact ⟨(HQ.out _ hC).2.2.2.2.2.2, (HCW.out _ hC).1, (HCW.out _ hC).2.1, (HCW.out _ hC).2.2⟩)
                (first
                  | (go_at_call 65; (with_reducible refine (rp_num A0 n0 c0 _ rf _ hyd HLL.out (by omega) rfl HLa.out).mono ?_); rintro e w16 ⟨A16, c16, rfl, hc16, hown16, hb16⟩; replace hC := hC.trans (hb16.mono hC.size))
                  | (go_at_call 65; (with_reducible refine (rp_num A16 (n0 + 8) c16 _ ra _ hown16.read HLa.out (by omega) rfl HLb.out).mono ?_); rintro e w17 ⟨A17, c17, rfl, hc17, hown17, hb17⟩; replace hC := hC.trans (hb17.mono hC.size))
                  | (go_at_call 65; (with_reducible refine (rp_num A17 (n0 + 16) c17 _ rc _ hown17.read HLb.out (by omega) HLc.out HLd.out).mono ?_); rintro e w18 ⟨A18, c18, rfl, hc18, hown18, hb18⟩; have hown18' := hown18.mono (B' := w0.heap.size) (Nat.le_trans hs70 hC.size); replace hC := hC.trans (hb18.mono hC.size)))
              clear hown hown16 hown17 hown18 hyd hb16 hb17 hb18 hc16 hc17 hq6
              go_wp2_with fail
              go_roundw
              case rel => exact ⟨i + 1, A18, n0 + 24, c18, by omega, by go_num, rfl, by rw [HN0.out]; omega, hc18, HLd.out, hown18', hC⟩
              case measure => simp [intOf]; omega
            · obtain rfl : i = nr := by omega
              have hlast : rs.take i = rs := by rw [← HNR.out, List.take_length]
              rw [hlast] at HLL hown
              clear hlast
              have hfin : L5 ++ putRuns rs = putDds (ds.take (j + 1)) := HFIN.out _ (by
                rw [← HL5.out, ← HL4.out, ← HL3.out, ← HL1.out, ← HNR.out, ← HNE.out]
                unfold putIno putHead
                simp)
              rw [hfin] at hown HLL
              have hb90 := hb70.trans (hC.mono hs70)
              clear hfin
              obtain ⟨w19, rfl⟩ : ∃ w19, w19 = wr := ⟨_, rfl⟩
              go_wp2_with fail
              go_roundw
              case rel => exact ⟨j + 1, A0, n0, c0, by omega, by go_num, rfl, hn0m, hc0, HLL.out, hown, hb90⟩
              case measure => simp [intOf]; omega
      · have HL9 := Lib.hid (show putDds (ds.take j) ++ [kb] = putDds (ds.take (j + 1)) by rw [HSN.out, putDds_snoc]; unfold putDd putRest; rw [if_neg (by unfold numKind; simp only; omega), if_neg k2, HKL.out]; simp)
        have HM9 := Lib.hid (show (putDds (ds.take (j + 1))).length = n0 + 1 by rw [← HL9.out]; exact HM6.out)
        have hpw' : n0 + 1 ≤ m := by rw [← HM9.out]; exact HPL.out
        rw [HL9.out] at hown6
        go_wp2_with fail
        go_roundw
        case rel => exact ⟨j + 1, A6, n0 + 1, c6, by omega, by go_num, rfl, hpw', hc6, HM9.out, hown6, hb60⟩
        case measure => simp [intOf]; omega
    · obtain rfl : j = k := by omega
      have hlast : ds.take j = ds := by rw [← HK.out, List.take_length]
      rw [hlast] at HLL hown
      have hm9 : n0 = m := by rw [← HLL.out, HM.out]
      subst hm9
      go_wp2_with fail
      go_ret
      exact ⟨A0, c0, rfl, hc0, hown, hbel⟩
end Go.Proofs.Ytdieeleaaejfhaa
