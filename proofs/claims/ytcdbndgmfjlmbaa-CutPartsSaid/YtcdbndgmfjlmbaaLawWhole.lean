/- The walk of CutWhole. -/
import Derived.Test.YtcdbndgmfjlmbaaLawCut
import Derived.Test.YtcdbndgmfjlmbaaZeros
import Derived.Test.YtcdbndgmfjlmbaaSplice
import Derived.Deep.RegionHeld3
import Derived.IntWalk
set_option linter.unusedVariables false
namespace Go.Proofs.Ytcdbndgmfjlmbaa
open Go.RowKit

theorem pcs_get {o n pg : Nat} (ho : o ≤ 1000) (hn : n ≤ 1000) (hpg : 0 < pg) {j : Nat} (hj : j < (pcs (o : Int) (n : Int) (pg : Int)).length) :
    0 < n ∧ j < countN o (o + n) pg ∧ (pcs (o : Int) (n : Int) (pg : Int))[j] = pieceN o (o + n) pg j := by
  by_cases h : n = 0
  · exfalso
    unfold pcs at hj
    rw [if_pos (by omega)] at hj
    simp at hj
  · have e : pcs (o : Int) (n : Int) (pg : Int) = piecesN o (o + n) pg := by unfold pcs; rw [if_neg (by omega)]; simp
    have hj2 := hj
    rw [e, piecesN_length] at hj2
    refine ⟨by omega, hj2, ?_⟩
    simp [e, piecesN]

theorem pcs_end {o n pg : Nat} (ho : o ≤ 1000) (hn : n ≤ 1000) (hpg : 0 < pg) : offN o (o + n) pg (pcs (o : Int) (n : Int) (pg : Int)).length = o + n := by
  by_cases h : n = 0
  · subst h
    unfold offN; omega
  · have e : pcs (o : Int) (n : Int) (pg : Int) = piecesN o (o + n) pg := by unfold pcs; rw [if_neg (by omega)]; simp
    rw [e, piecesN_length, offN_end hpg (by omega)]

theorem wrap_small (n : Nat) (h : n ≤ 100000) : wrap64 (n : Int) = n := by unfold wrap64; omega
theorem size_eq (d pg sz dp : Nat) (h : d * pg = dp) (h1 : dp + pg = sz) (h2 : sz ≤ 800) (h3 : d ≤ 800) : wrap64 (wrap64 (wrap64 (d : Int) * (pg : Int)) + (pg : Int)) = (sz : Int) := by
  rw [wrap_small d (by omega), ← Int.natCast_mul, h, wrap_small dp (by omega), ← Int.natCast_add, h1, wrap_small sz (by omega)]

theorem whole_step (x0 l XL S R : List UInt8) (o k q pg f t m : Nat) (hXL : splice x0 o (l.take k) = XL) (hS : (XL.take (q + pg)).drop q = S) (hR : l.drop k = R)
    (h1 : f + m = t) (h2 : q + f = o + k) (h3 : t ≤ pg) (h4 : q + pg ≤ x0.length) (h5 : k + m ≤ l.length) (h6 : o + l.length ≤ x0.length) :
    XL.take q ++ (layL S (f : Int) (t : Int) R).take (x0.length - q) ++ XL.drop (q + min (layL S (f : Int) (t : Int) R).length (x0.length - q)) = splice x0 o (l.take (k + m)) := by
  have hxl : XL.length = x0.length := by rw [← hXL]; exact splice_length _ _ _ (by rw [List.length_take]; omega)
  have hsl : S.length = pg := by rw [← hS]; simp; omega
  have hrl : R.length = l.length - k := by rw [← hR]; simp
  have e1 : layL S (f : Int) (t : Int) R = splice S f (R.take m) := by
    unfold layL splice
    rw [if_pos (by omega), List.length_take]
    have : ((t : Int) - (f : Int)).toNat = m := by omega
    have h7 : (f : Int).toNat = f := by omega
    simp only [this, h7]
    rw [Nat.min_comm]
  have e2 : (splice S f (R.take m)).length = pg := by rw [splice_length _ _ _ (by rw [List.length_take]; omega), hsl]
  rw [e1, e2, List.take_of_length_le (l := splice S f (R.take m)) (by omega), Nat.min_eq_left (by omega)]
  have e3 : XL.take q ++ splice S f (R.take m) ++ XL.drop (q + pg) = splice XL q (splice S f (R.take m)) := by
    rw [← e2]; rfl
  rw [e3, ← hS, splice_part XL q pg f (R.take m) (by rw [List.length_take]; omega) (by omega), h2, ← hXL, ← hR]
  exact splice_more x0 l o k m h5 h6

set_option maxRecDepth 100000 in
set_option maxHeartbeats 4000000 in
theorem cutWhole_walk {w : World} (off : Int) (woff : (Lit.int .i64 off).wf = true) (page : Int) (wpage : (Lit.int .i64 page).wf = true)
    (A : Option Addr) (c : Nat) (l : List UInt8) (hcap : l.length ≤ c ∧ c ≤ maxLen) (hb : Byts w A l) (hl : l.length ≤ 140737488351232)
    (A' : Option Addr) (c' : Nat) (l' : List UInt8) (hcap' : l'.length ≤ c' ∧ c' ≤ maxLen) (hb' : Byts w A' l') (hl' : l'.length ≤ 140737488351232) :
    Calls Try.prog 8 #[.int .i64 off, .int .i64 page, .slice A l.length c, .slice A' l'.length c'] w fun e w' => e = .returned (.bool true) ∧ Below w.heap.size w w' := by
  clear woff wpage
  obtain ⟨w0, rfl⟩ : ∃ w0 : World, w0 = w := ⟨_, rfl⟩
  have hs0 := Nat.le_refl w0.heap.size
  by_cases h1 : (400 : Int) < l.length
  · go_enter Try.func8, Try.ntmps8
    go_wp2_with (go_at_call 19; refine (awake21 _).mono ?_; rintro e w' ⟨rfl, hbel⟩)
    go_ret
    exact ⟨rfl, hbel⟩
  by_cases h2 : (1000 : Int) < l'.length
  · go_enter Try.func8, Try.ntmps8
    go_wp2_with (go_at_call 19; refine (awake21 _).mono ?_; rintro e w' ⟨rfl, hbel⟩)
    go_ret
    exact ⟨rfl, hbel⟩
  obtain ⟨o, ho, hol⟩ : ∃ i : Nat, wrap64 ((IntKind.u64.wrap off).tmod 300) = (i : Int) ∧ i < 300 := mod_len off 300 (by decide) (by decide)
  obtain ⟨p, hp, hpl⟩ : ∃ i : Nat, wrap64 ((IntKind.u64.wrap page).tmod 64) = (i : Int) ∧ i < 64 := mod_len page 64 (by decide) (by decide)
  obtain ⟨pg, hpg⟩ : ∃ x, p + 1 = x := ⟨_, rfl⟩
  have hpg1 : (1 : Int) + (p : Int) = (pg : Int) := by omega
  have hpg0 : 0 < pg := by omega
  have hpg64 : pg ≤ 64 := by omega
  clear hpg
  obtain ⟨d, hd⟩ : ∃ x, (o + l.length) / pg = x := ⟨_, rfl⟩
  have hdi : ((o : Int) + (l.length : Int)).tdiv (pg : Int) = (d : Int) := by
    rw [← hd, Int.tdiv_eq_ediv_of_nonneg (by omega)]; norm_cast
  have hdm := Nat.div_add_mod (o + l.length) pg
  have hdl := Nat.mod_lt (o + l.length) hpg0
  rw [hd] at hdm
  obtain ⟨sz, hsz⟩ : ∃ x, d * pg + pg = x := ⟨_, rfl⟩
  have hmul : (d : Int) * (pg : Int) = ((d * pg : Nat) : Int) := by push_cast; rfl
  have hszi : ((d * pg : Nat) : Int) + (pg : Int) = (sz : Int) := by omega
  have hdp : d * pg ≤ 699 := by rw [Nat.mul_comm]; omega
  have hsz1 : o + l.length < sz := by rw [Nat.mul_comm] at hsz; omega
  have hsz2 : sz ≤ 800 := by omega
  have hpgne : (pg : Int) ≠ 0 := by omega
  have hpgn : pg ≠ 0 := by omega
  have hdd : d ≤ d * pg := Nat.le_mul_of_pos_right d hpg0
  have HE := Lib.hid (size_eq d pg sz (d * pg) rfl (by omega) (by omega) (by omega))
  have HSZ := Lib.hid (show (o + l.length) / pg * pg + pg = sz by rw [hd]; exact hsz)
  have HO := Lib.hid ho
  have HP := Lib.hid hp
  have HPP := Lib.hid (show wrap64 (1 + wrap64 ((IntKind.u64.wrap page).tmod 64)) = (pg : Int) by rw [hp, hpg1]; exact wrap_small pg (by omega))
  have hlc := hcap.1
  clear hd hdm hdl hcap hcap' ho hp hmul hszi hdd hdp hsz
  go_enter Try.func8, Try.ntmps8
  go_upto_region 4 with fail
  rw [HO.out, HPP.out, HP.out]
  go_upto_region 5 with fail
  rw [HE.out]
  have hll : l'.length ≤ 140737488355328 := by omega
  have hxl : l'.length + sz ≤ 140737488355328 := by omega
  have hsz0 : 0 < sz := by omega
  clear hdi
  go_upto_region 6 with (first
    | (at_builtin; refine wpList_wanted (by rfl) fun K hK => wp_clone_byts _ rfl rfl hb' rfl hll hs0 ?_; intro v1 w1 hown1 hbel1 hz1; clear hz1; have hs1 := hbel1.size; refine hK _ _ ?_; clear hK K)
    | (at_builtin; go_must (refine wpList_wanted (by rfl) fun K hK => wp_zeros_byts _ _ rfl rfl rfl rfl hown1 hxl hs1 ?_); intro v2 w2 hown2 hg2 hz2; clear hz2; have hbel2 := hbel1.grown hg2 hs1 (fun k e => (hown1.lt e).1); obtain ⟨g, cx, rfl, ⟨hcx, -⟩, hgb, hgl, -, -⟩ := hown2.form (by simp; omega); refine hK _ _ ?_; clear hK K)
    | (refine wpList_wanted (by rfl) fun K hK => wp_slice_byts _ _ _ rfl 0 sz rfl (Or.inl ⟨rfl, rfl⟩) (Or.inr ⟨_, _, rfl, rfl⟩) (Nat.zero_le _) (by simp at hcx; omega) ?_; intro A5 e1 e2 e3; obtain rfl := e2 _ _ rfl (by simp at hcx; omega); refine hK _ _ ?_; clear e1 e2 e3 hK K; (try simp only [Nat.sub_zero])))
  have hx2 := hown2.shorter (M := sz) (by simp)
  have hx0l : ((l' ++ List.replicate sz 0).take sz).length = sz := by simp
  have hcx7 : sz ≤ cx := by simp at hcx; omega
  clear hown2 hg2 hown1 hcx hxl
  generalize (l' ++ List.replicate sz 0).take sz = x0 at *
  subst hx0l
  have hs2 := hbel2.size
  have hlb := hb.below hbel2
  have hx0m : x0.length ≤ 140737488355328 := by omega
  have hfit : o + (x0.length - o) ≤ x0.length := by omega
  clear HE hbel1 hs1
  obtain ⟨w2x, rfl⟩ : ∃ w2x : World, w2x = w2 := ⟨_, rfl⟩
  have hs2r := Nat.le_refl w2x.heap.size
  go_upto_region 7 with (at_builtin; go_must (refine wpList_wanted (by rfl) fun K hK => wp_clone_byts _ rfl rfl hx2.read rfl hx0m hs2r ?_); intro v3 w3 hown3 hbel3 hz3; clear hz3; obtain ⟨g2, c2, rfl, ⟨hc2, -⟩, hg2b, hg2l, -, -⟩ := hown3.form hsz0; refine hK _ _ ?_; clear hK K)
  have hx3 := hx2.below hbel3
  have hlb3 := hlb.below hbel3
  have hbel30 := hbel2.trans (hbel3.mono hs2)
  go_upto_region 8 with (first
    | (refine wpList_wanted (by rfl) fun K hK => wp_slice_byts _ _ _ rfl o x0.length rfl (Or.inr ⟨_, _, rfl, rfl⟩) (Or.inl ⟨rfl, rfl⟩) (by omega) (by omega) ?_; intro A5 e1 e2 e3; obtain rfl := e2 _ _ rfl (by omega); refine hK _ _ ?_; clear e1 e2 e3 hK K; (try simp only [Nat.zero_add]))
    | (refine wpList_wanted (by rfl) fun K hK => wp_copy_byts _ _ rfl o rfl rfl hown3 hlb3 rfl (fun _ => ⟨g2, _, c2, rfl, rfl⟩) hfit ?_; intro w4 hown4 hg4; refine hK _ _ ?_; clear hK K))
  have hne : g ≠ g2 := by omega
  have hx4 := hx3.grown hg4 (Or.inr (by simpa [Value.ownBlock] using hne))
  have hbel4 := hbel30.grown hg4 hbel30.size (fun k e => by simp [Value.ownBlock] at e; omega)
  have hwant : x0.take o ++ l.take (x0.length - o) ++ x0.drop (o + min l.length (x0.length - o)) = splice x0 o l := by
    unfold splice
    rw [List.take_of_length_le (l := l) (by omega), Nat.min_eq_left (by omega)]
  rw [hwant] at hown4
  have hs34 := hg4.size
  clear hwant hown3 hx3 hg4 hlb hlb3 hbel30 hx2 hb'
  go_upto_region 9 with (go_at_call 22; go_must (refine (cut_pieces _ _ _ _ (by omega)).mono ?_); rintro e w5 ⟨v5, rfl, hown5, hbel5⟩)
  have hg5 : w2x.heap.size ≤ w4.heap.size := by have := hbel3.size; omega
  have hx5 := hx4.below hbel5
  have hw5 := (hown4.below hbel5)
  have hp5 := hown5
  have HPG := Lib.hid (fun j hj => pcs_get (o := o) (n := l.length) (pg := pg) (by omega) (by omega) hpg0 (j := j) hj)
  have HPE := Lib.hid (pcs_end (o := o) (n := l.length) (pg := pg) (by omega) (by omega) hpg0)
  have hbel05 := hbel4.trans (hbel5.mono hbel4.size)
  clear hx4 hown4 hown5 hbel4 hbel5 hs2 hs2r hbel3 hbel2
  generalize pcs (o : Int) (l.length : Int) (pg : Int) = PL at *
  go_upto_region 11 with fail
  have hpl63 : PL.length ≤ 1000 := by
    by_cases h0 : 1000 < PL.length
    · exfalso
      obtain ⟨-, hc, -⟩ := HPG.out 1000 h0
      have := @count_le o (o + l.length) pg
      omega
    · omega
  have hll4 : l.length ≤ 400 := by omega
  obtain ⟨AP, cp, rfl, hcp, hat, -⟩ := hp5.read
  clear hat
  go_loopw [13, 14, 15] (fun v13 v14 _ wr => ∃ j k : Nat, j ≤ PL.length ∧ v14 = .int .i64 (j : Int) ∧ Hid (offN o (o + l.length) pg j = o + k) ∧ k ≤ l.length ∧ v13 = .int .i64 (k : Int) ∧
      Own wr w0.heap.size (.slice (some ⟨g, 0, none⟩) x0.length cx) (splice x0 o (l.take k)) ∧ Own wr w2x.heap.size (.slice (some ⟨g2, 0, none⟩) x0.length c2) (splice x0 o l) ∧
      kPiece.Own wr w4.heap.size (.slice AP PL.length cp) PL ∧ Below w0.heap.size w0 wr) (fun _ v14 _ _ => PL.length - (intOf v14).toNat)
  case atStart => exact ⟨0, 0, Nat.zero_le _, rfl, (by show _ = _; rw [offN_zero]; rfl), Nat.zero_le _, rfl, (by simpa [splice] using hx5), hw5, hp5, hbel05⟩
  case round =>
    clear hx5 hw5 hp5 hbel05
    obtain ⟨j, k, hj, rfl, hk, hkl, rfl, hx, hw, hp, hbel⟩ := hrel
    by_cases hlt : j < PL.length
    · obtain ⟨hl0, hjc, hPj⟩ := HPG.out j hlt
      obtain ⟨q, hq0, hq1, hqe, -, hqo, hoq, hoe, hdiv, hnext⟩ := round_facts hpg0 (show o < o + l.length by omega) hjc
      rw [hk.out] at hqo hoq hoe
      obtain ⟨m, hm⟩ : ∃ m, offN o (o + l.length) pg (j + 1) - (o + k) = m := ⟨_, rfl⟩
      have hn2 : offN o (o + l.length) pg (j + 1) = o + (k + m) := by omega
      have hmq : o + k + m ≤ q + pg := by omega
      have hm0 : 0 < m := by omega
      have hkm : k + m ≤ l.length := by omega
      have hqsz : q + pg ≤ x0.length := by
        have h5 : q + pg ≤ (o + l.length) / pg * pg + pg := by
          have h6 := Nat.div_mul_le_self (o + l.length) pg
          have h7 : o / pg + j ≤ (o + l.length) / pg := by
            rw [Nat.le_div_iff_mul_le hpg0, hq0]; omega
          have := Nat.mul_le_mul_right pg h7
          omega
        have := HSZ.out
        omega
      have hPi : PL[j] = (o / pg + j, o + k - q, o + k + m - q) := by
        rw [hPj, pieceN_def, hq0]
        congr 2
        · unfold offN at hk
          have := hk.out
          rw [hq0] at this
          omega
        · omega
      obtain ⟨A6, c6, e6, -, hat, -⟩ := hp.read
      cases e6
      obtain ⟨b6, o6, rfl, hb6, hcell⟩ := hat.at hlt
      rw [hPi] at hcell
      have y0 : wr.cell? ⟨b6, o6 + j * 3, none⟩ = some (.int .i64 ((o / pg + j : Nat) : Int)) := hcell 0 _ rfl
      have y1 : wr.cell? ⟨b6, o6 + j * 3 + 1, none⟩ = some (.int .i64 ((o + k - q : Nat) : Int)) := hcell 1 _ rfl
      have y2 : wr.cell? ⟨b6, o6 + j * 3 + 2, none⟩ = some (.int .i64 ((o + k + m - q : Nat) : Int)) := hcell 2 _ rfl
      have hji : (j : Int) < (PL.length : Int) := by omega
      have hi1 : o / pg + j ≤ 1000 := by
        have := Nat.le_mul_of_pos_right (o / pg + j) hpg0
        omega
      clear hcell hat hPi hPj hjc hnext hdiv hqe
      have HQ0 := Lib.hid hq0
      have HQ1 := Lib.hid hq1
      clear hq0 hq1
      generalize o / pg + j = i at *
      obtain ⟨f, hf⟩ : ∃ f, o + k - q = f := ⟨_, rfl⟩
      obtain ⟨t, ht⟩ : ∃ t, o + k + m - q = t := ⟨_, rfl⟩
      rw [hf] at y1
      rw [ht] at y2
      have hfq : q + f = o + k := by omega
      have htf : f + m = t := by omega
      have htp : t ≤ pg := by omega
      clear hf ht
      go_upto_region 14 with fail
      have hgx : g < wr.heap.size := (hx.lt rfl).2
      have z0 := new_cell wr [.int .i64 (i : Int), .int .i64 (f : Int), .int .i64 (t : Int)] 32 (0, 0) 0 _ rfl
      have z1 := new_cell wr [.int .i64 (i : Int), .int .i64 (f : Int), .int .i64 (t : Int)] 32 (0, 0) 1 _ rfl
      have z2 := new_cell wr [.int .i64 (i : Int), .int .i64 (f : Int), .int .i64 (t : Int)] 32 (0, 0) 2 _ rfl
      have hx7 := hx.alloc (.cells [.int .i64 (i : Int), .int .i64 (f : Int), .int .i64 (t : Int)].toArray 32 (0, 0))
      have hw7 := hw.alloc (.cells [.int .i64 (i : Int), .int .i64 (f : Int), .int .i64 (t : Int)].toArray 32 (0, 0))
      have hp7 := hp.alloc (.cells [.int .i64 (i : Int), .int .i64 (f : Int), .int .i64 (t : Int)].toArray 32 (0, 0))
      have hbel7 := hbel.alloc hbel.size (.cells [.int .i64 (i : Int), .int .i64 (f : Int), .int .i64 (t : Int)].toArray 32 (0, 0))
      clear hx hw hp hbel y0 y1 y2 hb6
      generalize hw7e : wr.alloc (.cells [.int .i64 (i : Int), .int .i64 (f : Int), .int .i64 (t : Int)].toArray 32 (0, 0)) = w7 at *
      have hlt7 : wr.heap.size < w7.heap.size := by rw [← hw7e]; simp
      have HW7 := Lib.hid hw7e
      clear hw7e
      generalize wr.heap.size = gp at *
      have hm0i : (i : Int) * (pg : Int) = (q : Int) := by rw [← Int.natCast_mul, HQ0.out]
      have hm1i : ((i : Int) + 1) * (pg : Int) = ((q + pg : Nat) : Int) := by rw [← HQ1.out]; push_cast; rfl
      have hfqi : (q : Int) + (f : Int) = (o : Int) + (k : Int) := by omega
      have hkti : ¬ ((l.length : Int) < (k : Int) + (t : Int) - (f : Int)) := by omega
      have n1 : ¬ ((x0.length : Int) < ((q + pg : Nat) : Int)) := by omega
      go_upto_region 16 with fail
      have hxl7 : (splice x0 o (l.take k)).length = x0.length := splice_length _ _ _ (by rw [List.length_take]; omega)
      obtain ⟨XL, hXL⟩ : ∃ XL, splice x0 o (l.take k) = XL := ⟨_, rfl⟩
      rw [hXL] at hx7 hxl7
      have HXL := Lib.hid hXL
      clear hXL
      obtain ⟨S, hS⟩ : ∃ S, (XL.take (q + pg)).drop q = S := ⟨_, rfl⟩
      have hSl : S.length = pg := by rw [← hS]; simp; omega
      have hSb : ∀ w', Byts w' (some ⟨g, 0, none⟩) XL → Byts w' (some ⟨g, q, none⟩) S := fun w' h => by
        rw [← hS]
        have := (h.take (q + pg)).drop q
        simpa using this
      obtain ⟨R, hR⟩ : ∃ R, l.drop k = R := ⟨_, rfl⟩
      have hRl : R.length = l.length - k := by rw [← hR]; simp
      have HS := Lib.hid hS
      have HR := Lib.hid hR
      have HSb := Lib.hid hSb
      have HSl := Lib.hid hSl
      have HRl := Lib.hid hRl
      have HXl := Lib.hid hxl7
      clear hS hR hSb hSl hRl hxl7
      have hC : Below w7.heap.size w7 w7.drew := (Below.refl _ _).drew
      have hsz7 := hbel7.size
      have hg7 : g < w7.heap.size := by omega
      have hcq : ¬ cx = q := by omega
      have hck : ¬ c = k := by omega
      have hs_1 : q ≤ x0.length := by omega
      have hs_2 : q ≤ q + pg := by omega
      have hs_3 : q + pg ≤ cx := by omega
      have hs_4 : k ≤ l.length := by omega
      have hs_5 : ¬ x0.length < q := by omega
      have hs_6 : ¬ l.length < k := by omega
      obtain ⟨b7, o7, rfl, -⟩ := hb.at hl0
      have hi_1 : (0 : Int) ≤ (q : Int) := by omega
      have hi_2 : (q : Int) ≤ (x0.length : Int) := by omega
      have hi_3 : (q : Int) ≤ (q : Int) + (pg : Int) := by omega
      have hi_4 : (q : Int) + (pg : Int) ≤ (cx : Int) := by omega
      have hi_5 : (0 : Int) ≤ (k : Int) := by omega
      have hi_6 : (k : Int) ≤ (l.length : Int) := by omega
      have hi_7 : (0 : Int) ≤ (q : Int) + (pg : Int) := by omega
      have hm1j : ((i : Int) + 1) * (pg : Int) = (q : Int) + (pg : Int) := by rw [hm1i]; push_cast; rfl
      have hw_1 : IntKind.i64.wrap (q : Int) = (q : Int) := IntWalk.i64_in _ (by omega)
      have hw_2 : IntKind.i64.wrap ((i : Int) + 1) = (i : Int) + 1 := IntWalk.i64_in _ (by omega)
      have hw_3 : IntKind.i64.wrap ((q : Int) + (pg : Int)) = (q : Int) + (pg : Int) := IntWalk.i64_in _ (by omega)
      have hw_4 : ((q : Int) + (pg : Int)).toNat = q + pg := by omega
      clear hm1i
      have HRb := Lib.hid (fun w' (h : Byts w' (some ⟨b7, o7, none⟩) l) => (by have := h.drop k; rw [HR.out] at this; exact this : Byts w' (some ⟨b7, o7 + k, none⟩) R))
      have hngp : some gp ≠ some g := by intro e; cases e; omega
      go_region_held3 (fun w' => w'.cell? ⟨gp, 0, none⟩ = some (.int .i64 (i : Int)) ∧ w'.cell? ⟨gp, 1, none⟩ = some (.int .i64 (f : Int)) ∧ w'.cell? ⟨gp, 2, none⟩ = some (.int .i64 (t : Int)))
        (first
          | (exact ⟨(hC.cell (p := ⟨gp, 0, none⟩) hlt7).trans z0, (hC.cell (p := ⟨gp, 1, none⟩) hlt7).trans z1, (hC.cell (p := ⟨gp, 2, none⟩) hlt7).trans z2⟩)
          | (have hl8 : gp < w8.heap.size := Nat.lt_of_lt_of_le hlt7 hC.size; exact ⟨(hg9.cell_far ⟨gp, 0, none⟩ hl8 hngp).trans ((hC.cell (p := ⟨gp, 0, none⟩) hlt7).trans z0), (hg9.cell_far ⟨gp, 1, none⟩ hl8 hngp).trans ((hC.cell (p := ⟨gp, 1, none⟩) hlt7).trans z1), (hg9.cell_far ⟨gp, 2, none⟩ hl8 hngp).trans ((hC.cell (p := ⟨gp, 2, none⟩) hlt7).trans z2)⟩))
        (first
          | (go_at_call 25; refine (cut_lay _ _ _ S _ _ _ _ _ _ R _ (HSb.out _ (hx7.read.below hC)) HSl.out.symm (HRb.out _ (hb.below (hbel7.trans (hC.mono hsz7)))) HRl.out.symm (by have := HSl.out; omega) (by have := HRl.out; omega)).mono ?_; rintro e w8 ⟨v8, rfl, hown8, hx8⟩; have hC8 := hC.trans (hx8.mono hC.size); clear hC; have hC := hC8; clear hC8; obtain ⟨A8, c8, rfl, -, hr8, -⟩ := hown8.byts; clear hown8 hx8)
          | (refine step_by (by rfl) (wp_copy_byts _ _ rfl q rfl rfl (hx7.below hC) hr8 rfl (fun _ => ⟨g, _, cx, rfl, rfl⟩) (by have := HXl.out; omega) ?_); intro w9 hown9 hg9))
      have hl8 : gp < w8.heap.size := Nat.lt_of_lt_of_le hlt7 hC.size
      have y1 := (hg9.cell_far ⟨gp, 1, none⟩ hl8 hngp).trans ((hC.cell (p := ⟨gp, 1, none⟩) hlt7).trans z1)
      have y2 := (hg9.cell_far ⟨gp, 2, none⟩ hl8 hngp).trans ((hC.cell (p := ⟨gp, 2, none⟩) hlt7).trans z2)
      rw [whole_step x0 l XL S R o k q pg f t m HXL.out HS.out HR.out htf hfq htp hqsz hkm (by omega)] at hown9
      have hw9 := (hw7.below hC).grown hg9 (Or.inr (by intro e; simp [Value.ownBlock] at e; exact hne e.symm))
      have hb6l := (hp7.lt (b := b6) rfl).1
      have hp9 := (hp7.below hC).grown hg9 (Or.inr (by intro e; simp [Value.ownBlock] at e; omega))
      have hbel9 := (hbel7.trans (hC.mono hsz7)).grown hg9 (by have := hC.size; omega) (fun k e => by simp [Value.ownBlock] at e; omega)
      have hfin : (k : Int) + (t : Int) - (f : Int) = ((k + m : Nat) : Int) := by omega
      clear hx7 hw7 hp7 hbel7 hg9 hC z0 z1 z2 hw_1 hw_2 hw_3 hw_4 hm0i hm1j
      have HFIN := Lib.hid hfin
      clear hfin
      go_wp2_with fail
      go_roundw
      case rel => exact ⟨j + 1, k + m, by omega, by go_num, hn2, hkm, by rw [← HFIN.out], hown9, hw9, hp9, hbel9⟩
      case measure => simp [intOf]; omega
    · obtain rfl : j = PL.length := by omega
      have hkk : k = l.length := by have h1 := hk.out; rw [HPE.out] at h1; omega
      subst hkk
      rw [List.take_length] at hx
      obtain ⟨X, hX⟩ : ∃ X, splice x0 o l = X := ⟨_, rfl⟩
      have hXl : x0.length = X.length := by rw [← hX, splice_length _ _ _ (by omega)]
      rw [hX] at hx hw
      have HXl := Lib.hid hXl
      have hxx : (X == X) = true := by simp
      clear hX hk hp hXl
      go_wp2_with (first
        | (go_at_call 19; refine (awake21 _).mono ?_; rintro e w6 ⟨rfl, hbel6⟩; have hx6 := hx.below hbel6; have hw6 := hw.below hbel6; have hbel06 := hbel.trans (hbel6.mono hbel.size))
        | (go_at_call 24; refine (help_bytes _ _ _ _ _ _ _ _ _ hx6.read HXl.out hw6.read HXl.out).mono ?_; rintro e w' ⟨rfl, rfl⟩))
      go_ret
      exact ⟨by simp, hbel06⟩
end Go.Proofs.Ytcdbndgmfjlmbaa
