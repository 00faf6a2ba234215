/- The walk of CutParts: a closure that lays a range, page by page. -/
import Derived.Test.YtcdbndgmfjlmbaaLawWhole
import Derived.Test.YtcdbndgmfjlmbaaKinds
set_option linter.unusedVariables false
namespace Go.Proofs.Ytcdbndgmfjlmbaa
open Go.RowKit

theorem part_step (x0 l XL S R : List UInt8) (o k q e f t m : Nat) (hXL : splice x0 o (l.take k) = XL) (hS : (XL.take e).drop q = S) (hR : l.drop k = R)
    (h1 : f + m = t) (h2 : q + f = o + k) (h3 : q + t ≤ e) (h4 : e ≤ x0.length) (h5 : k + m ≤ l.length) (h6 : o + l.length ≤ x0.length) :
    XL.take q ++ (layL S (f : Int) (t : Int) R).take (e - q) ++ XL.drop (q + min (layL S (f : Int) (t : Int) R).length (e - q)) = splice x0 o (l.take (k + m)) := by
  have hxl : XL.length = x0.length := by rw [← hXL]; exact splice_length _ _ _ (by rw [List.length_take]; omega)
  have hsl : S.length = e - q := by rw [← hS]; simp; omega
  have hrl : R.length = l.length - k := by rw [← hR]; simp
  have e1 : layL S (f : Int) (t : Int) R = splice S f (R.take m) := by
    unfold layL splice
    rw [if_pos (by omega), List.length_take]
    have : ((t : Int) - (f : Int)).toNat = m := by omega
    have h7 : (f : Int).toNat = f := by omega
    simp only [this, h7]
    rw [Nat.min_comm]
  have e2 : (splice S f (R.take m)).length = e - q := by rw [splice_length _ _ _ (by rw [List.length_take]; omega), hsl]
  rw [e1, e2, List.take_of_length_le (l := splice S f (R.take m)) (by omega), Nat.min_self]
  have e3 : XL.take q ++ splice S f (R.take m) ++ XL.drop (q + (e - q)) = splice XL q (splice S f (R.take m)) := by
    rw [← e2]; rfl
  have e4 : e = q + (e - q) := by omega
  rw [e3, ← hS]
  conv => lhs; rw [e4]
  rw [splice_part XL q (e - q) f (R.take m) (by rw [List.length_take]; omega) (by omega), h2, ← hXL, ← hR]
  exact splice_more x0 l o k m h5 h6

theorem splice_two (z l : List UInt8) (o k : Nat) (hk : k ≤ l.length) (hz : o + l.length ≤ z.length) : splice (splice z o (l.take k)) (o + k) (l.drop k) = splice z o l := by
  have h := splice_more z l o k (l.length - k) (by omega) hz
  rw [List.take_of_length_le (l := l.drop k) (by rw [List.length_drop]; omega), show k + (l.length - k) = l.length by omega, List.take_length] at h
  exact h

set_option maxHeartbeats 400000 in
theorem law_lay (A : Option Addr) (n c : Nat) (old : List UInt8) (x f t : Int) (A' : Option Addr) (n' c' : Nat) (b : List UInt8) (w : World) (hb : Byts w A old) (hn : n = old.length) (hb' : Byts w A' b) (hn' : n' = b.length)
    (hl : old.length ≤ 140737488355328) (hl' : b.length ≤ 140737488355328) :
    Calls Try.prog 32 #[.slice A n c, .agg #[.int .i64 x, .int .i64 f, .int .i64 t], .slice A' n' c'] w (Ret fun v w' => Own w' w.heap.size v (layL old f t b) ∧ Below w.heap.size w w') := by
  have hc := cut_lay A n c old x f t A' n' c' b (w.alloc (.cells #[.int .i64 x, .int .i64 f, .int .i64 t] 32)) (hb.alloc _) hn (hb'.alloc _) hn' hl hl'
  have HC := Lib.hid hc
  clear hc hn hn'
  go_enter Try.func32, Try.ntmps32
  go_wp2_with (go_at_call 25; refine HC.out.mono ?_; rintro e w1 ⟨v, rfl, hown, hbel⟩)
  go_ret
  exact Ret.mk ⟨hown.mono (by simp), (below_alloc w _).trans (hbel.mono (by simp))⟩

set_option maxHeartbeats 400000 in
theorem law_cut2 (off n page : Int) (w : World) (hpage : page ≤ 9223372036854775807) :
    Calls Try.prog 31 #[.int .i64 off, .int .i64 n, .int .i64 page] w (Ret fun v w' => kPiece.Own w' w.heap.size v (pcs off n page) ∧ Below w.heap.size w w') := by
  have HC := Lib.hid (cut_pieces off n page w hpage)
  go_enter Try.func31, Try.ntmps31
  go_wp2_with (go_at_call 22; refine HC.out.mono ?_; rintro e w1 ⟨v, rfl, hown, hbel⟩)
  go_ret
  exact Ret.mk ⟨hown, hbel⟩

set_option maxRecDepth 100000 in
set_option maxHeartbeats 4000000 in
theorem law_put (B g bx : Nat) (x0 : List UInt8) (A : Option Addr) (n c : Nat) (l : List UInt8) (o pg : Nat) (w : World) (hx : Own w B (.slice (some ⟨g, 0, none⟩) 700 700) x0) (hb : Byts w A l) (hn : n = l.length) (hc : l.length ≤ c)
    (hbx : Blk w bx 3 [.int .i64 (pg : Int)]) (hpg0 : 0 < pg) (hpg64 : pg ≤ 64) (ho : o + l.length ≤ 700) (hne : bx ≠ g) (hA : ∀ x, A = some x → 0 < l.length → x.block ≠ g) :
    Calls Try.prog 30 #[.slice (some ⟨g, 0, none⟩) 700 700, .int .i64 (o : Int), .slice A n c, .pointer (some ⟨bx, 0, none⟩)] w
      fun e w' => e = .returned (.tuple #[]) ∧ Own w' B (.slice (some ⟨g, 0, none⟩) 700 700) (splice x0 o l) ∧ Only [g] w w' := by
  subst hn
  obtain ⟨w0, rfl⟩ : ∃ w0 : World, w0 = w := ⟨_, rfl⟩
  have hs0 := Nat.le_refl w0.heap.size
  have hxl := hx.len
  have hgl := (hx.lt (k := g) rfl).2
  have hbl := hbx.lt
  have c0 := hbx.cell 0 _ rfl
  have hpgi : (pg : Int) ≤ 9223372036854775807 := by omega
  have HXL0 := Lib.hid hxl
  clear hxl
  go_enter Try.func30, Try.ntmps30
  go_upto_region 1 with (go_at_call 31; go_must (refine (law_cut2 _ _ _ _ hpgi).mono ?_); rintro e w1 ⟨v, rfl, hp1, hbel1⟩)
  have HPG := Lib.hid (fun j hj => pcs_get (o := o) (n := l.length) (pg := pg) (by omega) (by omega) hpg0 (j := j) hj)
  have HPE := Lib.hid (pcs_end (o := o) (n := l.length) (pg := pg) (by omega) (by omega) hpg0)
  have hx1 := hx.below hbel1
  have hb1 := hb.below hbel1
  have hbx1 := hbx.only (Only.of_below hbel1 [g]) (by simpa using hne)
  have ho1 := Only.of_below hbel1 [g]
  clear hx hb hbx hbel1 c0
  generalize pcs (o : Int) (l.length : Int) (pg : Int) = PL at *
  obtain ⟨AP, cp, rfl, hcp, hat, -⟩ := hp1.read
  clear hat
  have hpl63 : PL.length ≤ 1000 := by
    by_cases h0 : 1000 < PL.length
    · exfalso
      obtain ⟨-, hc, -⟩ := HPG.out 1000 h0
      have := @count_le o (o + l.length) pg
      omega
    · omega
  go_upto_region 2 with fail
  go_loopw [2, 8] (fun v2 v8 wr => ∃ (j k r : Nat) (Ak : Option Addr) (ck : Nat), j ≤ PL.length ∧ v8 = .int .i64 (j : Int) ∧ Hid (offN o (o + l.length) pg j = o + k) ∧ k ≤ l.length ∧ k + r ≤ l.length ∧ l.length ≤ k + r ∧ v2 = .slice Ak r ck ∧ r ≤ ck ∧
      Byts wr Ak (l.drop k) ∧ (∀ x, Ak = some x → 0 < r → x.block ≠ g) ∧
      Own wr B (.slice (some ⟨g, 0, none⟩) 700 700) (splice x0 o (l.take k)) ∧ kPiece.Own wr w0.heap.size (.slice AP PL.length cp) PL ∧ Blk wr bx 3 [.int .i64 (pg : Int)] ∧ Only [g] w0 wr) (fun _ v8 _ => PL.length - (intOf v8).toNat)
  case atStart => exact ⟨0, 0, l.length, A, c, Nat.zero_le _, rfl, (by show _ = _; rw [offN_zero]; rfl), Nat.zero_le _, by omega, by omega, rfl, by omega, (by simpa using hb1), (fun x e h0 => hA x e (by omega)), (by simpa [splice] using hx1), hp1, hbx1, ho1⟩
  case round =>
    clear hx1 hb1 hbx1 ho1 hp1
    obtain ⟨j, k, r, Ak, ck, hj, rfl, hk, hkl, hr1, hr2, rfl, hck, hb, hAk, hx, hp, hbx, hon⟩ := hrel
    by_cases hlt : j < PL.length
    · obtain ⟨hl0, hjc, hPj⟩ := HPG.out j hlt
      obtain ⟨q, hq0, hq1, hqe, -, hqo, hoq, hoe, hdiv, hnext⟩ := round_facts hpg0 (show o < o + l.length by omega) hjc
      rw [hk.out] at hqo hoq hoe
      obtain ⟨m, hm⟩ : ∃ m, offN o (o + l.length) pg (j + 1) - (o + k) = m := ⟨_, rfl⟩
      have hn2 : offN o (o + l.length) pg (j + 1) = o + (k + m) := by omega
      have hmq : o + k + m ≤ q + pg := by omega
      have hm0 : 0 < m := by omega
      have hkm : k + m ≤ l.length := by omega
      have hPi : PL[j] = (o / pg + j, o + k - q, o + k + m - q) := by
        rw [hPj, pieceN_def, hq0]
        congr 2
        · unfold offN at hk
          have := hk.out
          rw [hq0] at this
          omega
        · omega
      obtain ⟨A6, c6, e6, -, hat, -⟩ := hp.read
      cases e6
      obtain ⟨b6, o6, rfl, hb6, hcell⟩ := hat.at hlt
      rw [hPi] at hcell
      have y0 : wr.cell? ⟨b6, o6 + j * 3, none⟩ = some (.int .i64 ((o / pg + j : Nat) : Int)) := hcell 0 _ rfl
      have y1 : wr.cell? ⟨b6, o6 + j * 3 + 1, none⟩ = some (.int .i64 ((o + k - q : Nat) : Int)) := hcell 1 _ rfl
      have y2 : wr.cell? ⟨b6, o6 + j * 3 + 2, none⟩ = some (.int .i64 ((o + k + m - q : Nat) : Int)) := hcell 2 _ rfl
      have hi1 : o / pg + j ≤ 1000 := by
        have := Nat.le_mul_of_pos_right (o / pg + j) hpg0
        omega
      clear hcell hat hPi hPj hjc hnext hdiv hqe
      have HQ0 := Lib.hid hq0
      clear hq0 hq1
      generalize o / pg + j = i at *
      obtain ⟨f, hf⟩ : ∃ f, o + k - q = f := ⟨_, rfl⟩
      obtain ⟨t, ht⟩ : ∃ t, o + k + m - q = t := ⟨_, rfl⟩
      rw [hf] at y1
      rw [ht] at y2
      have hfq : q + f = o + k := by omega
      have htf : f + m = t := by omega
      have htp : t ≤ pg := by omega
      clear hf ht
      obtain ⟨e, he⟩ : ∃ e, min (q + pg) 700 = e := ⟨_, rfl⟩
      have hte : q + t ≤ e := by omega
      have he7 : e ≤ 700 := by omega
      have hqe : q ≤ e := by omega
      go_upto_region 5 with fail
      have hgx : g < wr.heap.size := (hx.lt rfl).2
      have z0 := new_cell wr [.int .i64 (i : Int), .int .i64 (f : Int), .int .i64 (t : Int)] 32 (0, 0) 0 _ rfl
      have z1 := new_cell wr [.int .i64 (i : Int), .int .i64 (f : Int), .int .i64 (t : Int)] 32 (0, 0) 1 _ rfl
      have z2 := new_cell wr [.int .i64 (i : Int), .int .i64 (f : Int), .int .i64 (t : Int)] 32 (0, 0) 2 _ rfl
      have hx7 := hx.alloc (.cells [.int .i64 (i : Int), .int .i64 (f : Int), .int .i64 (t : Int)].toArray 32 (0, 0))
      have hb7 := hb.alloc (.cells [.int .i64 (i : Int), .int .i64 (f : Int), .int .i64 (t : Int)].toArray 32 (0, 0))
      have hp7 := hp.alloc (.cells [.int .i64 (i : Int), .int .i64 (f : Int), .int .i64 (t : Int)].toArray 32 (0, 0))
      have hbx7 := hbx.alloc (.cells [.int .i64 (i : Int), .int .i64 (f : Int), .int .i64 (t : Int)].toArray 32 (0, 0))
      have hon7 := hon.alloc (.cells [.int .i64 (i : Int), .int .i64 (f : Int), .int .i64 (t : Int)].toArray 32 (0, 0))
      clear hx hb hp hbx hon y0 y1 y2 hb6
      generalize hw7e : wr.alloc (.cells [.int .i64 (i : Int), .int .i64 (f : Int), .int .i64 (t : Int)].toArray 32 (0, 0)) = w7 at *
      have hlt7 : wr.heap.size < w7.heap.size := by rw [← hw7e]; simp
      clear hw7e
      generalize wr.heap.size = gp at *
      have c0 := hbx7.cell 0 _ rfl
      have hm0i : (i : Int) * (pg : Int) = (q : Int) := by rw [← Int.natCast_mul, HQ0.out]
      go_upto_region 7 with fail
      rw [show (if (700 : Int) < (q : Int) + (pg : Int) then (700 : Int) else (q : Int) + (pg : Int)) = (e : Int) by split <;> omega]
      have n1 : ¬ ((e : Int) < (q : Int)) := by omega
      have n3 : ¬ ((r : Int) < (t : Int) - (f : Int)) := by omega
      have n4 : ¬ ((t : Int) < (f : Int)) := by omega
      go_upto_region 8 with fail
      have hxl7 : (splice x0 o (l.take k)).length = 700 := by have := HXL0.out; rw [splice_length _ _ _ (by rw [List.length_take]; omega)]; omega
      obtain ⟨XL, hXL⟩ : ∃ XL, splice x0 o (l.take k) = XL := ⟨_, rfl⟩
      rw [hXL] at hx7 hxl7
      have HXL := Lib.hid hXL
      clear hXL
      obtain ⟨S, hS⟩ : ∃ S, (XL.take e).drop q = S := ⟨_, rfl⟩
      have hSl : e - q = S.length := by rw [← hS]; simp; omega
      have hSb : ∀ w', Byts w' (some ⟨g, 0, none⟩) XL → Byts w' (some ⟨g, q, none⟩) S := fun w' h => by
        rw [← hS]
        have := (h.take e).drop q
        simpa using this
      obtain ⟨R, hR⟩ : ∃ R, l.drop k = R := ⟨_, rfl⟩
      have hRl : r = R.length := by rw [← hR]; simp; omega
      rw [hR] at hb7
      have HS := Lib.hid hS
      have HR := Lib.hid hR
      have HSb := Lib.hid hSb
      have HSl := Lib.hid hSl
      have HRl := Lib.hid hRl
      have HXl := Lib.hid hxl7
      have HTF := Lib.hid htf
      have HFQ := Lib.hid hfq
      clear hS hR hSb hSl hRl hxl7 htf hfq
      have hC : Below w7.heap.size w7 w7.drew := (Below.refl _ _).drew
      have hg7 : g < w7.heap.size := by omega
      have hcq : ¬ 700 = q := by omega
      have hngp : some gp ≠ some g := by intro e; cases e; omega
      have hi_1 : (0 : Int) ≤ (q : Int) := by omega
      have hi_2 : (q : Int) ≤ (e : Int) := by omega
      have hi_3 : (e : Int) ≤ 700 := by omega
      have hl1 : S.length ≤ 140737488355328 := by have := HSl.out; omega
      have hl2 : R.length ≤ 140737488355328 := by have := HRl.out; omega
      go_region_held3 (fun w' => w'.cell? ⟨gp, 0, none⟩ = some (.int .i64 (i : Int)) ∧ w'.cell? ⟨gp, 1, none⟩ = some (.int .i64 (f : Int)) ∧ w'.cell? ⟨gp, 2, none⟩ = some (.int .i64 (t : Int)))
        (first
          | (exact ⟨(hC.cell (p := ⟨gp, 0, none⟩) hlt7).trans z0, (hC.cell (p := ⟨gp, 1, none⟩) hlt7).trans z1, (hC.cell (p := ⟨gp, 2, none⟩) hlt7).trans z2⟩)
          | (have hl8 : gp < w8.heap.size := Nat.lt_of_lt_of_le hlt7 hC.size; exact ⟨(hg9.cell_far ⟨gp, 0, none⟩ hl8 hngp).trans ((hC.cell (p := ⟨gp, 0, none⟩) hlt7).trans z0), (hg9.cell_far ⟨gp, 1, none⟩ hl8 hngp).trans ((hC.cell (p := ⟨gp, 1, none⟩) hlt7).trans z1), (hg9.cell_far ⟨gp, 2, none⟩ hl8 hngp).trans ((hC.cell (p := ⟨gp, 2, none⟩) hlt7).trans z2)⟩))
        (first
          | (go_at_call 32; refine (law_lay _ _ _ S _ _ _ _ _ _ R _ (HSb.out _ (hx7.read.below hC)) HSl.out (hb7.below hC) HRl.out hl1 hl2).mono ?_; rintro e w8 ⟨v8, rfl, hown8, hx8⟩; have hC8 := hC.trans (hx8.mono hC.size); clear hC; have hC := hC8; clear hC8; obtain ⟨A8, c8, rfl, -, hr8, -⟩ := hown8.byts; clear hown8 hx8)
          | (refine step_by (by rfl) (wp_copy_byts _ _ rfl q rfl rfl (hx7.below hC) hr8 rfl (fun _ => ⟨g, _, 700, rfl, rfl⟩) (by have := HXl.out; omega) ?_); intro w9 hown9 hg9))
      have hl8 : gp < w8.heap.size := Nat.lt_of_lt_of_le hlt7 hC.size
      have y1 := (hg9.cell_far ⟨gp, 1, none⟩ hl8 hngp).trans ((hC.cell (p := ⟨gp, 1, none⟩) hlt7).trans z1)
      have y2 := (hg9.cell_far ⟨gp, 2, none⟩ hl8 hngp).trans ((hC.cell (p := ⟨gp, 2, none⟩) hlt7).trans z2)
      rw [part_step x0 l XL S R o k q e f t m HXL.out HS.out HR.out HTF.out HFQ.out hte (by have := HXL0.out; omega) hkm (by have := HXL0.out; omega)] at hown9
      have ho9 : Only [g] w7 w9 := (Only.of_below hC [g]).trans (Only.of_grown hg9)
      have hb6l := (hp7.lt (b := b6) rfl).1
      have hp9 : kPiece.Own w9 w0.heap.size (.slice (some ⟨b6, o6, none⟩) PL.length cp) PL := (hp7.below hC).grown hg9 (Or.inr (by intro e; simp [Value.ownBlock] at e; omega))
      have hbx9 := hbx7.only ho9 (by simpa using hne)
      have hon9 := hon7.trans ho9
      have hdl : (l.drop k).length = r := by rw [List.length_drop]; omega
      have hb9 : Byts w9 Ak (l.drop k) := by rw [HR.out]; exact hb7.only ho9 (fun x e h0 => by have := HRl.out; simpa using hAk x e (by omega))
      obtain ⟨b8, o8, hA8, -⟩ := hb9.at (k := 0) (by omega)
      have hmi : (t : Int) - (f : Int) = (m : Int) := by have := HTF.out; omega
      have hn3 : m ≤ r := by omega
      clear hx7 hb7 hp7 hbx7 hon7 hg9 hC z0 z1 z2 n1 n3 n4 hm0i hi_1 hi_2 hi_3 hdl
      go_wp2_with (refine wpList_wanted (by rfl) fun K hK => wp_slice_byts _ _ _ rfl m r rfl (Or.inr ⟨_, _, rfl, rfl⟩) (Or.inl ⟨rfl, rfl⟩) hn3 hck ?_; intro A5 e1 e2 e3; refine hK _ _ ?_; clear hK K)
      go_roundw
      case rel =>
        have hdl : (l.drop k).length = r := by rw [List.length_drop]; omega
        have h5 := e1 w9 _ hb9 (by omega) (by omega)
        rw [List.take_of_length_le (by omega), List.drop_drop] at h5
        exact ⟨j + 1, k + m, r - m, A5, ck - m, by omega, by go_num, hn2, hkm, by omega, by omega, rfl, by omega, h5, fun x e h0 => by
          have e4 := e2 _ _ hA8 (by omega)
          rw [e] at e4
          cases e4
          exact (hAk _ hA8 (by omega) : b8 ≠ g), hown9, hp9, hbx9, hon9⟩
      case measure => simp [intOf]; omega
    · obtain rfl : j = PL.length := by omega
      have hkk : k = l.length := by have h1 := hk.out; rw [HPE.out] at h1; omega
      subst hkk
      rw [List.take_length] at hx
      have HX := Lib.hid hx
      clear hx hb hp
      go_wp2_with fail
      go_end0
      exact ⟨rfl, HX.out, hon⟩

/-- So many bytes 0, as cells. -/
def zsN (n : Nat) : List Value := List.replicate n (.int .u8 0)
theorem zsN_length (n : Nat) : (zsN n).length = n := by simp [zsN]

theorem run_make_zs (n : Nat) (hn : n ≤ 100000) (w : World) : (Instr.makeSlice 22 (.int .i64 (n : Int)) (.int .i64 (n : Int))).run Try.prog w = .ok (.slice (some ⟨w.heap.size, 0, none⟩) n n) (w.alloc (.cells (zsN n).toArray 5 (0, 0))) := by
  obtain ⟨i0, hi, hz0, hz1, hz2⟩ := info_parts info_u8
  have hr := run_make (P := Try.prog) w 22 5 i0 (.int .u8 0) Try.underlying22 hi hz0 .i64 .i64 (n : Int) (n : Int) (by omega) (by omega) (by rw [hz2]; omega) (by omega)
  simp only [hz1, Int.toNat_natCast] at hr
  have e : madeCells (Value.int .u8 0).cells (n * 1) = (zsN n).toArray := by
    apply Array.ext'
    unfold zsN madeCells
    apply List.ext_getElem
    · simp
    · intro i h1 h2
      simp [Value.cells, Nat.mod_one]
  rw [e] at hr
  exact hr

theorem own_zs (n : Nat) (hn : n ≤ 100000) (w : World) (B : Nat) (hB : B ≤ w.heap.size) : Own (w.alloc (.cells (zsN n).toArray 5 (0, 0))) B (.slice (some ⟨w.heap.size, 0, none⟩) n n) (List.replicate n 0) := by
  unfold Own
  rw [List.length_replicate]
  refine ⟨by simp [cellsB], Or.inr ⟨w.heap.size, n, _, rfl, hB, heap_alloc_new w _, Nat.le_refl _, by unfold maxLen; omega, by simp [zsN], ?_⟩⟩
  have : cellsB (List.replicate n 0) = zsN n := by unfold cellsB zsN; rw [List.map_replicate]; rfl
  rw [this]
  apply List.take_of_length_le
  simp [zsN]

theorem run_make700 (w : World) : (Instr.makeSlice 22 (.int .i64 700) (.int .i64 700)).run Try.prog w = .ok (.slice (some ⟨w.heap.size, 0, none⟩) 700 700) (w.alloc (.cells (zsN 700).toArray 5 (0, 0))) := run_make_zs 700 (by decide) w

set_option maxRecDepth 100000 in
set_option maxHeartbeats 4000000 in
theorem cutParts_walk {w : World} (off : Int) (woff : (Lit.int .i64 off).wf = true) (page : Int) (wpage : (Lit.int .i64 page).wf = true)
    (A : Option Addr) (c : Nat) (l : List UInt8) (hcap : l.length ≤ c ∧ c ≤ maxLen) (hb : Byts w A l) (hl : l.length ≤ 140737488351232) (cut : Int) (wcut : (Lit.int .i64 cut).wf = true) :
    Calls Try.prog 9 #[.int .i64 off, .int .i64 page, .slice A l.length c, .int .i64 cut] w fun e w' => e = .returned (.bool true) ∧ Below w.heap.size w w' := by
  obtain ⟨w0, rfl⟩ : ∃ w0 : World, w0 = w := ⟨_, rfl⟩
  have hs0 := Nat.le_refl w0.heap.size
  clear woff wpage wcut
  by_cases h1 : l.length < 1
  · go_enter Try.func9, Try.ntmps9
    go_wp2_with (go_at_call 19; refine (awake21 _).mono ?_; rintro e w' ⟨rfl, hbel⟩)
    go_ret
    exact ⟨rfl, (below_alloc w0 _).trans (hbel.mono (by simp))⟩
  by_cases h2 : 300 < l.length
  · go_enter Try.func9, Try.ntmps9
    go_wp2_with (go_at_call 19; refine (awake21 _).mono ?_; rintro e w' ⟨rfl, hbel⟩)
    go_ret
    exact ⟨rfl, (below_alloc w0 _).trans (hbel.mono (by simp))⟩
  obtain ⟨o, ho, hol⟩ : ∃ i : Nat, wrap64 ((IntKind.u64.wrap off).tmod 300) = (i : Int) ∧ i < 300 := mod_len off 300 (by decide) (by decide)
  obtain ⟨p, hp, hpl⟩ : ∃ i : Nat, wrap64 ((IntKind.u64.wrap page).tmod 64) = (i : Int) ∧ i < 64 := mod_len page 64 (by decide) (by decide)
  obtain ⟨k, hk, hkl⟩ : ∃ i : Nat, wrap64 ((IntKind.u64.wrap cut).tmod (l.length : Int)) = (i : Int) ∧ i < l.length := mod_len cut l.length (by omega) (by omega)
  have HO := Lib.hid ho
  obtain ⟨pg, hpg⟩ : ∃ x, p + 1 = x := ⟨_, rfl⟩
  have HPP := Lib.hid (show wrap64 (1 + wrap64 ((IntKind.u64.wrap page).tmod 64)) = (pg : Int) by rw [hp, show (1 : Int) + (p : Int) = (pg : Int) by omega]; exact wrap_small pg (by omega))
  have hpg0 : 0 < pg := by omega
  have hpg64 : pg ≤ 64 := by omega
  have HK := Lib.hid hk
  clear ho hp hk hpg
  have hbx := Blk.new w0 [.int .i64 page] 3
  have hb1 := hb.alloc (.cells [.int .i64 page].toArray 3 (0, 0))
  go_enter Try.func9, Try.ntmps9
  go_upto_region 3 with fail
  have c0 := hbx.cell 0 _ rfl
  have f0 := hbx.frz 0
  go_region
  rw [HO.out, HPP.out, HK.out]
  clear HO HPP HK
  go_upto_region 4 with fail
  have hmk := run_make700
  have hmf : ∀ (fn : Fn) (first cap : Array Value) (w : World), (Instr.makeFunc fn first cap).run Try.prog w = .ok (.func fn first cap) w := fun _ _ _ _ => rfl
  have hbx2 := (Blk.new w0 [.int .i64 (pg : Int)] 3).drew
  have hbl2 : Below w0.heap.size w0 (w0.alloc (.cells [.int .i64 (pg : Int)].toArray 3 (0, 0))).drew := (below_alloc w0 _).drew
  have hsz2 : w0.heap.size < (w0.alloc (.cells [.int .i64 (pg : Int)].toArray 3 (0, 0))).drew.heap.size := by simp
  generalize (w0.alloc (.cells [.int .i64 (pg : Int)].toArray 3 (0, 0))).drew = w2 at *
  have hs2 := Nat.le_refl w2.heap.size
  obtain ⟨bx, hbxe⟩ : ∃ b, b = w0.heap.size := ⟨_, rfl⟩
  rw [← hbxe] at hbx2 hsz2 ⊢
  have hbx0 : w0.heap.size ≤ bx := by omega
  clear hbxe c0 f0 hbx
  have o1 : ∀ w3 : World, w2.heap.size ≤ w3.heap.size → Own (w3.alloc (.cells (zsN 700).toArray 5 (0, 0))) w2.heap.size (.slice (some ⟨w3.heap.size, 0, none⟩) 700 700) (List.replicate 700 0) := fun w3 h => own_zs 700 (by decide) w3 _ h
  have O1 := Lib.hid (o1 w2 hs2)
  have O2 := Lib.hid (o1 (w2.alloc (.cells (zsN 700).toArray 5 (0, 0))) (by simp))
  have e1 : (w2.alloc (.cells (zsN 700).toArray 5 (0, 0))).heap.size = w2.heap.size + 1 := by simp
  rw [e1] at O2
  clear o1 e1
  go_cut [9, 10] (fun v9 v10 w' => ∃ g1 g2, v9 = .slice (some ⟨g1, 0, none⟩) 700 700 ∧ v10 = .slice (some ⟨g2, 0, none⟩) 700 700 ∧ g1 ≠ g2 ∧ bx < g1 ∧ bx < g2 ∧
    Own w' w2.heap.size (.slice (some ⟨g1, 0, none⟩) 700 700) (List.replicate 700 0) ∧ Own w' w2.heap.size (.slice (some ⟨g2, 0, none⟩) 700 700) (List.replicate 700 0) ∧ Blk w' bx 3 [.int .i64 (pg : Int)] ∧ Below w0.heap.size w0 w')
  case first =>
    go_region
    all_goals
      go_wp2_with fail
      go_meet
    · exact ⟨_, _, rfl, rfl, by omega, hsz2, by omega, (O1.out.alloc _).below ((Below.refl _ _).drew), O2.out.below ((Below.refl _ _).drew), ((hbx2.alloc _).alloc _).drew, ((hbl2.alloc hbl2.size _).alloc (by have := hbl2.size; simp; omega) _).drew⟩
    · exact ⟨_, _, rfl, rfl, by omega, by omega, hsz2, O2.out.below ((Below.refl _ _).drew), (O1.out.alloc _).below ((Below.refl _ _).drew), ((hbx2.alloc _).alloc _).drew, ((hbl2.alloc hbl2.size _).alloc (by have := hbl2.size; simp; omega) _).drew⟩
  case rest =>
    clear O1 O2 hbx2 hbl2 hb1
    obtain ⟨g1, g2, rfl, rfl, hne, hbg1, hbg2, hx, hy, hbx, hbel⟩ := hcut
    have hol2 := hcap.1
    have hw0 := hbel.size
    have hbA := hb.below hbel
    have hAl : ∀ x, A = some x → 0 < l.length → x.block < w0.heap.size := fun x e h0 => by
      obtain ⟨b', o', e', hc'⟩ := hb.at h0
      rw [e] at e'
      cases e'
      exact World.block_lt_of_cell? w0 _ hc'
    go_upto_region 7 with (go_at_call 30; refine (law_put _ g1 bx _ A _ c l o pg _ hx hbA rfl hol2 hbx hpg0 hpg64 (by omega) (by omega) (fun x e h0 => by have := hAl x e h0; omega)).mono ?_; rintro e w3 ⟨rfl, hx3, ho3⟩)
    have hy3 := hy.only ho3 (by intro x e; simp [Value.ownBlock] at e; simp; omega)
    have hbx3 := hbx.only ho3 (by simp; omega)
    have hbel3 := hbel.trans (ho3.below (by simp; omega) hw0)
    have hbA3 := hb.below hbel3
    clear hx hy hbx hbel hbA ho3
    obtain ⟨b9, o9, rfl, -⟩ := hb.at (k := 0) (by omega)
    have hb9 : b9 < w0.heap.size := hAl _ rfl (by omega)
    have hkc : k ≤ c := by omega
    go_upto_region 8 with (first
      | (go_at_call 30; refine (law_put _ g2 bx _ _ _ c (l.take k) o pg _ hy3 (hbA3.take k) (by rw [List.length_take]; omega) (by rw [List.length_take]; omega) hbx3 hpg0 hpg64 (by rw [List.length_take]; omega) (by omega) (fun x e h0 => by cases e; show b9 ≠ g2; omega)).mono ?_; rintro e w4 ⟨rfl, hy4, ho4⟩)
      | (refine wpList_wanted (by rfl) fun K hK => wp_slice_byts _ _ _ rfl 0 k rfl (Or.inl ⟨rfl, rfl⟩) (Or.inr ⟨_, _, rfl, rfl⟩) (Nat.zero_le _) hkc ?_; intro A5 e1 e2 e3; obtain rfl := e2 _ _ rfl (by omega); refine hK _ _ ?_; clear e1 e2 e3 hK K; (try simp only [Nat.sub_zero, Nat.add_zero])))
    have hx4 := hx3.only ho4 (by intro x e; simp [Value.ownBlock] at e; simp; omega)
    have hbx4 := hbx3.only ho4 (by simp; omega)
    have hs3 := hbel3.size
    have hbel4 := hbel3.trans (ho4.below (by simp; omega) hs3)
    have hbA4 := hb.below hbel4
    have hs4 := hbel4.size
    clear hx3 hy3 hbx3 hbA3 ho4
    obtain ⟨q, hq⟩ : ∃ q, o + k = q := ⟨_, rfl⟩
    have hqi : (o : Int) + (k : Int) = (q : Int) := by omega
    have HQ := Lib.hid hq
    clear hq
    obtain ⟨r, hr⟩ : ∃ r, l.length - k = r := ⟨_, rfl⟩
    have hrl : r = (l.drop k).length := by rw [List.length_drop]; omega
    have HR := Lib.hid hr
    have HRL := Lib.hid hrl
    clear hrl
    go_upto_region 9 with (first
      | (go_at_call 30; refine (law_put _ g2 bx _ _ _ (c - k) (l.drop k) q pg _ hy4 (hbA4.drop k) HRL.out (by rw [List.length_drop]; omega) hbx4 hpg0 hpg64 (by have := HQ.out; rw [List.length_drop]; omega) (by omega) (fun x e h0 => by cases e; show b9 ≠ g2; omega)).mono ?_; rintro e w5 ⟨rfl, hy5, ho5⟩)
      | (refine wpList_wanted (by rfl) fun K hK => wp_slice_byts _ _ _ rfl k l.length rfl (Or.inr ⟨_, _, rfl, rfl⟩) (Or.inl ⟨rfl, rfl⟩) (by omega) hol2 ?_; intro A5 e1 e2 e3; obtain rfl := e2 _ _ rfl (by omega); refine hK _ _ ?_; clear e1 e2 e3 hK K; rw [hr]))
    have hx5 := hx4.only ho5 (by intro x e; simp [Value.ownBlock] at e; simp; omega)
    have hbel5 := hbel4.trans (ho5.below (by simp; omega) hs4)
    have hz0 : (List.replicate 700 (0 : UInt8)).length = 700 := by rw [List.length_replicate]
    have hyy : splice (splice (List.replicate 700 0) o (l.take k)) q (l.drop k) = splice (List.replicate 700 0) o l := by
      rw [← HQ.out]
      exact splice_two _ l o k (by omega) (by omega)
    rw [hyy] at hy5
    have hs5 := hbel5.size
    clear hx4 hy4 hbx4 hbA4 ho5 hyy hqi hr
    go_upto_region 10 with fail
    have hz5 := own_zs 700 (by decide) w5 w5.heap.size (Nat.le_refl _)
    have hy6 := hy5.alloc (.cells (zsN 700).toArray 5 (0, 0))
    have hx6 := hx5.alloc (.cells (zsN 700).toArray 5 (0, 0))
    have hbel6 := hbel5.alloc hs5 (.cells (zsN 700).toArray 5 (0, 0))
    have hg1l := (hx5.lt (k := g1) rfl).2
    have hg2l := (hy5.lt (k := g2) rfl).2
    clear hmk hx5 hy5 hbel5
    generalize w5.alloc (.cells (zsN 700).toArray 5 (0, 0)) = w6 at *
    have hs6 := hbel6.size
    have hbA6 := hb.below hbel6
    generalize w5.heap.size = g3 at *
    have hfit : o + (700 - o) ≤ (List.replicate 700 (0 : UInt8)).length := by rw [List.length_replicate]; omega
    have hoc : o ≤ 700 := by omega
    go_upto_region 11 with (first
      | (refine wpList_wanted (by rfl) fun K hK => wp_slice_byts _ _ _ rfl o 700 rfl (Or.inr ⟨_, _, rfl, rfl⟩) (Or.inl ⟨rfl, rfl⟩) hoc (Nat.le_refl _) ?_; intro A5 e1 e2 e3; obtain rfl := e2 _ _ rfl (by omega); refine hK _ _ ?_; clear e1 e2 e3 hK K; (try simp only [Nat.zero_add]))
      | (refine wpList_wanted (by rfl) fun K hK => wp_copy_byts _ _ rfl o rfl rfl hz5 hbA6 rfl (fun _ => ⟨g3, _, 700, rfl, rfl⟩) hfit ?_; intro w7 hz7 hg7; refine hK _ _ ?_; clear hK K))
    have hwant : (List.replicate 700 (0 : UInt8)).take o ++ l.take (700 - o) ++ (List.replicate 700 0).drop (o + min l.length (700 - o)) = splice (List.replicate 700 0) o l := by
      unfold splice
      rw [List.take_of_length_le (l := l) (by omega), Nat.min_eq_left (by omega)]
    rw [hwant] at hz7
    have hx7 := hx6.grown hg7 (Or.inr (by intro e; simp [Value.ownBlock] at e; omega))
    have hy7 := hy6.grown hg7 (Or.inr (by intro e; simp [Value.ownBlock] at e; omega))
    have hbel7 := hbel6.grown hg7 hs6 (fun k e => by simp [Value.ownBlock] at e; omega)
    obtain ⟨X, hX⟩ : ∃ X, splice (List.replicate 700 (0 : UInt8)) o l = X := ⟨_, rfl⟩
    have hXl : 700 = X.length := by rw [← hX, splice_length _ _ _ (by omega), hz0]
    rw [hX] at hx7 hy7 hz7
    have HXl := Lib.hid hXl
    have hxx : (X == X) = true := by simp
    clear hX hXl hwant hg7 hx6 hy6 hz5 hbel6 hz0
    go_wp2_with (first
      | (go_at_call 19; refine (awake21 _).mono ?_; rintro e w8 ⟨rfl, hb8⟩; have hx8 := hx7.below hb8; have hy8 := hy7.below hb8; have hz8 := hz7.below hb8; have hbel8 := hbel7.trans (hb8.mono hbel7.size))
      | (go_at_call 24; (with_reducible refine (help_bytes _ _ _ _ _ _ _ _ _ hx8.read HXl.out hz8.read HXl.out).mono ?_); rintro e w' ⟨rfl, rfl⟩)
      | (go_at_call 24; (with_reducible refine (help_bytes _ _ _ _ _ _ _ _ _ hy8.read HXl.out hz8.read HXl.out).mono ?_); rintro e w' ⟨rfl, rfl⟩))
    go_ret
    exact ⟨by simp, hbel8⟩

end Go.Proofs.Ytcdbndgmfjlmbaa
