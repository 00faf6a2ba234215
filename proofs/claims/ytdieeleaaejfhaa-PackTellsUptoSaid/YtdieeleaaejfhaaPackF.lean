/- The law's own helpers: few, clean. -/
import Derived.Test.YtdieeleaaejfhaaPackU
import Derived.Test.YtdieeleaaejfhaaLawPack
set_option linter.unusedVariables false
set_option maxRecDepth 100000
set_option linter.unusedSimpArgs false
namespace Go.Proofs.Ytdieeleaaejfhaa
open Go.RowKit

theorem ddsW_take_le (l : List Dd) (k : Nat) : ddsW (l.take k) ≤ ddsW l := by
  have : l = l.take k ++ l.drop k := (List.take_append_drop k l).symm
  conv => rhs; rw [this]
  unfold ddsW
  rw [List.map_append, List.sum_append]
  omega
theorem entsW_take_le (l : List Ent) (k : Nat) : entsW (l.take k) ≤ entsW l := by
  have : l = l.take k ++ l.drop k := (List.take_append_drop k l).symm
  conv => rhs; rw [this]
  unfold entsW
  rw [List.map_append, List.sum_append]
  omega
theorem entsW_ge (l : List Ent) : l.length ≤ entsW l := by
  induction l with
  | nil => simp
  | cons e l ih => rw [entsW_cons, List.length_cons]; omega
theorem inoW_le_ddsW {ds : List Dd} {d : Dd} (h : d ∈ ds) : inoW d.ino ≤ ddsW ds := by
  induction ds with
  | nil => cases h
  | cons x r ih =>
    rw [ddsW_cons]
    cases List.mem_cons.1 h with
    | inl e => subst e; omega
    | inr e => have := ih e; omega

set_option maxHeartbeats 2000000 in
theorem law_few (A : Option Addr) (k c : Nat) (ds : List Dd) (w : World) (hd : DdsAt w A ds) (hk : ds.length = k) (hl : ddsW ds ≤ 20000000) (hkl : k ≤ 20000000) :
    Calls Try.prog 39 #[.slice A k c] w fun e w' => e = .returned (.bool (decide (ddsW ds ≤ 4000))) ∧ Below w.heap.size w w' := by
  obtain ⟨w0, rfl⟩ : ∃ w0 : World, w0 = w := ⟨_, rfl⟩
  have hs0 := Nat.le_refl w0.heap.size
  have HK := Lib.hid hk
  clear hk
  have hzI : ∀ W : World, (zeroValue 69).run Try.prog W = .ok (.agg #[.int .i64 0, .int .i64 0, .int .i64 0, .int .i64 0, .string ByteArray.empty, .slice none 0 0, .slice none 0 0]) W := fun W => by kernel_rfl
  go_enter Try.func39, Try.ntmps39
  go_upto_region 3 with fail
  go_loopw [3, 4] (fun v3 v4 wr => ∃ j : Nat, j ≤ k ∧ v4 = .int .i64 (j : Int) ∧ v3 = .int .i64 ((ddsW (ds.take j) : Nat) : Int) ∧ Below w0.heap.size w0 wr) (fun _ v4 _ => k - (intOf v4).toNat)
  case atStart => exact ⟨0, by omega, rfl, by simp [ddsW], Below.refl _ _⟩
  case round =>
    obtain ⟨j, hj, rfl, rfl, hbel⟩ := hrel
    have hsr := hbel.size
    by_cases hlt : j < k
    · obtain ⟨b, off, v, rfl, hb, hc, hiv⟩ := hd.at (i := j) (by rw [HK.out]; exact hlt)
      have hltI : (j : Int) < (k : Int) := by omega
      have hsn : ds.take (j + 1) = ds.take j ++ [ds[j]'(by rw [HK.out]; exact hlt)] := by rw [List.take_succ_eq_append_getElem]
      have htk := ddsW_take_le ds (j + 1)
      have hmem := List.getElem_mem (by rw [HK.out]; exact hlt : j < ds.length)
      have hiv2 := hiv.below hbel
      rw [hsn, ddsW_snoc] at htk
      have hc' : ∀ i u, (ddCells (ds[j]'(by rw [HK.out]; exact hlt)) v)[i]? = some u → wr.cell? ⟨b, off + j * 9 + i, none⟩ = some u := fun i u hu => (hbel.cell hb).trans (hc i u hu)
      clear hc hiv
      generalize ds[j]'_ = d at *
      rcases d with ⟨dk, dn, ⟨xn, xk, xl, xs, tg, es, rs⟩⟩
      rcases v with ⟨EA, Ec, RA, Rc⟩
      have q2 := hc' 2 _ rfl
      have q3 := hc' 3 _ rfl
      have q4 := hc' 4 _ rfl
      have q5 := hc' 5 _ rfl
      have q6 := hc' 6 _ rfl
      have q7 := hc' 7 _ rfl
      have q8 := hc' 8 _ rfl
      simp only at q2 q3 q4 q5 q6 q7 q8
      simp only at htk hiv2
      obtain ⟨D, hD⟩ : ∃ x, ddsW (ds.take j) = x := ⟨_, rfl⟩
      obtain ⟨wo, rfl⟩ : ∃ wo, wo = wr := ⟨_, rfl⟩
      rw [hD] at htk ⊢
      have HSN : Hid (∀ x, x = D + (10 + tg.size + rs.length + entsW es) → x = ddsW (ds.take (j + 1))) := fun x hx => by rw [hsn, ddsW_snoc, hD]; exact hx
      have htk' : D + (10 + tg.size + rs.length + entsW es) ≤ 20000000 := Nat.le_trans htk hl
      have hen := entsW_ge es
      go_upto_region 6 with fail
      have hbx := Blk.new wo [.int .i64 xn, .int .i64 xk, .int .i64 xl, .int .i64 xs, .string tg, .slice EA es.length Ec, .slice RA rs.length Rc] 69
      have hba := below_alloc wo (.cells #[.int .i64 xn, .int .i64 xk, .int .i64 xl, .int .i64 xs, .string tg, .slice EA es.length Ec, .slice RA rs.length Rc] 69)
      have hE := (hiv2.below hba).e
      have hec := hiv2.ec
      simp only at hE hec
      have hb5 := hbel.trans (hba.mono hsr)
      have c4 := hbx.cell 4 _ rfl
      have c5 := hbx.cell 5 _ rfl
      have c6 := hbx.cell 6 _ rfl
      clear hsn htk hiv2 hba hbx q2 q3 q4 q5 q6 q7 q8 hc' hb hzI
      obtain ⟨ne, hne⟩ : ∃ x, es.length = x := ⟨_, rfl⟩
      obtain ⟨nr, hnr⟩ : ∃ x, rs.length = x := ⟨_, rfl⟩
      rw [hnr] at HSN htk' c4 c5 c6 hb5 hE ⊢
      rw [hne] at hen c4 c5 c6 hec hb5 hE ⊢
      have HNE := Lib.hid hne
      clear hne hnr
      generalize wo.alloc (.cells #[.int .i64 xn, .int .i64 xk, .int .i64 xl, .int .i64 xs, .string tg, .slice EA ne Ec, .slice RA nr Rc] 69) = w5 at *
      go_upto_region 8 with fail
      go_loopw [3, 6] (fun v3 v6 wr => ∃ i : Nat, i ≤ ne ∧ v6 = .int .i64 (i : Int) ∧ v3 = .int .i64 ((D + 10 + tg.size + nr + entsW (es.take i) : Nat) : Int) ∧ wr = w5) (fun _ v6 _ => ne - (intOf v6).toNat)
      case atStart => exact ⟨0, by omega, rfl, by simp [entsW], rfl⟩
      case round =>
        obtain ⟨i, hi, rfl, rfl, rfl⟩ := hrel
        by_cases hlt2 : i < ne
        · obtain ⟨b2, off2, rfl, hb2, hc2⟩ := hE.at (i := i) (by rw [HNE.out]; exact hlt2)
          have hltI2 : (i : Int) < (ne : Int) := by omega
          have hsn2 : es.take (i + 1) = es.take i ++ [es[i]'(by rw [HNE.out]; exact hlt2)] := by rw [List.take_succ_eq_append_getElem]
          have htk2 := entsW_take_le es (i + 1)
          have y0 : wr.cell? ⟨b2, off2 + i * 2, none⟩ = some (.string (es[i]'(by rw [HNE.out]; exact hlt2)).name) := hc2 0 _ rfl
          rw [hsn2, entsW_snoc] at htk2
          clear hc2
          generalize es[i]'_ = en at *
          obtain ⟨E0, hE0⟩ : ∃ x, D + 10 + tg.size + nr + entsW (es.take i) = x := ⟨_, rfl⟩
          have HE2 : Hid (D + 10 + tg.size + nr + entsW (es.take (i + 1)) = E0 + 10 + en.name.size) := by show _ = _; rw [hsn2, entsW_snoc]; omega
          have hE1 : E0 + 10 + en.name.size ≤ 20000000 := by omega
          rw [hE0]
          have hi2 : i ≤ 20000000 := by omega
          clear hsn2 htk2 hE0
          go_wp2_with fail
          go_roundw
          case rel => exact ⟨i + 1, by omega, by go_num, by rw [HE2.out]; go_num, (by first | rfl | trivial)⟩
          case measure => simp [intOf]; omega
        · obtain rfl : i = ne := by omega
          have e0 : es.take i = es := by rw [← HNE.out]; exact List.take_length
          rw [e0]
          have HX := HSN.out (D + 10 + tg.size + nr + entsW es) (by omega)
          go_wp2_with fail
          go_roundw
          case rel => exact ⟨j + 1, by omega, by go_num, by rw [← HX], hb5⟩
          case measure => simp [intOf]; omega
    · obtain rfl : j = k := by omega
      have e0 : ds.take j = ds := by rw [← HK.out]; exact List.take_length
      rw [e0]
      go_wp2_with fail
      go_ret
      refine ⟨?_, hbel⟩
      congr 2
      simp
      omega
end Go.Proofs.Ytdieeleaaejfhaa
