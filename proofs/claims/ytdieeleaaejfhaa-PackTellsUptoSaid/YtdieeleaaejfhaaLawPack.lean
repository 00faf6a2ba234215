/- The walks of the laws on deeds as bytes: what all of them begin with, and PackLists. -/
import Derived.Test.YtdieeleaaejfhaaPackH
import Derived.Test.YtdieeleaaejfhaaPackB
set_option linter.unusedVariables false
set_option maxRecDepth 100000
set_option linter.unusedSimpArgs false
namespace Go.Proofs.Ytdieeleaaejfhaa
open Go.RowKit

/-- Deeds that are laid into a new block. -/
theorem dds_lit {w : World} (ps : List (Dd × IV)) (h : ∀ p ∈ ps, IvIs w p.2 p.1.ino) : DdsAt (w.alloc (.cells (kDd.cells ps).toArray 71 (0, 0))) (some ⟨w.heap.size, 0, none⟩) (ps.map (·.1)) :=
  ⟨ps, rfl, Or.inr ⟨_, _, rfl, fun j u hu => cells_alloc w (kDd.cells ps) 71 (0, 0) j u hu⟩, fun p hp => (h p hp).below (below_alloc w _)⟩
theorem iv_nil (w : World) : IvIs w ⟨none, 0, none, 0⟩ ino0 := ⟨Kind.At.nil _ _ _, Kind.At.nil _ _ _, ⟨Nat.le_refl _, Nat.zero_le _⟩, ⟨Nat.le_refl _, Nat.zero_le _⟩⟩

def awakeD : Dd := ⟨4, 5, ino0⟩
theorem awakeD_ok : ∀ d ∈ [awakeD], DdOk d := fun d hd => by
  simp at hd
  subst hd
  exact Or.inl ⟨by decide, by unfold I64; decide, rfl⟩
theorem awakeD_len : (putDds [awakeD]).length = 9 := by decide

set_option maxHeartbeats 2000000 in
theorem awake13 (w : World) : Calls Try.prog 40 #[] w fun e w' => e = .returned (.bool true) ∧ Below w.heap.size w w' := by
  obtain ⟨w0, rfl⟩ : ∃ w0 : World, w0 = w := ⟨_, rfl⟩
  have hd : DdsAt (w0.alloc (.cells #[.int .i64 4, .int .i64 5, .int .i64 0, .int .i64 0, .int .i64 0, .int .i64 0, .string ByteArray.empty, .slice none 0 0, .slice none 0 0] 71)) (some ⟨w0.heap.size, 0, none⟩) [awakeD] := dds_lit (w := w0) [(awakeD, ⟨none, 0, none, 0⟩)] (fun p hp => by simp at hp; subst hp; exact iv_nil _)
  have hb0 := below_alloc w0 (.cells #[.int .i64 4, .int .i64 5, .int .i64 0, .int .i64 0, .int .i64 0, .int .i64 0, .string ByteArray.empty, .slice none 0 0, .slice none 0 0] 71)
  have hzI : ∀ W : World, (zeroValue 69).run Try.prog W = .ok (.agg #[.int .i64 0, .int .i64 0, .int .i64 0, .int .i64 0, .string ByteArray.empty, .slice none 0 0, .slice none 0 0]) W := fun W => by kernel_rfl
  have hzD : ∀ W : World, (zeroValue 71).run Try.prog W = .ok (.agg #[.int .i64 0, .int .i64 0, .int .i64 0, .int .i64 0, .int .i64 0, .int .i64 0, .string ByteArray.empty, .slice none 0 0, .slice none 0 0]) W := fun W => by kernel_rfl
  have P0 := rdDds_all [awakeD] awakeD_ok
  rw [awakeD_len] at P0
  have P : Hid (rdDds (putDds [awakeD]) (9 + 1) ⟨0, 0⟩ [] = ([awakeD], 0)) := P0
  have L := Lib.hid awakeD_len
  clear P0
  have D := Lib.hid (show ddsW [awakeD] ≤ 4000000 by decide)
  have K := Lib.hid (show [awakeD].length = 1 from rfl)
  have Z : Hid ([awakeD][0]'(by decide) = awakeD) := rfl
  clear Z
  go_enter Try.func40, Try.ntmps40
  go_upto_region 2 with (first
    | (go_at_call 44; refine (pk_deeds _ 1 1 [awakeD] _ hd K.out D.out L.out).mono ?_; rintro e w1 ⟨A1, c1, rfl, hc1, hown1, hb1⟩; have hb10 := hb0.trans (hb1.mono hb0.size))
    | (go_at_call 42; refine (pk_parse A1 9 c1 (putDds [awakeD]) _ hown1.read L.out hc1 (by decide) P.out K.out).mono ?_; rintro e w2 ⟨A2, c2, rfl, hc2, hat2, -, hb2⟩))
  obtain ⟨b, off, v, rfl, -, hcells, -⟩ := hat2.at (i := 0) (by decide)
  have x1 : w2.cell? ⟨b, off + 1, none⟩ = some (.int .i64 5) := hcells 1 _ rfl
  clear hcells hat2 hown1 hd
  go_wp2_with fail
  go_ret
  exact ⟨rfl, hb10.trans (hb2.mono hb10.size)⟩

/-! ### PackLists -/

theorem listDd_ok (t : ByteArray) (h : t.size ≤ 100) : ∀ d ∈ [(⟨2, 0, listIno t⟩ : Dd)], DdOk d := fun d hd => by
  simp at hd
  subst hd
  exact Or.inr ⟨rfl, rfl, listIno_ok t h⟩
theorem listDd_len (t : ByteArray) : (putDds [⟨2, 0, listIno t⟩]).length = 45 + t.size := by
  rw [list_bytes]
  simp only [List.length_append, listHead_length, low_length]
  omega

theorem set4 (P Q : List UInt8) (a b c d a' b' c' d' : UInt8) : ((((P ++ (a :: b :: c :: d :: Q)).set P.length a').set (P.length + 1) b').set (P.length + 2) c').set (P.length + 3) d' = P ++ (a' :: b' :: c' :: d' :: Q) := by
  induction P with
  | nil => rfl
  | cons x P ih =>
    have e1 : (x :: P).length + 1 = (P.length + 1) + 1 := rfl
    have e2 : (x :: P).length + 2 = (P.length + 2) + 1 := rfl
    have e3 : (x :: P).length + 3 = (P.length + 3) + 1 := rfl
    rw [e1, e2, e3]
    simp only [List.cons_append, List.length_cons, List.set_cons_succ]
    rw [ih]
theorem low4_eq (N : Nat) : low N 4 = [UInt8.ofNat (N / 2 ^ (8 * 0)), UInt8.ofNat (N / 2 ^ (8 * 1)), UInt8.ofNat (N / 2 ^ (8 * 2)), UInt8.ofNat (N / 2 ^ (8 * 3))] := rfl
/-- A number of four bytes stored into a row of the call's own. -/
theorem own_low4 {w : World} {B g n c : Nat} {P Q : List UInt8} {M : Nat} (h : Own w B (.slice (some ⟨g, 0, none⟩) n c) (P ++ (low M 4 ++ Q))) {N k k1 k2 k3 : Nat} (hN : N < 4294967296) (hk : P.length = k) (h1 : k1 = k + 1) (h2 : k2 = k + 2) (h3 : k3 = k + 3) :
    Own ((((w.setCell ⟨g, k, none⟩ (.int .u8 ((N : Int) % 256))).setCell ⟨g, k1, none⟩ (.int .u8 ((N : Int) / 256 % 256))).setCell ⟨g, k2, none⟩ (.int .u8 ((N : Int) / 65536 % 256))).setCell ⟨g, k3, none⟩ (.int .u8 ((N : Int) / 16777216))) B (.slice (some ⟨g, 0, none⟩) n c) (P ++ (low N 4 ++ Q)) := by
  subst hk h1 h2 h3
  have b0 := low_byte N 0
  have b1 := low_byte N 1
  have b2 := low_byte N 2
  have b3 := low_byte N 3
  simp only [Nat.mul_zero, Int.pow_zero, Int.ediv_one, Nat.mul_one] at b0 b1 b2 b3
  have e0 : (N : Int) % 256 = ((UInt8.ofNat (N / 2 ^ (8 * 0))).toNat : Int) := by rw [← b0]
  have e1 : (N : Int) / 256 % 256 = ((UInt8.ofNat (N / 2 ^ (8 * 1))).toNat : Int) := by rw [Nat.mul_one, b1]; rfl
  have e2 : (N : Int) / 65536 % 256 = ((UInt8.ofNat (N / 2 ^ (8 * 2))).toNat : Int) := by rw [b2]; rfl
  have e3 : (N : Int) / 16777216 = ((UInt8.ofNat (N / 2 ^ (8 * 3))).toNat : Int) := by
    rw [b3]
    have : (N : Int) / 16777216 < 256 := by omega
    show _ = (N : Int) / 16777216 % 256
    omega
  have z := (((h.set P.length (UInt8.ofNat (N / 2 ^ (8 * 0)))).set (P.length + 1) (UInt8.ofNat (N / 2 ^ (8 * 1)))).set (P.length + 2) (UInt8.ofNat (N / 2 ^ (8 * 2)))).set (P.length + 3) (UInt8.ofNat (N / 2 ^ (8 * 3)))
  rw [low4_eq M] at z
  simp only [List.cons_append, List.nil_append] at z
  rw [set4] at z
  rw [e0, e1, e2, e3, low4_eq N]
  exact z
theorem below_set4 {w w' : World} {K g k k1 k2 k3 : Nat} {v0 v1 v2 v3 : Value} (h : Below K w w') (hg : K ≤ g) : Below K w ((((w'.setCell ⟨g, k, none⟩ v0).setCell ⟨g, k1, none⟩ v1).setCell ⟨g, k2, none⟩ v2).setCell ⟨g, k3, none⟩ v3) :=
  (((h.setCell (p := ⟨g, k, none⟩) hg v0).setCell (p := ⟨g, k1, none⟩) hg v1).setCell (p := ⟨g, k2, none⟩) hg v2).setCell (p := ⟨g, k3, none⟩) hg v3

set_option maxHeartbeats 4000000 in
theorem packLists_walk (n : Int) (wn : Lit.wf (.int .u32 n)) (t : ByteArray) (ht : t.size ≤ 140737488351232) {w : World} : Calls Try.prog 13 #[.int .u32 n, .string t] w fun e w' => e = .returned (.bool true) ∧ Below w.heap.size w w' := by
  obtain ⟨w0, rfl⟩ : ∃ w0 : World, w0 = w := ⟨_, rfl⟩
  by_cases hbig : 100 < t.size
  · have hb : (100 : Int) < (t.size : Int) := by omega
    go_enter Try.func13, Try.ntmps13
    go_wp2_with (go_at_call 40; refine (awake13 _).mono ?_; rintro e w' ⟨rfl, hb'⟩)
    go_ret
    exact ⟨rfl, hb'⟩
  have bn : 0 ≤ n ∧ n < 4294967296 := by simp [Lit.wf, IntKind.min, IntKind.max, IntKind.signed, IntKind.bits] at wn; omega
  clear wn
  obtain ⟨n, rfl⟩ : ∃ k : Nat, n = (k : Int) := ⟨n.toNat, by omega⟩
  have hs : ¬ (100 : Int) < (t.size : Int) := by omega
  have hsz : t.size ≤ 100 := by omega
  obtain ⟨N, HN⟩ : ∃ N : Nat, Hid (1 + n % 2147483648 = N) := ⟨_, rfl⟩
  have hN1 : 1 ≤ N := by rw [← HN.out]; omega
  have hN2 : N < 4294967296 := by rw [← HN.out]; omega
  have hzI : ∀ W : World, (zeroValue 69).run Try.prog W = .ok (.agg #[.int .i64 0, .int .i64 0, .int .i64 0, .int .i64 0, .string ByteArray.empty, .slice none 0 0, .slice none 0 0]) W := fun W => by kernel_rfl
  have hzD : ∀ W : World, (zeroValue 71).run Try.prog W = .ok (.agg #[.int .i64 0, .int .i64 0, .int .i64 0, .int .i64 0, .int .i64 0, .int .i64 0, .string ByteArray.empty, .slice none 0 0, .slice none 0 0]) W := fun W => by kernel_rfl
  have hd : DdsAt (w0.alloc (.cells #[.int .i64 2, .int .i64 0, .int .i64 5, .int .i64 3, .int .i64 0, .int .i64 0, .string t, .slice none 0 0, .slice none 0 0] 71)) (some ⟨w0.heap.size, 0, none⟩) [⟨2, 0, listIno t⟩] := dds_lit (w := w0) [(⟨2, 0, listIno t⟩, ⟨none, 0, none, 0⟩)] (fun p hp => by simp at hp; subst hp; exact ⟨Kind.At.nil _ _ _, Kind.At.nil _ _ _, ⟨Nat.le_refl _, Nat.zero_le _⟩, ⟨Nat.le_refl _, Nat.zero_le _⟩⟩)
  have hb0 := below_alloc w0 (.cells #[.int .i64 2, .int .i64 0, .int .i64 5, .int .i64 3, .int .i64 0, .int .i64 0, .string t, .slice none 0 0, .slice none 0 0] 71)
  have D := Lib.hid (show ddsW [⟨2, 0, listIno t⟩] ≤ 4000000 by simp [ddsW, inoW, listIno, entsW]; omega)
  have K := Lib.hid (show [(⟨2, 0, listIno t⟩ : Dd)].length = 1 from rfl)
  obtain ⟨m, hm⟩ : ∃ m, m = 45 + t.size := ⟨_, rfl⟩
  have L : Hid ((putDds [⟨2, 0, listIno t⟩]).length = m) := by show _ = _; rw [hm]; exact listDd_len t
  have P3 : Hid (rdDds (putDds [⟨2, 0, listIno t⟩]) (m + 1) ⟨0, 0⟩ [] = ([⟨2, 0, listIno t⟩], 0)) := by
    show _ = _
    have := rdDds_all _ (listDd_ok t hsz)
    rwa [L.out] at this
  have hm12 : ¬ (m : Int) < 12 := by omega
  have hm1 : m ≤ 200 := by omega
  have hm2 : 45 ≤ m := by omega
  have HMT := Lib.hid hm
  clear hm
  go_enter Try.func13, Try.ntmps13
  have hw : IntKind.u32.wrap (1 + (n : Int) % 2147483648) = (N : Int) := by rw [IntWalk.u32_in _ (by omega)]; rw [← HN.out]; omega
  have hw2 : IntKind.u32.wrap (1 + (n : Int).tmod 2147483648) = (N : Int) := by rw [Int.tmod_eq_emod_of_nonneg bn.1]; exact hw
  go_upto_region 4 with fail
  clear hw hw2
  go_upto_region 5 with (go_at_call 44; refine (pk_deeds _ 1 1 _ _ hd K.out D.out L.out).mono ?_; rintro e w1 ⟨A1, c1, rfl, hc1, hown1, hb1⟩; have hb10 := hb0.trans (hb1.mono hb0.size))
  clear hd hb0 hb1 hzI hzD
  have hs1 := hb10.size
  go_upto_region 7 with (go_at_call 40; refine (awake13 _).mono ?_; rintro e w2 ⟨rfl, hb2⟩)
  have hy2 := hown1.read.below hb2
  have hb20 := hb10.trans (hb2.mono hs1)
  clear hown1 hb2 hb10 hs1
  have hs2 := Nat.le_refl w2.heap.size
  generalize hB : putDds [⟨2, 0, listIno t⟩] = B at *
  have HB := Lib.hid hB
  clear hB
  have hla := Lib.hid (show ([] : List UInt8).length + B.length ≤ 140737488355328 by rw [L.out]; simp; omega)
  have hnil := Own.nil w2 w2.heap.size
  go_upto_region 8 with (at_builtin; refine wpList_wanted (by rfl) fun K hK => wp_append_byts _ _ rfl rfl rfl hnil hy2 L.out.symm hla.out hs2 ?_; intro v3 w3 hown3 hb3 hz3; refine hK _ _ ?_; clear hK K)
  rw [List.nil_append] at hown3
  obtain ⟨gx, c3, rfl, hc3, hg1, hg2, hcell3, hfrz3⟩ := hown3.form (by rw [L.out]; omega)
  rw [L.out] at hc3 hown3 ⊢
  have hb30 : Below w0.heap.size w0 w3 := hb20.trans (((Below.refl _ _).grown hb3 hs2 (fun k e => (hnil.lt e).1)).mono hb20.size)
  have hb23 : Below w2.heap.size w2 w3 := (Below.refl _ _).grown hb3 hs2 (fun k e => (hnil.lt e).1)
  have hs20 := hb20.size
  clear hnil hb3 hz3 hb20
  obtain ⟨k, hk⟩ : ∃ k, m = k + 4 := ⟨m - 4, by omega⟩
  have hkI : (m : Int) - 4 = (k : Int) := by omega
  have hk1 : 41 ≤ k := by omega
  have hk2 : k ≤ 196 := by omega
  have HK := Lib.hid hk
  clear hk
  obtain ⟨k1, hk11⟩ : ∃ x, x = k + 1 := ⟨_, rfl⟩
  obtain ⟨k2, hk22⟩ : ∃ x, x = k + 2 := ⟨_, rfl⟩
  obtain ⟨k3, hk33⟩ : ∃ x, x = k + 3 := ⟨_, rfl⟩
  have i1 : (k : Int) + 1 = (k1 : Int) := by omega
  have i2 : (k : Int) + 2 = (k2 : Int) := by omega
  have i3 : (k : Int) + 3 = (k3 : Int) := by omega
  have j0 : (k : Int) < (m : Int) := by omega
  have j1 : (k1 : Int) < (m : Int) := by omega
  have j2 : (k2 : Int) < (m : Int) := by omega
  have j3 : (k3 : Int) < (m : Int) := by omega
  have b1 : k1 ≤ 199 := by omega
  have b2 : k2 ≤ 199 := by omega
  have b3 : k3 ≤ 199 := by omega
  obtain ⟨x0, e0⟩ : ∃ x, w3.cell? ⟨gx, k, none⟩ = some x := ⟨_, hcell3 k (by rw [L.out, HK.out]; omega)⟩
  obtain ⟨x1, e1⟩ : ∃ x, w3.cell? ⟨gx, k1, none⟩ = some x := ⟨_, hcell3 k1 (by rw [L.out, HK.out]; omega)⟩
  obtain ⟨x2, e2⟩ : ∃ x, w3.cell? ⟨gx, k2, none⟩ = some x := ⟨_, hcell3 k2 (by rw [L.out, HK.out]; omega)⟩
  obtain ⟨x3, e3⟩ : ∃ x, w3.cell? ⟨gx, k3, none⟩ = some x := ⟨_, hcell3 k3 (by rw [L.out, HK.out]; omega)⟩
  have f0 := hfrz3 k
  have f1 := hfrz3 k1
  have f2 := hfrz3 k2
  have f3 := hfrz3 k3
  have HKK := Lib.hid (And.intro hk11 (And.intro hk22 hk33))
  clear hk11 hk22 hk33 hcell3 hfrz3
  go_upto_region 10 with fail
  have hB1 : B = listHead t ++ (low 0 4 ++ low 0 4) := by rw [← HB.out, list_bytes]
  have hPk : (listHead t ++ low 0 4).length = k := by rw [List.length_append, listHead_length, low_length]; have := HMT.out; have := HK.out; omega
  have hX : Hid (rdDds (listHead t ++ (low 0 4 ++ low N 4)) (m + 1) ⟨0, 0⟩ [] = ([], 3)) := list_dd hsz rfl (list_runs hsz hN1 hN2 rfl) (by simp only [List.length_append, listHead_length]; omega) m
  have hXL : Hid ((listHead t ++ (low 0 4 ++ low N 4)).length = m) := by show _ = _; simp only [List.length_append, listHead_length, low_length]; have := HMT.out; omega
  rw [hB1, show listHead t ++ (low 0 4 ++ low 0 4) = (listHead t ++ low 0 4) ++ (low 0 4 ++ []) by simp] at hown3
  have hown4 := own_low4 hown3 hN2 hPk HKK.out.1 HKK.out.2.1 HKK.out.2.2
  rw [show (listHead t ++ low 0 4) ++ (low N 4 ++ []) = listHead t ++ (low 0 4 ++ low N 4) by simp] at hown4
  have hb24 := below_set4 (k := k) (k1 := k1) (k2 := k2) (k3 := k3) (v0 := .int .u8 ((N : Int) % 256)) (v1 := .int .u8 ((N : Int) / 256 % 256)) (v2 := .int .u8 ((N : Int) / 65536 % 256)) (v3 := .int .u8 ((N : Int) / 16777216)) hb23 hg1
  have hb40 := below_set4 (k := k) (k1 := k1) (k2 := k2) (k3 := k3) (v0 := .int .u8 ((N : Int) % 256)) (v1 := .int .u8 ((N : Int) / 256 % 256)) (v2 := .int .u8 ((N : Int) / 65536 % 256)) (v3 := .int .u8 ((N : Int) / 16777216)) hb30 (Nat.le_trans hs20 hg1)
  have hy4 := hy2.below hb24
  have hx4 := hown4.read
  generalize (((w3.setCell ⟨gx, k, none⟩ (.int .u8 ((N : Int) % 256))).setCell ⟨gx, k1, none⟩ (.int .u8 ((N : Int) / 256 % 256))).setCell ⟨gx, k2, none⟩ (.int .u8 ((N : Int) / 65536 % 256))).setCell ⟨gx, k3, none⟩ (.int .u8 ((N : Int) / 16777216)) = w4 at *
  clear hown3 hown4 hb23 hb24 hb30 e0 e1 e2 e3 f0 f1 f2 f3 i1 i2 i3 j0 j1 j2 j3 hg2 hPk HKK b1 b2 b3 hy2 hs2 hs20
  generalize listHead t ++ (low 0 4 ++ low N 4) = X at *
  go_upto_region 11 with (go_at_call 42; refine (pk_parse _ m c3 X _ hx4 hXL.out hc3 (by omega) hX.out rfl).mono ?_; rintro e w5 ⟨A5, c5, rfl, hc5, -, -, hb5⟩)
  have hy5 := hy4.below hb5
  have hb50 := hb40.trans (hb5.mono hb40.size)
  have hs5 := Nat.le_refl w5.heap.size
  have hnil := Own.nil w5 w5.heap.size
  clear hx4 hy4 hb40 hb5
  go_upto_region 12 with (at_builtin; refine wpList_wanted (by rfl) fun K hK => wp_append_byts _ _ rfl rfl rfl hnil hy5 L.out.symm hla.out hs5 ?_; intro v6 w6 hown6 hb6 hz6; refine hK _ _ ?_; clear hK K)
  rw [List.nil_append] at hown6
  obtain ⟨gy, c6, rfl, hc6, hg1, hg2, hcell6, hfrz6⟩ := hown6.form (by rw [L.out]; omega)
  rw [L.out] at hc6 hown6 ⊢
  have hs50 := hb50.size
  have hb60 : Below w0.heap.size w0 w6 := hb50.trans (((Below.refl _ _).grown hb6 hs5 (fun k e => (hnil.lt e).1)).mono hb50.size)
  have hb56 : Below w5.heap.size w5 w6 := (Below.refl _ _).grown hb6 hs5 (fun k e => (hnil.lt e).1)
  clear hnil hb6 hz6 hb50
  obtain ⟨q0, hq0⟩ : ∃ x, k = x + 4 := ⟨k - 4, by omega⟩
  obtain ⟨q1, hq1⟩ : ∃ x, x = q0 + 1 := ⟨_, rfl⟩
  obtain ⟨q2, hq2⟩ : ∃ x, x = q0 + 2 := ⟨_, rfl⟩
  obtain ⟨q3, hq3⟩ : ∃ x, x = q0 + 3 := ⟨_, rfl⟩
  have i0 : (k : Int) - 4 = (q0 : Int) := by omega
  have i1 : (k : Int) - 3 = (q1 : Int) := by omega
  have i2 : (k : Int) - 2 = (q2 : Int) := by omega
  have i3 : (k : Int) - 1 = (q3 : Int) := by omega
  have j0 : (q0 : Int) < (m : Int) := by have := HK.out; omega
  have j1 : (q1 : Int) < (m : Int) := by have := HK.out; omega
  have j2 : (q2 : Int) < (m : Int) := by have := HK.out; omega
  have j3 : (q3 : Int) < (m : Int) := by have := HK.out; omega
  have b0 : q0 ≤ 199 := by omega
  have b1 : q1 ≤ 199 := by omega
  have b2 : q2 ≤ 199 := by omega
  have b3 : q3 ≤ 199 := by omega
  obtain ⟨x0, e0⟩ : ∃ x, w6.cell? ⟨gy, q0, none⟩ = some x := ⟨_, hcell6 q0 (by rw [L.out]; omega)⟩
  obtain ⟨x1, e1⟩ : ∃ x, w6.cell? ⟨gy, q1, none⟩ = some x := ⟨_, hcell6 q1 (by rw [L.out]; omega)⟩
  obtain ⟨x2, e2⟩ : ∃ x, w6.cell? ⟨gy, q2, none⟩ = some x := ⟨_, hcell6 q2 (by rw [L.out]; omega)⟩
  obtain ⟨x3, e3⟩ : ∃ x, w6.cell? ⟨gy, q3, none⟩ = some x := ⟨_, hcell6 q3 (by rw [L.out]; omega)⟩
  have f0 := hfrz6 q0
  have f1 := hfrz6 q1
  have f2 := hfrz6 q2
  have f3 := hfrz6 q3
  have HKK := Lib.hid (And.intro hq0 (And.intro hq1 (And.intro hq2 hq3)))
  clear hq0 hq1 hq2 hq3 hcell6 hfrz6
  go_upto_region 13 with fail
  have hPk : (listHead t).length = q0 := by rw [listHead_length]; have := HMT.out; have := HK.out; have := HKK.out.1; omega
  have hY : Hid (rdDds (listHead t ++ (low N 4 ++ low 0 4)) (m + 1) ⟨0, 0⟩ [] = ([], 3)) := list_dd hsz rfl (list_ents hsz hN1 hN2 rfl) (by simp only [List.length_append, listHead_length]; omega) m
  have hYL : Hid ((listHead t ++ (low N 4 ++ low 0 4)).length = m) := by show _ = _; simp only [List.length_append, listHead_length, low_length]; have := HMT.out; omega
  rw [hB1] at hown6
  have hown7 := own_low4 hown6 hN2 hPk HKK.out.2.1 HKK.out.2.2.1 HKK.out.2.2.2
  have hb57 := below_set4 (k := q0) (k1 := q1) (k2 := q2) (k3 := q3) (v0 := .int .u8 ((N : Int) % 256)) (v1 := .int .u8 ((N : Int) / 256 % 256)) (v2 := .int .u8 ((N : Int) / 65536 % 256)) (v3 := .int .u8 ((N : Int) / 16777216)) hb56 hg1
  have hb70 := below_set4 (k := q0) (k1 := q1) (k2 := q2) (k3 := q3) (v0 := .int .u8 ((N : Int) % 256)) (v1 := .int .u8 ((N : Int) / 256 % 256)) (v2 := .int .u8 ((N : Int) / 65536 % 256)) (v3 := .int .u8 ((N : Int) / 16777216)) hb60 (Nat.le_trans hs50 hg1)
  have hy7 := hy5.below hb57
  have hx7 := hown7.read
  generalize (((w6.setCell ⟨gy, q0, none⟩ (.int .u8 ((N : Int) % 256))).setCell ⟨gy, q1, none⟩ (.int .u8 ((N : Int) / 256 % 256))).setCell ⟨gy, q2, none⟩ (.int .u8 ((N : Int) / 65536 % 256))).setCell ⟨gy, q3, none⟩ (.int .u8 ((N : Int) / 16777216)) = w7 at *
  clear hown6 hown7 hb56 hb57 hb60 e0 e1 e2 e3 f0 f1 f2 f3 i0 i1 i2 i3 j0 j1 j2 j3 hg2 hPk HKK b0 b1 b2 b3 hy5 hs5 hs50
  generalize listHead t ++ (low N 4 ++ low 0 4) = Y at *
  go_upto_region 14 with (go_at_call 42; refine (pk_parse _ m c6 Y _ hx7 hYL.out hc6 (by omega) hY.out rfl).mono ?_; rintro e w8 ⟨A8, c8, rfl, hc8, -, -, hb8⟩)
  have hy8 := hy7.below hb8
  have hb80 := hb70.trans (hb8.mono hb70.size)
  clear hx7 hy7 hb70 hb8
  go_upto_region 15 with (go_at_call 42; refine (pk_parse A1 m c1 B _ hy8 L.out hc1 (by omega) P3.out rfl).mono ?_; rintro e w9 ⟨A9, c9, rfl, hc9, -, -, hb9⟩)
  have hb90 := hb80.trans (hb9.mono hb80.size)
  clear hy8 hb80 hb9
  go_wp2_with fail
  go_ret
  exact ⟨rfl, hb90⟩
end Go.Proofs.Ytdieeleaaejfhaa
