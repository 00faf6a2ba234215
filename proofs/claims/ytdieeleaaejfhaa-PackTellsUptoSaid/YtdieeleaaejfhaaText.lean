/- The document's Put, codec's PutInt, GetInt, and both ways of texts. -/
import Derived.Test.YtdieeleaaejfhaaGet
import Derived.Lib.AppendStr
set_option linter.unusedVariables false
set_option maxRecDepth 100000
namespace Go.Proofs.Ytdieeleaaejfhaa
open Go.RowKit

/-- append(v, s...): a text's bytes. -/
theorem wp_append_text {o : Oper} {a : Act} {w : World} {K : Act → World → Prop} {Q : Exit → Act → World → Prop} (s x : Operand)
    (ho : o.op = .call { callee := .builtin .append, args := #[s, x], argTypes := #[43, 9] })
    {B : Nat} {v : Value} {l : List UInt8} {t : ByteArray} (hs : a.eval s = v) (hx : a.eval x = .string t) (hown : Own w B v l)
    (hlen : l.length + t.size ≤ 140737488355328) (hB : B ≤ w.heap.size)
    (h : ∀ v' w', Own w' B v' (l ++ t.data.toList) → w.grownBy w' v.ownBlock → K (a.put o.dst v') w') : o.wp Try.prog a w K Q := by
  obtain ⟨i0, hi, hz0, hz1, hz2⟩ := info_parts info_u8
  obtain ⟨v', w', hr, h1, h2, h3⟩ := Lib.run_append_own_string (P := Try.prog) w B 43 9 o.type 5 i0 Try.underlying43 Try.underlying9 hi hz0 hz1 hz2 v l.length (cellsB l) hown t
    (by unfold maxLen; omega) hlen hB
  unfold Oper.wp execOp
  simp only [ho, resolve, invoke, builtin, Sem.run_bind, Sem.run_pure, Result.andThen_ok, List.map_toArray, List.map_cons, List.map_nil, hs, hx]
  rw [hr]
  refine h v' w' ?_ h2
  unfold Own
  rw [cellsB_append, List.length_append, Array.length_toList]
  exact h1

theorem codec_get' (A : Option Addr) (k c : Nat) (l : List UInt8) (off n : Int) (w : World) {x y : Nat} (hx : getR l off n = (x, y)) (hb : Byts w A l) (hk : k = l.length) (hc : l.length ≤ c) (hl : l.length ≤ 140737488355328)
    (ho1 : -9223372036854775808 ≤ off) (ho2 : off ≤ 9223372036854775807) (hn1 : -9223372036854775808 ≤ n) (hn2 : n ≤ 9223372036854775807) :
    Calls Try.prog 57 #[.slice A k c, .int .i64 off, .int .i64 n] w fun e w' => e = .returned (.tuple #[.int .u64 (x : Int), .int .i64 (y : Int)]) ∧ w' = w :=
  (codec_get A k c l off n w hb hk hc hl ho1 ho2 hn1 hn2).mono (by rintro e w' ⟨rfl, rfl⟩; rw [hx]; exact ⟨rfl, rfl⟩)

theorem ref_get' (A : Option Addr) (k c : Nat) (l : List UInt8) (off n : Int) (w : World) {x y : Nat} (hx : getR l off n = (x, y)) (hb : Byts w A l) (hk : k = l.length) (hl : l.length ≤ 140737488355328)
    (ho1 : -9223372036854775808 ≤ off) (ho2 : off ≤ 9223372036854775807) (hn1 : -9223372036854775808 ≤ n) (hn2 : n ≤ 9223372036854775807) :
    Calls Try.prog 59 #[.slice A k c, .int .i64 off, .int .i64 n] w fun e w' => e = .returned (.tuple #[.int .u64 (x : Int), .int .i64 (y : Int)]) ∧ ∃ m, w' = w.drewN m :=
  (ref_get A k c l off n w hb hk hl ho1 ho2 hn1 hn2).mono (by rintro e w' ⟨rfl, h⟩; rw [hx]; exact ⟨rfl, h⟩)

set_option maxRecDepth 100000 in
set_option maxHeartbeats 2000000 in
theorem ref_put (A : Option Addr) (n c : Nat) (l : List UInt8) (v : Nat) (k : Int) (w : World) (hb : Byts w A l) (hn : n = l.length) (hl : l.length ≤ 140737488355000) (hv : v < 18446744073709551616) (hk1 : -9223372036854775808 ≤ k) (hk2 : k ≤ 9223372036854775807) :
    Calls Try.prog 56 #[.slice A n c, .int .u64 (v : Int), .int .i64 k] w (Ret fun r w' => Own w' w.heap.size r (l ++ low v (putN k)) ∧ Below w.heap.size w w') := by
  subst hn
  obtain ⟨w0, rfl⟩ : ∃ w0 : World, w0 = w := ⟨_, rfl⟩
  have hs0 := Nat.le_refl w0.heap.size
  have hl2 : l.length ≤ 140737488355328 := by omega
  obtain ⟨q, hq⟩ : ∃ q, putN k = q := ⟨_, rfl⟩
  have hq8 : q ≤ 8 := by unfold putN at hq; omega
  have hqi : (k ≤ 0 → q = 0) ∧ (0 ≤ k → ¬ 8 < k → (q : Int) = k) ∧ (8 < k → q = 8) := by unfold putN at hq; omega
  rw [hq]
  clear hq
  have HQ := Lib.hid hqi
  clear hqi
  go_enter Try.func56, Try.ntmps56
  go_upto_region 3 with (at_builtin; refine wpList_wanted (by rfl) fun K hK => wp_clone_byts _ rfl rfl hb rfl hl2 hs0 ?_; intro r w1 hown hbel hown2; refine hK _ _ ?_; clear hK K)
  go_loopw [7, 8] (fun v7 v8 wr => ∃ j : Nat, j ≤ q ∧ v8 = .int .i64 (j : Int) ∧ Own wr w0.heap.size v7 (l ++ low v j) ∧ Below w0.heap.size w0 wr) (fun _ v8 _ => q - (intOf v8).toNat)
  case atStart => exact ⟨0, Nat.zero_le _, rfl, by simpa [low] using hown, hbel⟩
  case round =>
    clear hown hbel hown2
    obtain ⟨j, hj, rfl, hown, hbel⟩ := hrel
    have hsz := hbel.size
    go_upto_region 3 with fail
    go_cut [15] (fun v15 w' => v15 = .bool (decide (j < q)) ∧ w' = wr)
    case first =>
      by_cases hk0 : ¬ 0 < k
      · have hq0 := Lib.hid (HQ.out.1 (by omega))
        go_wp2_with fail
        go_meet
        (have := hq0.out; exact ⟨by first | (simp [this]; done) | (simp [this]; omega), rfl⟩)
      · by_cases hk8 : ¬ 8 < k
        · have hq0 := Lib.hid (HQ.out.2.1 (by omega) (by omega))
          go_wp2_with fail
          go_meet
          (have := hq0.out; exact ⟨by simp [← this], rfl⟩)
        · have hq0 := Lib.hid (HQ.out.2.2 (by omega))
          go_wp2_with fail
          go_meet
          (have := hq0.out; exact ⟨by first | (simp [this]; done) | (simp [this]; omega), rfl⟩)
    case rest =>
      obtain ⟨rfl, hw⟩ := hcut
      obtain rfl := hw.symm
      by_cases hlt : j < q
      · have hb8 := low_byte v j
        have hone := byts_one wr (UInt8.ofNat (v / 2 ^ (8 * j)))
        rw [hb8] at hone
        have hown1 := hown.alloc (.cells #[.int .u8 ((v : Int) / 2 ^ (8 * j) % 256)] 5)
        have hlen1 : (l ++ low v j).length + 1 ≤ 140737488355328 := by simp [low_length]; omega
        have hsz2 : w0.heap.size ≤ (wr.alloc (.cells #[.int .u8 ((v : Int) / 2 ^ (8 * j) % 256)] 5)).heap.size := by simp; omega
        have H2 : Hid (l ++ low v (j + 1) = l ++ low v j ++ [UInt8.ofNat (v / 2 ^ (8 * j))]) := by show _ = _; rw [low_succ, List.append_assoc]
        have hlow := fun e => (hown.lt (k := e)) 
        clear hb8
        go_wp2_with (at_builtin; go_must (refine wpList_wanted (by rfl) fun K hK => wp_append_byts _ _ rfl rfl rfl hown1 hone rfl hlen1 hsz2 ?_; intro v' w' g1 g2 g3; refine hK _ _ ?_; clear hK K))
        go_roundw
        case rel => exact ⟨j + 1, by omega, by go_num, by rw [H2.out]; exact g1, ((hbel.alloc hsz _).grown g2 hsz2 (fun e he => (hlow e he).1))⟩
        case measure => simp [intOf]; omega
      · obtain rfl : j = q := by omega
        go_wp2_with fail
        go_ret
        exact Ret.mk ⟨hown, hbel⟩

/-- A whole number's bits. -/
def uof (v : Int) : Nat := (IntKind.u64.wrap v).toNat
theorem uof_eq (v : Int) : IntKind.u64.wrap v = (uof v : Int) := by unfold uof; rw [IntKind.wrap_u64]; omega
theorem uof_lt (v : Int) : uof v < 18446744073709551616 := by unfold uof; rw [IntKind.wrap_u64]; omega
theorem uof_nat (n : Nat) (h : n < 18446744073709551616) : uof (n : Int) = n := by unfold uof; rw [IntKind.wrap_u64]; omega

theorem putN_8 : putN 8 = 8 := rfl
theorem putN_4 : putN 4 = 4 := rfl

set_option maxHeartbeats 1000000 in
theorem codec_putInt (A : Option Addr) (n c : Nat) (l : List UInt8) (v : Int) (w : World) (hb : Byts w A l) (hn : n = l.length) (hl : l.length ≤ 140737488355000) :
    Calls Try.prog 63 #[.slice A n c, .int .i64 v] w (Ret fun r w' => Own w' w.heap.size r (l ++ low (uof v) 8) ∧ Below w.heap.size w w') := by
  subst hn
  have hu := uof_eq v
  have hlt := uof_lt v
  have H := Lib.hid (codec_put A _ c l (uof v) 8 w hb rfl hl hlt (by decide) (by decide))
  clear hlt hb
  generalize uof v = u at *
  go_enter Try.func63, Try.ntmps63
  go_wp2_with (go_at_call 53; go_must (refine H.out.mono ?_); rintro e w1 ⟨r, rfl, hown, hbel⟩)
  go_ret
  exact Ret.mk ⟨hown, hbel⟩

set_option maxHeartbeats 1000000 in
theorem codec_putText (A : Option Addr) (n c : Nat) (l : List UInt8) (s : ByteArray) (w : World) (hb : Byts w A l) (hn : n = l.length) (hl : l.length + s.size ≤ 140737488350000) :
    Calls Try.prog 76 #[.slice A n c, .string s] w (Ret fun r w' => Own w' w.heap.size r (l ++ low s.size 4 ++ s.data.toList) ∧ Below w.heap.size w w') := by
  subst hn
  obtain ⟨w0, rfl⟩ : ∃ w0 : World, w0 = w := ⟨_, rfl⟩
  have H := Lib.hid (codec_put A _ c l s.size 4 w0 hb rfl (by omega) (by omega) (by decide) (by decide))
  have hss : s.data.toList.length = s.size := by simp
  have hl4 : (l ++ low s.size (putN 4)).length = l.length + 4 := by rw [List.length_append, low_length, putN_4]
  clear hb
  go_enter Try.func76, Try.ntmps76
  go_wp2_with (first
    | (go_at_call 53; go_must (refine H.out.mono ?_); rintro e w1 ⟨r, rfl, hown, hbel⟩; have hs1 := hbel.size)
    | (refine wpList_wanted (by rfl) fun K hK => wp_convert_to_bytes _ rfl rfl ?_; intro g c2 w2 hg hsc hbs hbel2 hlt; replace hown := hown.below hbel2; have hbel3 := hbel.trans (hbel2.mono hs1); obtain ⟨A1, c1, rfl, -, hr1, -⟩ := hown.byts; refine hK _ _ ?_; clear hK K)
    | (go_at_call 70; go_must (refine (concat_byts _ _ _ [l ++ low s.size (putN 4), s.data.toList] _ (by have := rows_two c1 c2 hr1 hbs (0, 0); rw [hss, hl4] at this; exact this) rfl (by simp) (by simp only [List.flatten_cons, List.flatten_nil, List.append_nil]; rw [List.length_append, hl4, hss]; omega)).mono ?_); rintro e w4 ⟨v, rfl, hown4, hbel4⟩))
  go_ret
  have hs3 := hbel3.size
  refine Ret.mk ⟨?_, hbel3.trans ((below_alloc _ _).trans (hbel4.mono (by simp)) |>.mono hs3)⟩
  have := hown4.mono (B' := w0.heap.size) (by simp; omega)
  simpa [putN_4] using this

set_option maxHeartbeats 1000000 in
theorem ref_putText (A : Option Addr) (n c : Nat) (l : List UInt8) (s : ByteArray) (w : World) (hb : Byts w A l) (hn : n = l.length) (hl : l.length + s.size ≤ 140737488350000) :
    Calls Try.prog 66 #[.slice A n c, .string s] w (Ret fun r w' => Own w' w.heap.size r (l ++ low s.size 4 ++ s.data.toList) ∧ Below w.heap.size w w') := by
  subst hn
  obtain ⟨w0, rfl⟩ : ∃ w0 : World, w0 = w := ⟨_, rfl⟩
  have H := Lib.hid (ref_put A _ c l s.size 4 w0 hb rfl (by omega) (by omega) (by decide) (by decide))
  have hl4 : (l ++ low s.size (putN 4)).length + s.size ≤ 140737488355328 := by rw [List.length_append, low_length, putN_4]; omega
  clear hb
  go_enter Try.func66, Try.ntmps66
  go_wp2_with (first
    | (go_at_call 56; go_must (refine H.out.mono ?_); rintro e w1 ⟨r, rfl, hown, hbel⟩; have hs1 := hbel.size)
    | (at_builtin; refine wpList_wanted (by rfl) fun K hK => wp_append_text _ _ rfl rfl rfl hown hl4 hs1 ?_; intro v' w2 h1 h2; refine hK _ _ ?_; clear hK K))
  go_ret
  exact Ret.mk ⟨h1, hbel.grown h2 hs1 (fun k e => (hown.lt e).1)⟩
end Go.Proofs.Ytdieeleaaejfhaa
