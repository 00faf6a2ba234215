/- The closures of package nand that turn a byte, and rows of bytes turned by them. -/
import Derived.Test.YtionjddcahgpkaaClone
import Derived.Test.YtionjddcahgpkaaMake
import Derived.Test.YtionjddcahgpkaaOnly
set_option linter.unusedVariables false
set_option maxRecDepth 100000
set_option linter.unusedSimpArgs false
namespace Go.Proofs.Ytionjddcahgpkaa
open Go.RowKit

theorem turn_id (x : UInt8) (w : World) : Calls Try.prog 42 #[.int .u8 (x.toNat : Int)] w fun e w' => e = .returned (.int .u8 (x.toNat : Int)) ∧ w = w' := by
  go_enter Try.func42, Try.ntmps42
  go_wp2_with fail
  go_ret
  exact ⟨rfl, rfl⟩
theorem turn_and (x : UInt8) (w : World) : Calls Try.prog 46 #[.int .u8 (x.toNat : Int)] w fun e w' => e = .returned (.int .u8 ((x &&& 170).toNat : Int)) ∧ w = w' := by
  have h : bits .and .u8 (x.toNat : Int) 170 = ((x &&& 170).toNat : Int) := and_u8 x 170
  go_enter Try.func46, Try.ntmps46
  go_wp2_with fail
  go_ret
  exact ⟨rfl, rfl⟩
theorem turn_or (x m : UInt8) (q : Nat) (w : World) (hc : w.cell? ⟨q, 0, none⟩ = some (.int .u8 (m.toNat : Int))) : Calls Try.prog 44 #[.int .u8 (x.toNat : Int), .pointer (some ⟨q, 0, none⟩)] w fun e w' => e = .returned (.int .u8 ((x ||| m).toNat : Int)) ∧ w = w' := by
  have h := or_u8 x m
  go_enter Try.func44, Try.ntmps44
  go_wp2_with fail
  go_ret
  exact ⟨rfl, rfl⟩
theorem turn_orE (x m : UInt8) (q : Nat) (w : World) (hc : w.cell? ⟨q, 0, none⟩ = some (.int .u8 (m.toNat : Int))) : Calls Try.prog 48 #[.int .u8 (x.toNat : Int), .pointer (some ⟨q, 0, none⟩)] w fun e w' => e = .returned (.int .u8 ((x ||| m).toNat : Int)) ∧ w = w' := by
  have h := or_u8 x m
  go_enter Try.func48, Try.ntmps48
  go_wp2_with fail
  go_ret
  exact ⟨rfl, rfl⟩

/-- The first k bytes turned, the others 0. -/
def turnTo (t : UInt8 → UInt8) (l : List UInt8) (k : Nat) : List UInt8 := (l.take k).map t ++ List.replicate (l.length - k) 0
theorem turnTo_zero (t : UInt8 → UInt8) (l : List UInt8) : turnTo t l 0 = List.replicate l.length 0 := by simp [turnTo]
theorem turnTo_all (t : UInt8 → UInt8) (l : List UInt8) : turnTo t l l.length = l.map t := by simp [turnTo]
theorem turnTo_length (t : UInt8 → UInt8) (l : List UInt8) (k : Nat) (h : k ≤ l.length) : (turnTo t l k).length = l.length := by simp [turnTo]; omega
theorem turnTo_set (t : UInt8 → UInt8) (l : List UInt8) (k : Nat) (h : k < l.length) : (turnTo t l k).set k (t l[k]) = turnTo t l (k + 1) := by
  have e1 : ((l.take k).map t).length = k := by simp; omega
  obtain ⟨r, hr⟩ : ∃ r, l.length - k = r + 1 := ⟨l.length - k - 1, by omega⟩
  have e2 : l.length - (k + 1) = r := by omega
  unfold turnTo
  rw [hr, e2, List.replicate_succ, List.set_append_right _ _ (by omega), e1, Nat.sub_self, List.set_cons_zero, List.take_succ_eq_append_getElem h, List.map_append]
  simp

set_option maxHeartbeats 2000000 in
theorem turned_id (A : Option Addr) (n c : Nat) (l : List UInt8) (w : World) (hb : Byts w A l) (hn : n = l.length) (hl : l.length ≤ 100000) :
    Calls Try.prog 47 #[.slice A n c, .func (.func 42) #[] #[]] w (Ret fun v w' => ∃ g, v = .slice (some ⟨g, 0, none⟩) n n ∧ w.heap.size ≤ g ∧ Own w' w.heap.size v (l.map (fun x => x)) ∧ Below w.heap.size w w') := by
  obtain ⟨w0, rfl⟩ : ∃ w0 : World, w0 = w := ⟨_, rfl⟩
  subst hn
  obtain ⟨n, hn⟩ : ∃ n, l.length = n := ⟨_, rfl⟩
  have HN := Lib.hid hn
  have hmk := run_make_zs n (by omega)
  have hown0 := own_zs n (by omega) w0 w0.heap.size (Nat.le_refl _)
  have hb0 := below_alloc w0 (.cells (zsN n).toArray 5 (0, 0))
  rw [hn] at hl ⊢
  clear hn
  go_enter Try.func47, Try.ntmps47
  go_upto_region 3 with fail
  clear hmk
  generalize w0.alloc (.cells (zsN n).toArray 5 (0, 0)) = w1 at *
  obtain ⟨g, hg⟩ : ∃ g, w0.heap.size = g := ⟨_, rfl⟩
  have HG := Lib.hid hg
  have Hown0 : Hid (Own w1 w0.heap.size (.slice (some ⟨g, 0, none⟩) n n) (turnTo (fun x => x) l 0)) := by
    show Own w1 w0.heap.size (.slice (some ⟨g, 0, none⟩) n n) (turnTo (fun x => x) l 0)
    rw [turnTo_zero, HN.out, ← hg]
    exact hown0
  rw [hg]
  clear hg hown0
  go_loopw [13] (fun v13 wr => ∃ k : Nat, k ≤ n ∧ v13 = .int .i64 (k : Int) ∧ Own wr w0.heap.size (.slice (some ⟨g, 0, none⟩) n n) (turnTo (fun x => x) l k) ∧ Below w0.heap.size w0 wr) (fun v13 _ => n - (intOf v13).toNat)
  case atStart => exact ⟨0, Nat.zero_le _, rfl, Hown0.out, hb0⟩
  case round =>
    clear hb0 Hown0
    obtain ⟨k, hk, rfl, hown, hbel⟩ := hrel
    by_cases hlt : k < n
    · have hkl : k < l.length := by rw [HN.out]; exact hlt
      have hltI : (k : Int) < (n : Int) := by omega
      obtain ⟨b, off, rfl, hcell⟩ := (hb.below hbel).at hkl
      have hkt : k < (turnTo (fun x => x) l k).length := by rw [turnTo_length _ _ _ (by omega)]; exact hkl
      have hold := hown.cell (i := k) hkt
      have hfr := hown.frz k
      have hset := hown.set k ((fun x => x) l[k])
      rw [turnTo_set _ _ _ hkl] at hset
      have hgl := (hown.lt (k := g) rfl).1
      have hbs := hbel.setCell (p := ⟨g, k, none⟩) hgl (.int .u8 (((fun x => x) l[k]).toNat : Int))
      have HS := Lib.hid (And.intro hset hbs)
      clear hset hbs hown
      generalize l[k] = x at *
      generalize (turnTo (fun x => x) l k)[k] = y at *
      go_wp2_with (go_at_call 42; refine (turn_id _ _).mono ?_; rintro e w' ⟨rfl, rfl⟩)
      go_roundw
      case rel => exact ⟨k + 1, by omega, by go_num, HS.out.1, HS.out.2⟩
      case measure => simp [intOf]; omega
    · obtain rfl : k = n := by omega
      have hgl := (hown.lt (k := g) rfl).1
      have hfin : turnTo (fun x => x) l k = l.map (fun x => x) := by rw [← HN.out]; exact turnTo_all _ _
      rw [hfin] at hown
      have HO := Lib.hid hown
      clear hown hfin
      go_wp2_with fail
      go_ret
      exact Ret.mk ⟨g, rfl, hgl, HO.out, hbel⟩

set_option maxHeartbeats 2000000 in
theorem turned_and (A : Option Addr) (n c : Nat) (l : List UInt8) (w : World) (hb : Byts w A l) (hn : n = l.length) (hl : l.length ≤ 100000) :
    Calls Try.prog 47 #[.slice A n c, .func (.func 46) #[] #[]] w (Ret fun v w' => ∃ g, v = .slice (some ⟨g, 0, none⟩) n n ∧ w.heap.size ≤ g ∧ Own w' w.heap.size v (l.map (fun x => x &&& 170)) ∧ Below w.heap.size w w') := by
  obtain ⟨w0, rfl⟩ : ∃ w0 : World, w0 = w := ⟨_, rfl⟩
  subst hn
  obtain ⟨n, hn⟩ : ∃ n, l.length = n := ⟨_, rfl⟩
  have HN := Lib.hid hn
  have hmk := run_make_zs n (by omega)
  have hown0 := own_zs n (by omega) w0 w0.heap.size (Nat.le_refl _)
  have hb0 := below_alloc w0 (.cells (zsN n).toArray 5 (0, 0))
  rw [hn] at hl ⊢
  clear hn
  go_enter Try.func47, Try.ntmps47
  go_upto_region 3 with fail
  clear hmk
  generalize w0.alloc (.cells (zsN n).toArray 5 (0, 0)) = w1 at *
  obtain ⟨g, hg⟩ : ∃ g, w0.heap.size = g := ⟨_, rfl⟩
  have HG := Lib.hid hg
  have Hown0 : Hid (Own w1 w0.heap.size (.slice (some ⟨g, 0, none⟩) n n) (turnTo (fun x => x &&& 170) l 0)) := by
    show Own w1 w0.heap.size (.slice (some ⟨g, 0, none⟩) n n) (turnTo (fun x => x &&& 170) l 0)
    rw [turnTo_zero, HN.out, ← hg]
    exact hown0
  rw [hg]
  clear hg hown0
  go_loopw [13] (fun v13 wr => ∃ k : Nat, k ≤ n ∧ v13 = .int .i64 (k : Int) ∧ Own wr w0.heap.size (.slice (some ⟨g, 0, none⟩) n n) (turnTo (fun x => x &&& 170) l k) ∧ Below w0.heap.size w0 wr) (fun v13 _ => n - (intOf v13).toNat)
  case atStart => exact ⟨0, Nat.zero_le _, rfl, Hown0.out, hb0⟩
  case round =>
    clear hb0 Hown0
    obtain ⟨k, hk, rfl, hown, hbel⟩ := hrel
    by_cases hlt : k < n
    · have hkl : k < l.length := by rw [HN.out]; exact hlt
      have hltI : (k : Int) < (n : Int) := by omega
      obtain ⟨b, off, rfl, hcell⟩ := (hb.below hbel).at hkl
      have hkt : k < (turnTo (fun x => x &&& 170) l k).length := by rw [turnTo_length _ _ _ (by omega)]; exact hkl
      have hold := hown.cell (i := k) hkt
      have hfr := hown.frz k
      have hset := hown.set k ((fun x => x &&& 170) l[k])
      rw [turnTo_set _ _ _ hkl] at hset
      have hgl := (hown.lt (k := g) rfl).1
      have hbs := hbel.setCell (p := ⟨g, k, none⟩) hgl (.int .u8 (((fun x => x &&& 170) l[k]).toNat : Int))
      have HS := Lib.hid (And.intro hset hbs)
      clear hset hbs hown
      generalize l[k] = x at *
      generalize (turnTo (fun x => x &&& 170) l k)[k] = y at *
      go_wp2_with (go_at_call 46; refine (turn_and _ _).mono ?_; rintro e w' ⟨rfl, rfl⟩)
      go_roundw
      case rel => exact ⟨k + 1, by omega, by go_num, HS.out.1, HS.out.2⟩
      case measure => simp [intOf]; omega
    · obtain rfl : k = n := by omega
      have hgl := (hown.lt (k := g) rfl).1
      have hfin : turnTo (fun x => x &&& 170) l k = l.map (fun x => x &&& 170) := by rw [← HN.out]; exact turnTo_all _ _
      rw [hfin] at hown
      have HO := Lib.hid hown
      clear hown hfin
      go_wp2_with fail
      go_ret
      exact Ret.mk ⟨g, rfl, hgl, HO.out, hbel⟩

set_option maxHeartbeats 2000000 in
theorem turned_or (A : Option Addr) (n c : Nat) (l : List UInt8) (w : World) (hb : Byts w A l) (hn : n = l.length) (hl : l.length ≤ 100000) (m : UInt8) (q : Nat) (hc : w.cell? ⟨q, 0, none⟩ = some (.int .u8 (m.toNat : Int))) :
    Calls Try.prog 47 #[.slice A n c, .func (.func 44) #[] #[.pointer (some ⟨q, 0, none⟩)]] w (Ret fun v w' => ∃ g, v = .slice (some ⟨g, 0, none⟩) n n ∧ w.heap.size ≤ g ∧ Own w' w.heap.size v (l.map (fun x => x ||| m)) ∧ Below w.heap.size w w') := by
  obtain ⟨w0, rfl⟩ : ∃ w0 : World, w0 = w := ⟨_, rfl⟩
  subst hn
  obtain ⟨n, hn⟩ : ∃ n, l.length = n := ⟨_, rfl⟩
  have HN := Lib.hid hn
  have hmk := run_make_zs n (by omega)
  have hown0 := own_zs n (by omega) w0 w0.heap.size (Nat.le_refl _)
  have hb0 := below_alloc w0 (.cells (zsN n).toArray 5 (0, 0))
  rw [hn] at hl ⊢
  clear hn
  go_enter Try.func47, Try.ntmps47
  go_upto_region 3 with fail
  clear hmk
  generalize w0.alloc (.cells (zsN n).toArray 5 (0, 0)) = w1 at *
  obtain ⟨g, hg⟩ : ∃ g, w0.heap.size = g := ⟨_, rfl⟩
  have HG := Lib.hid hg
  have Hown0 : Hid (Own w1 w0.heap.size (.slice (some ⟨g, 0, none⟩) n n) (turnTo (fun x => x ||| m) l 0)) := by
    show Own w1 w0.heap.size (.slice (some ⟨g, 0, none⟩) n n) (turnTo (fun x => x ||| m) l 0)
    rw [turnTo_zero, HN.out, ← hg]
    exact hown0
  rw [hg]
  clear hg hown0
  go_loopw [13] (fun v13 wr => ∃ k : Nat, k ≤ n ∧ v13 = .int .i64 (k : Int) ∧ Own wr w0.heap.size (.slice (some ⟨g, 0, none⟩) n n) (turnTo (fun x => x ||| m) l k) ∧ Below w0.heap.size w0 wr) (fun v13 _ => n - (intOf v13).toNat)
  case atStart => exact ⟨0, Nat.zero_le _, rfl, Hown0.out, hb0⟩
  case round =>
    clear hb0 Hown0
    obtain ⟨k, hk, rfl, hown, hbel⟩ := hrel
    by_cases hlt : k < n
    · have hkl : k < l.length := by rw [HN.out]; exact hlt
      have hltI : (k : Int) < (n : Int) := by omega
      obtain ⟨b, off, rfl, hcell⟩ := (hb.below hbel).at hkl
      have hkt : k < (turnTo (fun x => x ||| m) l k).length := by rw [turnTo_length _ _ _ (by omega)]; exact hkl
      have hold := hown.cell (i := k) hkt
      have hfr := hown.frz k
      have hset := hown.set k ((fun x => x ||| m) l[k])
      rw [turnTo_set _ _ _ hkl] at hset
      have hgl := (hown.lt (k := g) rfl).1
      have hbs := hbel.setCell (p := ⟨g, k, none⟩) hgl (.int .u8 (((fun x => x ||| m) l[k]).toNat : Int))
      have HS := Lib.hid (And.intro hset hbs)
      have hql := World.block_lt_of_cell? w0 ⟨q, 0, none⟩ hc
      have hcr := (hbel.cell (p := ⟨q, 0, none⟩) hql).trans hc
      clear hset hbs hown
      generalize l[k] = x at *
      generalize (turnTo (fun x => x ||| m) l k)[k] = y at *
      go_wp2_with (go_at_call 44; refine (turn_or _ m q _ hcr).mono ?_; rintro e w' ⟨rfl, rfl⟩)
      go_roundw
      case rel => exact ⟨k + 1, by omega, by go_num, HS.out.1, HS.out.2⟩
      case measure => simp [intOf]; omega
    · obtain rfl : k = n := by omega
      have hgl := (hown.lt (k := g) rfl).1
      have hfin : turnTo (fun x => x ||| m) l k = l.map (fun x => x ||| m) := by rw [← HN.out]; exact turnTo_all _ _
      rw [hfin] at hown
      have HO := Lib.hid hown
      clear hown hfin
      go_wp2_with fail
      go_ret
      exact Ret.mk ⟨g, rfl, hgl, HO.out, hbel⟩

set_option maxHeartbeats 2000000 in
theorem turned_orE (A : Option Addr) (n c : Nat) (l : List UInt8) (w : World) (hb : Byts w A l) (hn : n = l.length) (hl : l.length ≤ 100000) (m : UInt8) (q : Nat) (hc : w.cell? ⟨q, 0, none⟩ = some (.int .u8 (m.toNat : Int))) :
    Calls Try.prog 47 #[.slice A n c, .func (.func 48) #[] #[.pointer (some ⟨q, 0, none⟩)]] w (Ret fun v w' => ∃ g, v = .slice (some ⟨g, 0, none⟩) n n ∧ w.heap.size ≤ g ∧ Own w' w.heap.size v (l.map (fun x => x ||| m)) ∧ Below w.heap.size w w') := by
  obtain ⟨w0, rfl⟩ : ∃ w0 : World, w0 = w := ⟨_, rfl⟩
  subst hn
  obtain ⟨n, hn⟩ : ∃ n, l.length = n := ⟨_, rfl⟩
  have HN := Lib.hid hn
  have hmk := run_make_zs n (by omega)
  have hown0 := own_zs n (by omega) w0 w0.heap.size (Nat.le_refl _)
  have hb0 := below_alloc w0 (.cells (zsN n).toArray 5 (0, 0))
  rw [hn] at hl ⊢
  clear hn
  go_enter Try.func47, Try.ntmps47
  go_upto_region 3 with fail
  clear hmk
  generalize w0.alloc (.cells (zsN n).toArray 5 (0, 0)) = w1 at *
  obtain ⟨g, hg⟩ : ∃ g, w0.heap.size = g := ⟨_, rfl⟩
  have HG := Lib.hid hg
  have Hown0 : Hid (Own w1 w0.heap.size (.slice (some ⟨g, 0, none⟩) n n) (turnTo (fun x => x ||| m) l 0)) := by
    show Own w1 w0.heap.size (.slice (some ⟨g, 0, none⟩) n n) (turnTo (fun x => x ||| m) l 0)
    rw [turnTo_zero, HN.out, ← hg]
    exact hown0
  rw [hg]
  clear hg hown0
  go_loopw [13] (fun v13 wr => ∃ k : Nat, k ≤ n ∧ v13 = .int .i64 (k : Int) ∧ Own wr w0.heap.size (.slice (some ⟨g, 0, none⟩) n n) (turnTo (fun x => x ||| m) l k) ∧ Below w0.heap.size w0 wr) (fun v13 _ => n - (intOf v13).toNat)
  case atStart => exact ⟨0, Nat.zero_le _, rfl, Hown0.out, hb0⟩
  case round =>
    clear hb0 Hown0
    obtain ⟨k, hk, rfl, hown, hbel⟩ := hrel
    by_cases hlt : k < n
    · have hkl : k < l.length := by rw [HN.out]; exact hlt
      have hltI : (k : Int) < (n : Int) := by omega
      obtain ⟨b, off, rfl, hcell⟩ := (hb.below hbel).at hkl
      have hkt : k < (turnTo (fun x => x ||| m) l k).length := by rw [turnTo_length _ _ _ (by omega)]; exact hkl
      have hold := hown.cell (i := k) hkt
      have hfr := hown.frz k
      have hset := hown.set k ((fun x => x ||| m) l[k])
      rw [turnTo_set _ _ _ hkl] at hset
      have hgl := (hown.lt (k := g) rfl).1
      have hbs := hbel.setCell (p := ⟨g, k, none⟩) hgl (.int .u8 (((fun x => x ||| m) l[k]).toNat : Int))
      have HS := Lib.hid (And.intro hset hbs)
      have hql := World.block_lt_of_cell? w0 ⟨q, 0, none⟩ hc
      have hcr := (hbel.cell (p := ⟨q, 0, none⟩) hql).trans hc
      clear hset hbs hown
      generalize l[k] = x at *
      generalize (turnTo (fun x => x ||| m) l k)[k] = y at *
      go_wp2_with (go_at_call 48; refine (turn_orE _ m q _ hcr).mono ?_; rintro e w' ⟨rfl, rfl⟩)
      go_roundw
      case rel => exact ⟨k + 1, by omega, by go_num, HS.out.1, HS.out.2⟩
      case measure => simp [intOf]; omega
    · obtain rfl : k = n := by omega
      have hgl := (hown.lt (k := g) rfl).1
      have hfin : turnTo (fun x => x ||| m) l k = l.map (fun x => x ||| m) := by rw [← HN.out]; exact turnTo_all _ _
      rw [hfin] at hown
      have HO := Lib.hid hown
      clear hown hfin
      go_wp2_with fail
      go_ret
      exact Ret.mk ⟨g, rfl, hgl, HO.out, hbel⟩
end Go.Proofs.Ytionjddcahgpkaa
