/- The law's helper clean. -/
import Derived.Test.YtdieeleaaejfhaaPackG
import Derived.Test.YtdieeleaaejfhaaPackX
set_option linter.unusedVariables false
set_option maxRecDepth 100000
set_option linter.unusedSimpArgs false
namespace Go.Proofs.Ytdieeleaaejfhaa
open Go.RowKit

def cleanK (k : Int) : Nat := 1 + uof k % 4
def cleanD (d : Dd) : Dd := if cleanK d.kind = 2 then ⟨2, 0, d.ino⟩ else ⟨cleanK d.kind, d.no, ino0⟩
theorem cleanK_cases (k : Int) : cleanK k = 1 ∨ cleanK k = 2 ∨ cleanK k = 3 ∨ cleanK k = 4 := by unfold cleanK; omega
theorem inoOk_of {x : Ino} (h : InoIn x) (hw : inoW x ≤ 20000000) : InoOk x := by
  have h1 : ∀ e ∈ x.ents, 10 + e.name.size ≤ entsW x.ents := by
    have : ∀ l : List Ent, ∀ e ∈ l, 10 + e.name.size ≤ entsW l := fun l => by
      induction l with
      | nil => intro e he; cases he
      | cons y l ih =>
        intro e he
        rw [entsW_cons]
        cases List.mem_cons.1 he with
        | inl z => subst z; omega
        | inr z => have := ih e z; omega
    exact this _
  have h2 := entsW_ge x.ents
  unfold inoW at hw
  exact ⟨h.no, h.kind, h.links, h.size, by omega, by omega, by omega, fun e he => ⟨(h.ents e he).2, by have := h1 e he; omega⟩, fun r hr => h.runs r hr⟩
theorem cleanD_ok {d : Dd} (h : DdIn d) (hw : inoW d.ino ≤ 20000000) : DdOk (cleanD d) := by
  unfold cleanD
  split
  · exact Or.inr ⟨rfl, rfl, inoOk_of h.ino hw⟩
  · rename_i hk
    refine Or.inl ⟨?_, h.no, rfl⟩
    show numKind (cleanK d.kind : Int)
    unfold numKind
    have := cleanK_cases d.kind
    omega
theorem cleanD_w (d : Dd) : inoW (cleanD d).ino ≤ inoW d.ino := by
  unfold cleanD
  split
  · exact Nat.le_refl _
  · show inoW ino0 ≤ _
    unfold inoW
    have e1 : ino0.target.size = 0 := rfl
    have e2 : ino0.runs.length = 0 := rfl
    have e3 : entsW ino0.ents = 0 := rfl
    omega

set_option maxHeartbeats 1000000 in
theorem law_clean (d : Dd) (v : IV) (w : World) (hi : IvIs w v d.ino) (hk : I64 d.kind) :
    Calls Try.prog 49 #[.agg #[.int .i64 d.kind, .int .i64 d.no, .int .i64 d.ino.no, .int .i64 d.ino.kind, .int .i64 d.ino.links, .int .i64 d.ino.size, .string d.ino.target, .slice v.EA d.ino.ents.length v.Ec, .slice v.RA d.ino.runs.length v.Rc]] w fun e w' =>
      ∃ (C : Dd) (v' : IV), C = cleanD d ∧ e = .returned (.agg #[.int .i64 C.kind, .int .i64 C.no, .int .i64 C.ino.no, .int .i64 C.ino.kind, .int .i64 C.ino.links, .int .i64 C.ino.size, .string C.ino.target, .slice v'.EA C.ino.ents.length v'.Ec, .slice v'.RA C.ino.runs.length v'.Rc]) ∧ IvIs w' v' C.ino ∧ (∀ g, Far (d, v) g → Far (C, v') g) ∧ Below w.heap.size w w' := by
  obtain ⟨w0, rfl⟩ : ∃ w0 : World, w0 = w := ⟨_, rfl⟩
  have hs0 := Nat.le_refl w0.heap.size
  rcases d with ⟨dk, dn, ⟨xn, xk, xl, xs, tg, es, rs⟩⟩
  rcases v with ⟨EA, Ec, RA, Rc⟩
  simp only at hi hk
  simp only
  have hu : IntKind.u64.wrap dk = (uof dk : Int) := by
    unfold uof
    rw [IntKind.wrap_u64]
    omega
  obtain ⟨U, hU⟩ : ∃ x, uof dk = x := ⟨_, rfl⟩
  have hU64 : U < 18446744073709551616 := by
    rw [← hU]
    unfold uof
    rw [IntKind.wrap_u64]
    omega
  rw [hU] at hu
  obtain ⟨q, hq⟩ : ∃ x, U % 4 = x := ⟨_, rfl⟩
  have hq4 : q < 4 := by omega
  have hqI : (U : Int) % 4 = (q : Int) := by omega
  have hqT : (U : Int).tmod 4 = (q : Int) := by rw [Int.tmod_eq_emod_of_nonneg (by omega)]; exact hqI
  obtain ⟨K, hK⟩ : ∃ x, 1 + q = x := ⟨_, rfl⟩
  have hKI : (1 : Int) + (q : Int) = (K : Int) := by omega
  have hKb : K ≤ 4 := by omega
  have HC : Hid (cleanK dk = K) := by show _ = _; unfold cleanK; rw [hU, hq, hK]
  have HU := Lib.hid hU
  clear hU hq hK
  have hzI : ∀ W : World, (zeroValue 69).run Try.prog W = .ok (.agg #[.int .i64 0, .int .i64 0, .int .i64 0, .int .i64 0, .string ByteArray.empty, .slice none 0 0, .slice none 0 0]) W := fun W => by kernel_rfl
  have hzD : ∀ W : World, (zeroValue 71).run Try.prog W = .ok (.agg #[.int .i64 0, .int .i64 0, .int .i64 0, .int .i64 0, .int .i64 0, .int .i64 0, .string ByteArray.empty, .slice none 0 0, .slice none 0 0]) W := fun W => by kernel_rfl
  by_cases h2 : K = 2
  · have h2I : (K : Int) = 2 := by omega
    have h2b : ((K : Int) == 2) = true := by simp; omega
    go_enter Try.func49, Try.ntmps49
    go_wp2_with fail
    have hb2 : Below w0.heap.size w0 ((w0.alloc (.cells #[.int .i64 2, .int .i64 0, .int .i64 xn, .int .i64 xk, .int .i64 xl, .int .i64 xs, .string tg, .slice EA es.length Ec, .slice RA rs.length Rc] 71)).alloc (.cells #[.int .i64 2, .int .i64 0, .int .i64 xn, .int .i64 xk, .int .i64 xl, .int .i64 xs, .string tg, .slice EA es.length Ec, .slice RA rs.length Rc] 71)) := (below_alloc w0 _).trans ((below_alloc _ _).mono (by rw [World.size_alloc]; exact Nat.le_succ _))
    have hd : ∀ j u, [.int .i64 2, .int .i64 0, .int .i64 xn, .int .i64 xk, .int .i64 xl, .int .i64 xs, .string tg, .slice EA es.length Ec, .slice RA rs.length Rc][j]? = some u → ((w0.alloc (.cells #[.int .i64 2, .int .i64 0, .int .i64 xn, .int .i64 xk, .int .i64 xl, .int .i64 xs, .string tg, .slice EA es.length Ec, .slice RA rs.length Rc] 71)).alloc (.cells #[.int .i64 2, .int .i64 0, .int .i64 xn, .int .i64 xk, .int .i64 xl, .int .i64 xs, .string tg, .slice EA es.length Ec, .slice RA rs.length Rc] 71)).cell? ⟨w0.heap.size + 1, j, none⟩ = some u := by
      have := cells_alloc (w0.alloc (.cells #[.int .i64 2, .int .i64 0, .int .i64 xn, .int .i64 xk, .int .i64 xl, .int .i64 xs, .string tg, .slice EA es.length Ec, .slice RA rs.length Rc] 71)) [.int .i64 2, .int .i64 0, .int .i64 xn, .int .i64 xk, .int .i64 xl, .int .i64 xs, .string tg, .slice EA es.length Ec, .slice RA rs.length Rc] 71 (0, 0)
      rw [World.size_alloc] at this
      intro j u hu
      have z := this j u hu
      rwa [Nat.zero_add] at z
    generalize ((w0.alloc (.cells #[.int .i64 2, .int .i64 0, .int .i64 xn, .int .i64 xk, .int .i64 xl, .int .i64 xs, .string tg, .slice EA es.length Ec, .slice RA rs.length Rc] 71)).alloc (.cells #[.int .i64 2, .int .i64 0, .int .i64 xn, .int .i64 xk, .int .i64 xl, .int .i64 xs, .string tg, .slice EA es.length Ec, .slice RA rs.length Rc] 71)) = w2 at *
    have d0 := hd 0 _ rfl
    have d1 := hd 1 _ rfl
    have d2 := hd 2 _ rfl
    have d3 := hd 3 _ rfl
    have d4 := hd 4 _ rfl
    have d5 := hd 5 _ rfl
    have d6 := hd 6 _ rfl
    have d7 := hd 7 _ rfl
    have d8 := hd 8 _ rfl
    refine bodyPost_ret (v := .agg #[.int .i64 2, .int .i64 0, .int .i64 xn, .int .i64 xk, .int .i64 xl, .int .i64 xs, .string tg, .slice EA es.length Ec, .slice RA rs.length Rc]) (by simp [results, Try.results49, go_sem, d0, d1, d2, d3, d4, d5, d6, d7, d8]) rfl ?_
    exact ⟨⟨2, 0, ⟨xn, xk, xl, xs, tg, es, rs⟩⟩, ⟨EA, Ec, RA, Rc⟩, by unfold cleanD; rw [HC.out, if_pos h2], rfl, hi.below hb2, fun g h => h, hb2⟩
  · have h2b : ((K : Int) == 2) = false := by simp; omega
    have h2I : ¬ (K : Int) = 2 := by omega
    go_enter Try.func49, Try.ntmps49
    go_wp2_with fail
    have hb2 : Below w0.heap.size w0 ((w0.alloc (.cells #[.int .i64 (K : Int), .int .i64 dn, .int .i64 0, .int .i64 0, .int .i64 0, .int .i64 0, .string ByteArray.empty, .slice none 0 0, .slice none 0 0] 71)).alloc (.cells #[.int .i64 (K : Int), .int .i64 dn, .int .i64 0, .int .i64 0, .int .i64 0, .int .i64 0, .string ByteArray.empty, .slice none 0 0, .slice none 0 0] 71)) := (below_alloc w0 _).trans ((below_alloc _ _).mono (by rw [World.size_alloc]; exact Nat.le_succ _))
    have hd : ∀ j u, [.int .i64 (K : Int), .int .i64 dn, .int .i64 0, .int .i64 0, .int .i64 0, .int .i64 0, .string ByteArray.empty, .slice none 0 0, .slice none 0 0][j]? = some u → ((w0.alloc (.cells #[.int .i64 (K : Int), .int .i64 dn, .int .i64 0, .int .i64 0, .int .i64 0, .int .i64 0, .string ByteArray.empty, .slice none 0 0, .slice none 0 0] 71)).alloc (.cells #[.int .i64 (K : Int), .int .i64 dn, .int .i64 0, .int .i64 0, .int .i64 0, .int .i64 0, .string ByteArray.empty, .slice none 0 0, .slice none 0 0] 71)).cell? ⟨w0.heap.size + 1, j, none⟩ = some u := by
      have := cells_alloc (w0.alloc (.cells #[.int .i64 (K : Int), .int .i64 dn, .int .i64 0, .int .i64 0, .int .i64 0, .int .i64 0, .string ByteArray.empty, .slice none 0 0, .slice none 0 0] 71)) [.int .i64 (K : Int), .int .i64 dn, .int .i64 0, .int .i64 0, .int .i64 0, .int .i64 0, .string ByteArray.empty, .slice none 0 0, .slice none 0 0] 71 (0, 0)
      rw [World.size_alloc] at this
      intro j u hu
      have z := this j u hu
      rwa [Nat.zero_add] at z
    generalize ((w0.alloc (.cells #[.int .i64 (K : Int), .int .i64 dn, .int .i64 0, .int .i64 0, .int .i64 0, .int .i64 0, .string ByteArray.empty, .slice none 0 0, .slice none 0 0] 71)).alloc (.cells #[.int .i64 (K : Int), .int .i64 dn, .int .i64 0, .int .i64 0, .int .i64 0, .int .i64 0, .string ByteArray.empty, .slice none 0 0, .slice none 0 0] 71)) = w2 at *
    have d0 := hd 0 _ rfl
    have d1 := hd 1 _ rfl
    have d2 := hd 2 _ rfl
    have d3 := hd 3 _ rfl
    have d4 := hd 4 _ rfl
    have d5 := hd 5 _ rfl
    have d6 := hd 6 _ rfl
    have d7 := hd 7 _ rfl
    have d8 := hd 8 _ rfl
    refine bodyPost_ret (v := .agg #[.int .i64 (K : Int), .int .i64 dn, .int .i64 0, .int .i64 0, .int .i64 0, .int .i64 0, .string ByteArray.empty, .slice none 0 0, .slice none 0 0]) (by simp [results, Try.results49, go_sem, d0, d1, d2, d3, d4, d5, d6, d7, d8]) rfl ?_
    refine ⟨⟨(K : Int), dn, ino0⟩, ⟨none, 0, none, 0⟩, by unfold cleanD; rw [HC.out, if_neg h2], rfl, iv_nil _, fun g h => ?_, hb2⟩
    exact ⟨(fun y e => nomatch e), (fun y e => nomatch e)⟩
end Go.Proofs.Ytdieeleaaejfhaa
