/-
SameInts and Num, walked; Due told anew for the laws.
-/
import Derived.Test.YtphdmhjmaecddaaTm5
namespace Go.Proofs.Ytphdmhjmaecddaa
open Go.RowKit Go.Proofs.YtphdmhjmaecddaaW.PrintWords Go.Proofs.YtphdmhjmaecddaaW.PrintLast Go.Proofs.YtphdmhjmaecddaaW.PrintMore

theorem num_walk (a : Int) (w : World) : Calls Try.prog 14 #[.int .i64 a] w fun e w' => e = .returned (.int .i64 a) ∧ w = w' := by
  go_enter Try.func14, Try.ntmps14
  go_wp2_with fail
  go_ret
  exact ⟨rfl, rfl⟩

/-- Numbers, as cells. -/
def iv (xs : List Int) : List Value := xs.map (.int .i64)
theorem idv_iv (T : List Tm) : idv T = iv (T.map (·.1)) := by simp [idv, iv]
theorem below_drewN (w : World) (n : Nat) (base : Nat) : Below base w (w.drewN n) := ⟨rfl, rfl, rfl, Nat.le_refl _, fun _ _ => rfl⟩

theorem row_form {w : World} {base : Nat} {v : Value} {n : Nat} {fs : List Value} {e : TypeId} {size : Nat} (h : w.ownsRow base e size v n fs) : ∃ a c, v = .slice a n c := by
  rcases h.2 with ⟨rfl, e⟩ | ⟨g, cap, cur, rfl, _⟩
  · exact ⟨none, 0, by rw [e]⟩
  · exact ⟨_, _, rfl⟩
theorem row_some {w : World} {base : Nat} {a : Option Addr} {m c : Nat} {xs : List Int} (h : w.ownsRow base 3 1 (.slice a m c) xs.length (iv xs)) (hn : 0 < xs.length) :
    ∃ g, a = some ⟨g, 0, none⟩ ∧ base ≤ g ∧ g < w.heap.size ∧ xs.length ≤ c ∧ ∀ (j : Nat) (hj : j < xs.length), w.cell? ⟨g, j, none⟩ = some (.int .i64 xs[j]) := by
  rcases h.2 with ⟨_, e⟩ | ⟨g, cap, cur, e, hb, h1, h2, h3, h4, h5⟩
  · omega
  · injection e with e1 e2 e3
    subst e1 e3
    refine ⟨g, rfl, hb, (Array.getElem?_eq_some_iff.1 h1).1, h2, fun j hj => ?_⟩
    rw [cell_of_row w g j _ 3 _ h1, ← Array.getElem?_toList]
    have h6 : (cur.toList.take (xs.length * 1))[j]? = some (.int .i64 xs[j]) := by
      rw [h5]
      simp [iv, hj]
    rwa [List.getElem?_take, if_pos (by omega)] at h6

theorem same_len {a0 a1 : Option Addr} {n0 n1 c0 c1 : Nat} (w : World) (h : n0 ≠ n1) :
    Calls Try.prog 12 #[.slice a0 n0 c0, .slice a1 n1 c1] w fun e w' => e = .returned (.bool false) ∧ Below w.heap.size w w' := by
  have h1 : ¬ (n0 : Int) = (n1 : Int) := by omega
  clear h
  go_enter Try.func12, Try.ntmps12
  go_wp2_with fail
  go_ret
  exact ⟨rfl, Below.refl _ _⟩
theorem same_nil {a0 a1 : Option Addr} {c0 c1 : Nat} (w : World) :
    Calls Try.prog 12 #[.slice a0 0 c0, .slice a1 0 c1] w fun e w' => e = .returned (.bool true) ∧ Below w.heap.size w w' := by
  go_enter Try.func12, Try.ntmps12
  go_wp2_with fail
  go_loopg [5] 1 (fun _ v5 wr => v5 = .int .i64 0 ∧ wr = w)
  case atStart => exact ⟨rfl, rfl⟩
  case round =>
    obtain ⟨rfl, rfl⟩ := hrel
    go_wp2_with fail
    go_ret
    exact ⟨rfl, Below.refl _ _⟩

set_option maxRecDepth 100000 in
set_option maxHeartbeats 1000000 in
theorem same_some {g0 g1 : Nat} {n c0 c1 : Nat} (w : World) (xs ys : List Int) (hx : xs.length = n) (hy : ys.length = n)
    (h0 : ∀ (j : Nat) (hj : j < xs.length), w.cell? ⟨g0, j, none⟩ = some (.int .i64 xs[j])) (h1 : ∀ (j : Nat) (hj : j < ys.length), w.cell? ⟨g1, j, none⟩ = some (.int .i64 ys[j])) (hm : n ≤ 1000000) :
    Calls Try.prog 12 #[.slice (some ⟨g0, 0, none⟩) n c0, .slice (some ⟨g1, 0, none⟩) n c1] w fun e w' => e = .returned (.bool (decide (xs = ys))) ∧ Below w.heap.size w w' := by
  have H0 := Lib.hid h0
  have H1 := Lib.hid h1
  have HX := Lib.hid hx
  have HY := Lib.hid hy
  clear h0 h1 hx hy
  go_enter Try.func12, Try.ntmps12
  go_wp2_with fail
  go_loopg [5] (n + 1) (fun m v5 wr => ∃ (q d : Nat), v5 = .int .i64 q ∧ q ≤ n ∧ n - q < m ∧ wr = w.drewN d ∧ Aside (∀ j, j < q → xs.getD j 0 = ys.getD j 0))
  case atStart => exact ⟨0, 0, rfl, Nat.zero_le _, by omega, rfl, fun _ h => absurd h (Nat.not_lt_zero _)⟩
  case round =>
    obtain ⟨q, d, rfl, hqn, hqm, rfl, hs⟩ := hrel
    have HS := Lib.hid (Aside.out hs)
    have q0 : (0 : Int) ≤ (q : Int) := Int.natCast_nonneg _
    clear hs
    by_cases hlt : q < n
    · have cx := H0.out q (by have := HX.out; omega)
      have cy := H1.out q (by have := HY.out; omega)
      have ex : xs.getD q 0 = xs[q]'(by have := HX.out; omega) := by rw [List.getD_eq_getElem?_getD, List.getElem?_eq_getElem]; rfl
      have ey : ys.getD q 0 = ys[q]'(by have := HY.out; omega) := by rw [List.getD_eq_getElem?_getD, List.getElem?_eq_getElem]; rfl
      rw [← ex] at cx
      rw [← ey] at cy
      clear ex ey
      have HC := Lib.hid (fun (e : ¬ xs.getD q 0 = ys.getD q 0) => (show decide (xs = ys) = false from decide_eq_false (fun e2 => e (by rw [e2]))))
      have q1 : (q : Int) < (n : Int) := by omega
      by_cases e : xs.getD q 0 = ys.getD q 0
      · have HE := Lib.hid e
        rw [e] at cx
        generalize ys.getD q 0 = z at cx cy
        clear e
        go_wp2_with fail
        go_quiet (fail)
        go_wp2_with fail
        go_roundg (gk - 1)
        case measure => omega
        case rel =>
          refine ⟨q + 1, _, by go_num, by omega, by omega, rfl, ?_⟩
          intro j hj
          by_cases ej : j = q
          · subst ej; exact HE.out
          · exact HS.out j (by omega)
      · have HE := Lib.hid (HC.out e)
        generalize xs.getD q 0 = z1 at *
        generalize ys.getD q 0 = z2 at *
        go_wp2_with fail
        go_quiet (fail)
        go_wp2_with fail
        go_ret
        exact ⟨by rw [HE.out]; rfl, by exact ⟨rfl, rfl, rfl, Nat.le_refl _, fun _ _ => rfl⟩⟩
    · have e : xs = ys := by
        refine List.ext_getElem (by rw [HX.out, HY.out]) fun j h1 h2 => ?_
        have := HS.out j (by have := HX.out; omega)
        rw [List.getD_eq_getElem?_getD, List.getD_eq_getElem?_getD, List.getElem?_eq_getElem h1, List.getElem?_eq_getElem h2] at this
        exact this
      have HE := Lib.hid (show decide (xs = ys) = true from decide_eq_true e)
      have q1 : ¬ (q : Int) < (n : Int) := by omega
      clear e
      go_wp2_with fail
      go_ret
      exact ⟨by rw [HE.out]; rfl, by exact ⟨rfl, rfl, rfl, Nat.le_refl _, fun _ _ => rfl⟩⟩

theorem same_walk {w : World} {b0 b1 : Nat} {v0 v1 : Value} {xs ys : List Int} (h0 : w.ownsRow b0 3 1 v0 xs.length (iv xs)) (h1 : w.ownsRow b1 3 1 v1 ys.length (iv ys)) (hm : xs.length ≤ 1000000) :
    Calls Try.prog 12 #[v0, v1] w fun e w' => e = .returned (.bool (decide (xs = ys))) ∧ Below w.heap.size w w' := by
  obtain ⟨a0, c0, rfl⟩ := row_form h0
  obtain ⟨a1, c1, rfl⟩ := row_form h1
  by_cases hl : xs.length = ys.length
  · by_cases hn : 0 < xs.length
    · obtain ⟨g0, rfl, _, _, _, k0⟩ := row_some h0 hn
      obtain ⟨g1, rfl, _, _, _, k1⟩ := row_some h1 (by omega)
      rw [← hl]
      exact same_some w xs ys rfl hl.symm k0 k1 hm
    · have e0 : xs = [] := List.length_eq_zero_iff.1 (by omega)
      have e1 : ys = [] := List.length_eq_zero_iff.1 (by omega)
      subst e0 e1
      exact same_nil w
  · rw [show decide (xs = ys) = false from decide_eq_false (fun e => hl (by rw [e]))]
    exact same_len w hl

/-- Due, as the laws use it. -/
theorem due_is {w : World} {A : Nat} {S T L : List Tm} {Q : Nat → Prop} (h : TT w A S Q) (now : Int) (hT : dueT now S = T) (hL : dueL now S = L) :
    Calls Try.prog 11 #[.pointer (some ⟨A, 0, none⟩), .int .i64 now] w fun e w' => ∃ a c, e = .returned (.slice a T.length c) ∧ w'.ownsRow w.heap.size 3 1 (.slice a T.length c) T.length (iv (T.map (·.1))) ∧ TT w' A L (fun k => Q k ∨ (Value.slice a T.length c).ownBlock = some k) ∧ Chg w w' (fun k => ¬ Q k) := by
  subst hT hL
  refine (due_walk h now).mono ?_
  rintro e w' ⟨v, rfl, h1, h2, h3⟩
  obtain ⟨a, c, rfl⟩ := row_form h1
  rw [idv_iv] at h1
  exact ⟨a, c, rfl, h1, h2, h3⟩
end Go.Proofs.Ytphdmhjmaecddaa
