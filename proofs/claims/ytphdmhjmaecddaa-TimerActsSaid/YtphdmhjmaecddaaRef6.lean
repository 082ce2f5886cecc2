/-
The document's own timers: Due, walked.
-/
import Derived.Test.YtphdmhjmaecddaaRef5
namespace Go.Proofs.Ytphdmhjmaecddaa
open Go.RowKit Go.Proofs.YtphdmhjmaecddaaW.PrintWords Go.Proofs.YtphdmhjmaecddaaW.PrintLast Go.Proofs.YtphdmhjmaecddaaW.PrintMore

def RDueDone (now : Int) (S : List Tm) (w : World) (b R : Nat) (v : Value) (e : Ending) (w' : World) : Prop :=
  ∃ u v', e = .returned u ∧ w'.ownsRow w.heap.size 3 1 u ((dueT now S).map (·.1)).length (iv ((dueT now S).map (·.1))) ∧ RStep w w' b R v v' (dueL now S)

/-- What Due's loop keeps. -/
structure RDueL (w wr : World) (now : Int) (S T L : List Tm) (v5 : Value) : Prop where
  split : S = T ++ L
  due : ∀ x ∈ T, x.2 ≤ now
  row : wr.ownsRow w.heap.size 3 1 v5 (T.map (·.1)).length (iv (T.map (·.1)))
  below : Below w.heap.size w wr
theorem RDueL.next {w wr w' : World} {now : Int} {S T r : List Tm} {x : Tm} {v5 v' : Value} (h : RDueL w wr now S T (x :: r) v5) (hx : x.2 ≤ now)
    (hr : w'.ownsRow w.heap.size 3 1 v' (T.map (·.1) ++ [x.1]).length (iv (T.map (·.1) ++ [x.1]))) (hb : Below w.heap.size w w') : RDueL w w' now S (T ++ [x]) r v' := by
  refine ⟨by rw [h.split]; simp, fun y hy => ?_, by simpa using hr, hb⟩
  rcases List.mem_append.1 hy with hy | hy
  · exact h.due y hy
  · simp at hy
    subst hy
    exact hx
theorem RDueL.done {w wr w4 : World} {b R : Nat} {now : Int} {S T L : List Tm} {v v5 v' : Value} (h : RDueL w wr now S T L v5) (hL : ∀ x r, L = x :: r → ¬ x.2 ≤ now) (hrr : RR w b R v S)
    (hb : Below wr.heap.size wr w4) (hb4 : Below w.heap.size w w4) (hr : w4.ownsRow w.heap.size 47 2 v' L.length (flat L)) : RDueDone now S w b R v (.returned v5) (w4.setCell ⟨R, 0, none⟩ v') := by
  obtain ⟨h1, h2⟩ := due_split h.split h.due hL
  unfold RDueDone
  rw [h1, h2]
  refine ⟨v5, v', rfl, ?_, hrr.stored hb4 hr⟩
  have hc : Chg w4 (w4.setCell ⟨R, 0, none⟩ v') (fun j => j = R) := Chg.setCell w4 ⟨R, 0, none⟩ _ _ rfl
  refine rowk (rowk h.row (Chg.of_below hb (fun _ => False)) (fun _ _ e => e)) hc (fun k hk e => ?_)
  have := (row_base h.row hk).1
  have := hrr.lt
  omega
theorem below_row {B : Nat} {w w' : World} {base : Nat} {e : TypeId} {size n : Nat} {v : Value} {fs : List Value} (h : w.ownsRow base e size v n fs) (hB : B ≤ base) (hb : B ≤ w.heap.size) (hg : w.grownBy w' v.ownBlock) : Below B w w' :=
  ⟨hg.os, hg.tape, hg.output, hg.size, fun k hk => by
    refine hg.block k (by omega) (fun e => ?_)
    have := (row_base h e.symm).1
    omega⟩

set_option maxRecDepth 100000 in
set_option maxHeartbeats 4000000 in
theorem rdue_walk {w : World} {b R : Nat} {v : Value} {S : List Tm} (h : RR w b R v S) (now : Int) (hm : S.length ≤ 256) :
    Calls Try.prog 18 #[.pointer (some ⟨R, 0, none⟩), .int .i64 now] w (RDueDone now S w b R v) := by
  obtain ⟨aa, cc, e1, hcc⟩ := h.form
  subst e1
  have c0 := h.cell
  have ltR : (⟨R, 0, none⟩ : Addr).block < w.heap.size := h.lt
  have KEY := Lib.hid (show ∀ (i : Nat) (hi : i < S.length), ∃ B, aa = some ⟨B, 0, none⟩ ∧ B < w.heap.size ∧ w.cell? ⟨B, i * 2, none⟩ = some (.int .i64 (S[i]).1) ∧ w.cell? ⟨B, i * 2 + 1, none⟩ = some (.int .i64 (S[i]).2) from fun i hi => by
    obtain ⟨B, c', e, _, hB, _, hcell⟩ := h.lies (by omega)
    injection e with e1 e2 e3
    exact ⟨B, e1, hB, (hcell i hi).1, (hcell i hi).2⟩)
  have H := Lib.hid h
  have HM := Lib.hid hm
  clear h hm
  go_enter Try.func18, Try.ntmps18
  go_wp2_with fail
  go_loopg [5, 6] (S.length + 1) (fun m v5 v6 wr => ∃ (T L : List Tm), v6 = .int .i64 T.length ∧ L.length < m ∧ Aside (RDueL w wr now S T L v5))
  case atStart => exact ⟨[], S, rfl, by omega, ⟨rfl, fun _ hx => (List.not_mem_nil hx).elim, ⟨rfl, .inl ⟨rfl, rfl⟩⟩, Below.refl _ _⟩⟩
  case round =>
    obtain ⟨T, L, rfl, hqm, hl⟩ := hrel
    have LL := Lib.hid (Aside.out hl)
    clear hl
    have cR := (LL.out.below.cell ltR).trans c0
    have hlen : T.length + L.length = S.length := by rw [LL.out.split, List.length_append]
    have t0 : (0 : Int) ≤ (T.length : Int) := Int.natCast_nonneg _
    have t1 : (T.length : Int) ≤ (S.length : Int) := by omega
    have t2 : (S.length : Int) ≤ 256 := by have := HM.out; omega
    obtain ⟨u2, hu2, p2⟩ := part_from H.out.row T.length (by omega)
    have hdr : S.drop T.length = L := by
      have := LL.out.split
      rw [this, List.drop_left]
    rw [hdr] at p2
    have P2 := Lib.hid (part_below p2 (LL.out.below))
    clear p2 hdr
    by_cases hgo : ∃ x r, L = x :: r ∧ x.2 ≤ now
    · obtain ⟨x, r, rfl, hx⟩ := hgo
      have d0 : (T.length : Int) < (S.length : Int) := by simp only [List.length_cons] at hlen; omega
      obtain ⟨B, e, hB, g1, g2⟩ := KEY.out T.length (by simp only [List.length_cons] at hlen; omega)
      subst e
      have hy : S[T.length]'(by simp only [List.length_cons] at hlen; omega) = x := by
        have h1 := LL.out.split
        have h2 : (T ++ x :: r)[T.length]? = some x := by rw [List.getElem?_append_right (Nat.le_refl _)]; simp
        rw [← h1] at h2
        exact (List.getElem?_eq_some_iff.1 h2).2
      rw [hy] at g1 g2
      have i1 := (LL.out.below.cell (p := ⟨B, T.length * 2, none⟩) hB).trans g1
      have i2 := (LL.out.below.cell (p := ⟨B, T.length * 2 + 1, none⟩) hB).trans g2
      have b1 : Below wr.heap.size wr (wr.alloc (.cells #[.int .i64 x.1] 3)) := below_alloc (Below.refl _ _) _
      have R1 := Lib.hid (rowk LL.out.row (Chg.of_below b1 (fun _ => False)) (fun _ _ e => e))
      have Z1 := Lib.hid (Nat.le_trans LL.out.below.size b1.size)
      have BB := Lib.hid (below_trans' LL.out.below (b1.mono LL.out.below.size))
      have LR := Lib.hid (lit_row (w := wr) (xs := [x.1]) (cs := #[.int .i64 x.1]) (n := 1) (by rfl) (by rfl) (by decide))
      have HQ := Lib.hid hqm
      have HL := Lib.hid hlen
      clear b1 hy g1 g2 hqm hlen hu2 P2
      go_wp2_with (at_builtin; refine wpList_append_row rfl _ _ rfl rfl rfl R1.out LR.out (by have h1 := HL.out; have h2 := HM.out; simp only [List.length_map, List.length_cons, List.length_nil] at h1 ⊢; omega) Z1.out ?_; intro v3 w3 hr3 hg3 hat3; clear hat3; have L3 := Lib.hid (LL.out.next hx hr3 (below_trans' BB.out (grown_below R1.out Z1.out hg3))); clear hr3 hg3)
      go_roundg (gk - 1)
      case measure => have := HQ.out; omega
      case rel =>
        have h1 := HQ.out
        simp only [List.length_cons] at h1
        exact ⟨T ++ [x], r, by simp only [List.length_append, List.length_cons, List.length_nil]; go_num, by omega, L3.out⟩
    · have HN := Lib.hid (show ∀ x r, L = x :: r → ¬ x.2 ≤ now from fun x r e hx => hgo ⟨x, r, e, hx⟩)
      have b1 : Below wr.heap.size wr (wr.alloc (.cells #[] 47)) := below_alloc (Below.refl _ _) _
      have ltr : (⟨R, 0, none⟩ : Addr).block < wr.heap.size := Nat.lt_of_lt_of_le ltR LL.out.below.size
      have cA := (b1.cell ltr).trans cR
      have ER := Lib.hid (show (wr.alloc (.cells #[] 47)).ownsRow wr.heap.size 47 2 (.slice (some ⟨wr.heap.size, 0, none⟩) 0 0) ([] : List Tm).length (flat []) from World.ownsRow_lit wr #[] 0 (Nat.le_refl _) (by decide) (by rfl))
      have P3 := Lib.hid (part_below P2.out (b1.mono (Nat.le_refl _)))
      have Z0 := Lib.hid (Nat.le_trans LL.out.below.size b1.size)
      have Z00 := Lib.hid LL.out.below.size
      have B1 := Lib.hid b1
      have HL := Lib.hid hlen
      have hway : L = [] ∨ ∃ x r, L = x :: r := by
        cases L with
        | nil => exact .inl rfl
        | cons x r => exact .inr ⟨x, r, rfl⟩
      clear b1 hgo hqm hlen P2
      rcases hway with rfl | ⟨x, r, rfl⟩
      · have d0 : ¬ (T.length : Int) < (S.length : Int) := by have := HL.out; simp only [List.length_nil] at this; omega
        go_wp2_with (at_builtin; refine wpList_append_part rfl _ _ rfl rfl rfl (own_mono ER.out Z00.out) P3.out (by simp) Z0.out ?_; intro v3 w3 hr3 hg3 hat3; clear hat3; have bb3 := below_trans' B1.out (below_row ER.out (Nat.le_refl _) B1.out.size hg3); have bb4 := below_trans' LL.out.below (bb3.mono LL.out.below.size); have cR3 := (bb4.cell ltR).trans c0; have fR3 := (bb4.frozen ltR).trans H.out.frozen; rw [List.nil_append] at hr3; obtain ⟨a3, c3, e3⟩ := row_form hr3; subst e3; have DN := Lib.hid (LL.out.done HN.out H.out bb3 bb4 hr3); clear hr3 hg3 bb3 bb4)
        go_ret
        exact DN.out
      · have hx : ¬ x.2 ≤ now := HN.out x r rfl
        have hlen := HL.out
        simp only [List.length_cons] at hlen
        have d0 : (T.length : Int) < (S.length : Int) := by omega
        obtain ⟨B, e, hB, g1, g2⟩ := KEY.out T.length (by omega)
        subst e
        have hy : S[T.length]'(by omega) = x := by
          have h1 := LL.out.split
          have h2 : (T ++ x :: r)[T.length]? = some x := by rw [List.getElem?_append_right (Nat.le_refl _)]; simp
          rw [← h1] at h2
          exact (List.getElem?_eq_some_iff.1 h2).2
        rw [hy] at g1 g2
        have i1 := (LL.out.below.cell (p := ⟨B, T.length * 2, none⟩) hB).trans g1
        have i2 := (LL.out.below.cell (p := ⟨B, T.length * 2 + 1, none⟩) hB).trans g2
        clear hy g1 g2 hlen
        go_wp2_with (at_builtin; refine wpList_append_part rfl _ _ rfl rfl rfl (own_mono ER.out Z00.out) P3.out (by have h1 := HL.out; have h2 := HM.out; simp only [List.length_nil]; omega) Z0.out ?_; intro v3 w3 hr3 hg3 hat3; clear hat3; have bb3 := below_trans' B1.out (below_row ER.out (Nat.le_refl _) B1.out.size hg3); have bb4 := below_trans' LL.out.below (bb3.mono LL.out.below.size); have cR3 := (bb4.cell ltR).trans H.out.cell; have fR3 := (bb4.frozen ltR).trans H.out.frozen; rw [List.nil_append] at hr3; obtain ⟨a3, c3, e3⟩ := row_form hr3; subst e3; have DN := Lib.hid (LL.out.done HN.out H.out bb3 bb4 hr3); clear hr3 hg3 bb3 bb4)
        go_ret
        exact DN.out
end Go.Proofs.Ytphdmhjmaecddaa
