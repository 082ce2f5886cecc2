/-
For the statement TimerAll: what its first loop keeps in memory.
-/
import Derived.Test.YtphdmhjmaecddaaAll0
namespace Go.Proofs.Ytphdmhjmaecddaa
open Go.RowKit Go.Proofs.YtphdmhjmaecddaaW.PrintWords Go.Proofs.YtphdmhjmaecddaaW.PrintLast Go.Proofs.YtphdmhjmaecddaaW.PrintMore

/-- The rows as they are made. -/
def la0 : List Int := List.replicate 64 0
def ha0 : List Bool := List.replicate 64 false
theorem make_la (w : World) : (Instr.makeSlice 22 (.int .i64 64) (.int .i64 64)).run Try.prog w = .ok (.slice (some ⟨w.heap.size, 0, none⟩) 64 64) (w.alloc (.cells (arr la0) 3)) := by kernel_rfl
theorem make_ha (w : World) : (Instr.makeSlice 49 (.int .i64 64) (.int .i64 64)).run Try.prog w = .ok (.slice (some ⟨w.heap.size, 0, none⟩) 64 64) (w.alloc (.cells (arb ha0) 4)) := by kernel_rfl

/-- Two rows, of numbers and of bools, in blocks of their own. -/
structure Rows2 (w : World) (g1 g2 : Nat) (la : List Int) (ha : List Bool) : Prop where
  r1 : w.heap[g1]? = some (.cells (arr la) 3 (0, 0))
  r2 : w.heap[g2]? = some (.cells (arb ha) 4 (0, 0))
theorem Rows2.keep {w w' : World} {g1 g2 : Nat} {la : List Int} {ha : List Bool} {P : Nat → Prop} (h : Rows2 w g1 g2 la ha) (hc : Chg w w' P) (h1 : ¬ P g1) (h2 : ¬ P g2) : Rows2 w' g1 g2 la ha :=
  ⟨(hc.block g1 (Array.getElem?_eq_some_iff.1 h.r1).1 h1).trans h.r1, (hc.block g2 (Array.getElem?_eq_some_iff.1 h.r2).1 h2).trans h.r2⟩

/-- What the law's first loop keeps. -/
structure AllL (w wr : World) (A g1 g2 : Nat) (S : List Tm) (la : List Int) (ha : List Bool) : Prop where
  tt : TT wr A S (fun k => k < w.heap.size ∨ k = g1 ∨ k = g2)
  rows : Rows2 wr g1 g2 la ha
  ne : g1 ≠ g2
  b1 : w.heap.size ≤ g1
  b2 : w.heap.size ≤ g2
  below : Below w.heap.size w wr
  tells : Tells S la ha

theorem AllL.start {w w1 : World} {A : Nat} (ht : TT w1 A [] (fun k => k < w.heap.size)) (hb : Below w.heap.size w w1) :
    AllL w ((w1.alloc (.cells (arr la0) 3)).alloc (.cells (arb ha0) 4)) A w1.heap.size (w1.heap.size + 1) [] la0 ha0 := by
  have b1 : Below w1.heap.size w1 ((w1.alloc (.cells (arr la0) 3)).alloc (.cells (arb ha0) 4)) := below_alloc (below_alloc (Below.refl _ _) _) _
  have hsz : ((w1.alloc (.cells (arr la0) 3)).alloc (.cells (arb ha0) 4)).heap.size = w1.heap.size + 2 := by simp
  refine ⟨(ht.below b1).sub (fun k hk => ?_), ⟨?_, ?_⟩, by omega, hb.size, Nat.le_trans hb.size (Nat.le_succ _), below_step hb b1, Tells.start⟩
  · rw [hsz]
    rcases hk with hk | rfl | rfl
    · exact .inl hk
    · exact .inr ⟨Nat.le_refl _, by omega⟩
    · exact .inr ⟨Nat.le_succ _, by omega⟩
  · rw [(World.grownBy_alloc (w1.alloc (.cells (arr la0) 3)) (.cells (arb ha0) 4) none).block w1.heap.size (by simp) (by simp)]
    exact heap_alloc_new w1 _
  · have := heap_alloc_new (w1.alloc (.cells (arr la0) 3)) (.cells (arb ha0) 4)
    simpa using this

theorem AllL.cell1 {w wr : World} {A g1 g2 : Nat} {S : List Tm} {la : List Int} {ha : List Bool} (h : AllL w wr A g1 g2 S la ha) (k : Nat) (hk : k < 64) : wr.cell? ⟨g1, k, none⟩ = some (.int .i64 (la.getD k 0)) := by
  rw [cell_of_row wr g1 k _ 3 _ h.rows.r1, arr_at la k (by rw [h.tells.l1]; exact hk)]
theorem AllL.cell2 {w wr : World} {A g1 g2 : Nat} {S : List Tm} {la : List Int} {ha : List Bool} (h : AllL w wr A g1 g2 S la ha) (k : Nat) (hk : k < 64) : wr.cell? ⟨g2, k, none⟩ = some (.bool (ha.getD k false)) := by
  rw [cell_of_row wr g2 k _ 4 _ h.rows.r2, arb_at ha k (by rw [h.tells.l2]; exact hk)]

/-- A round: the time is set, then told in both rows. -/
theorem AllL.next {w wr w2 : World} {A g1 g2 : Nat} {S : List Tm} {la : List Int} {ha : List Bool} (h : AllL w wr A g1 g2 S la ha) (k : Nat) (v : Int) (hk : k < 64) (v0 : 0 ≤ v) (hv : v ≤ 1023)
    (ht : TT w2 A (setS (k : Int) v S) (fun k => k < w.heap.size ∨ k = g1 ∨ k = g2)) (hc : Chg wr w2 (fun j => ¬ (j < w.heap.size ∨ j = g1 ∨ j = g2))) :
    AllL w ((w2.setCell ⟨g1, k, none⟩ (.int .i64 v)).setCell ⟨g2, k, none⟩ (.bool true)) A g1 g2 (ins ((k : Int), v) (del (k : Int) S)) (la.set k v) (ha.set k true) := by
  have hr : Rows2 w2 g1 g2 la ha := h.rows.keep hc (fun hn => hn (.inr (.inl rfl))) (fun hn => hn (.inr (.inr rfl)))
  have c1 : Chg w2 ((w2.setCell ⟨g1, k, none⟩ (.int .i64 v)).setCell ⟨g2, k, none⟩ (.bool true)) (fun j => j = g1 ∨ j = g2) :=
    (Chg.setCell w2 ⟨g1, k, none⟩ _ (fun j => j = g1 ∨ j = g2) (.inl rfl)).then (Chg.setCell _ ⟨g2, k, none⟩ _ (fun j => j = g1 ∨ j = g2) (.inr rfl))
  rw [h.tells.setS k v v0] at ht
  refine ⟨(ht.keep c1 (fun j hj => .inr hj)).sub (fun j hj => .inl hj), ⟨?_, ?_⟩, h.ne, h.b1, h.b2, ?_, h.tells.next h.tt.ids k v hk hv⟩
  · rw [heap_setCell_other _ ⟨g2, k, none⟩ g1 _ h.ne, heap_setCell_same w2 g1 k _ 3 _ hr.r1, arr_set]
  · rw [heap_setCell_same (w2.setCell ⟨g1, k, none⟩ (.int .i64 v)) g2 k _ 4 _ (by rw [heap_setCell_other _ ⟨g1, k, none⟩ g2 _ (fun e => h.ne e.symm)]; exact hr.r2), arb_set]
  · refine below_chg (Q := fun k => k < w.heap.size) (below_chg h.below hc (fun _ hk => .inl hk)) (c1.mono (fun j _ hj hq => ?_)) (fun _ hk => hk)
    have := h.b1
    have := h.b2
    rcases hj with rfl | rfl <;> omega
/-- All has fallen due. -/
structure AllD (w w3 : World) (A g1 g2 : Nat) (S : List Tm) (la : List Int) (ha : List Bool) (b3 : Option Addr) (c3 : Nat) : Prop where
  tt : TT w3 A [] (fun k => k < w.heap.size)
  row : w3.ownsRow w.heap.size 3 1 (.slice b3 S.length c3) S.length (iv (S.map (·.1)))
  rows : Rows2 w3 g1 g2 la ha
  below : Below w.heap.size w w3
  tells : Tells S la ha
  sorted : Sorted S
theorem AllL.fallen {w wr w3 : World} {A g1 g2 c3 : Nat} {S : List Tm} {la : List Int} {ha : List Bool} {b3 : Option Addr} (h : AllL w wr A g1 g2 S la ha)
    (hr : w3.ownsRow wr.heap.size 3 1 (.slice b3 S.length c3) S.length (iv (S.map (·.1)))) (ht : TT w3 A [] (fun k => (k < w.heap.size ∨ k = g1 ∨ k = g2) ∨ (Value.slice b3 S.length c3).ownBlock = some k)) (hc : Chg wr w3 (fun j => ¬ (j < w.heap.size ∨ j = g1 ∨ j = g2))) : AllD w w3 A g1 g2 S la ha b3 c3 := by
  refine ⟨ht.sub (fun k hk => .inl (.inl hk)), ⟨hr.1, ?_⟩, h.rows.keep hc (fun hn => hn (.inr (.inl rfl))) (fun hn => hn (.inr (.inr rfl))), below_chg h.below hc (fun _ hk => .inl hk), h.tells, h.tt.sorted⟩
  rcases hr.2 with hr | ⟨g, cap, cur, e, hb, r⟩
  · exact .inl hr
  · exact .inr ⟨g, cap, cur, e, Nat.le_trans h.below.size hb, r⟩
theorem AllD.cell2 {w w3 : World} {A g1 g2 c3 : Nat} {S : List Tm} {la : List Int} {ha : List Bool} {b3 : Option Addr} (h : AllD w w3 A g1 g2 S la ha b3 c3) (k : Nat) (hk : k < 64) : w3.cell? ⟨g2, k, none⟩ = some (.bool (ha.getD k false)) := by
  rw [cell_of_row w3 g2 k _ 4 _ h.rows.r2, arb_at ha k (by rw [h.tells.l2]; exact hk)]
theorem count_next {ha : List Bool} (h : ha.length = 64) (j : Nat) (hj : j < 64) : (ha.take (j + 1)).count true = (ha.take j).count true + (if ha.getD j false = true then 1 else 0) := by
  rw [List.take_succ_eq_append_getElem (by omega), List.count_append]
  have : ha.getD j false = ha[j]'(by omega) := by rw [List.getD_eq_getElem?_getD, List.getElem?_eq_getElem (by omega)]; rfl
  rw [this]
  cases ha[j]'(by omega) <;> simp
theorem AllD.round {w w3 : World} {A g1 g2 c3 : Nat} {S : List Tm} {la : List Int} {ha : List Bool} {b3 : Option Addr} (h : AllD w w3 A g1 g2 S la ha b3 c3) (q : Nat) (hq : q + 1 < S.length) :
    ∃ (g3 an bn : Nat) (xa ya : Int), b3 = some ⟨g3, 0, none⟩ ∧ w3.cell? ⟨g3, q, none⟩ = some (.int .i64 an) ∧ w3.cell? ⟨g3, q + 1, none⟩ = some (.int .i64 bn) ∧ w3.cell? ⟨g1, an, none⟩ = some (.int .i64 xa) ∧ w3.cell? ⟨g1, bn, none⟩ = some (.int .i64 ya) ∧ an < 64 ∧ bn < 64 ∧ (xa < ya ∨ (xa = ya ∧ an < bn)) := by
  have hr := h.row
  have hm : ∀ (j : Nat) (hj : j < S.length), ∃ (an : Nat) (xa : Int), S[j] = ((an : Int), xa) ∧ an < 64 ∧ w3.cell? ⟨g1, an, none⟩ = some (.int .i64 xa) := fun j hj => by
    obtain ⟨m1, m2, _, m4⟩ := h.tells.mem S[j] (List.getElem_mem hj)
    refine ⟨(S[j]).1.toNat, (S[j]).2, ?_, by omega, ?_⟩
    · rw [Int.toNat_of_nonneg m1]
    · rw [cell_of_row w3 g1 _ _ 3 _ h.rows.r1, arr_at la _ (by rw [h.tells.l1]; omega), m4]
  obtain ⟨an, xa, ea, a64, ca⟩ := hm q (by omega)
  obtain ⟨bn, ya, eb, b64, cb⟩ := hm (q + 1) hq
  have hlt := (List.pairwise_iff_getElem.1 h.sorted) q (q + 1) (by omega) hq (by omega)
  rw [ea, eb, lt_iff] at hlt
  have hl : (S.map (·.1)).length = S.length := List.length_map _
  rw [← hl] at hr
  obtain ⟨g3, e3, _, _, _, hcell⟩ := row_some (m := (S.map (·.1)).length) hr (by omega)
  refine ⟨g3, an, bn, xa, ya, e3, ?_, ?_, ca, cb, a64, b64, ?_⟩
  · rw [hcell q (by omega), List.getElem_map, ea]
  · rw [hcell (q + 1) (by omega), List.getElem_map, eb]
  · simp only at hlt
    omega
end Go.Proofs.Ytphdmhjmaecddaa
