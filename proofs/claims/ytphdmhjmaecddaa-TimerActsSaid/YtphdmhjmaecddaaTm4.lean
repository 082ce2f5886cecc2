/-
Due of timers, walked.
-/
import Derived.Test.YtphdmhjmaecddaaTm1
import Derived.Test.YtphdmhjmaecddaaRem
namespace Go.Proofs.Ytphdmhjmaecddaa
open Go.RowKit Go.Proofs.YtphdmhjmaecddaaW.PrintWords Go.Proofs.YtphdmhjmaecddaaW.PrintLast Go.Proofs.YtphdmhjmaecddaaW.PrintMore

theorem pop_tt {w : World} {A : Nat} {x : Tm} {r : List Tm} {Q : Nat → Prop} (h : TT w A (x :: r) Q) :
    Calls Try.prog 22 #[.iface 61 (.pointer (some ⟨A, 0, none⟩))] w fun e w' => e = .returned (.iface 59 (.agg #[.int .i64 x.1, .int .i64 x.2])) ∧ TT w' A r Q ∧ Chg w w' (fun k => ¬ Q k) := by
  obtain ⟨⟨M, v, xs, h1, h2, h3⟩, h4⟩ := h
  have hl := h2.perm.length_eq
  simp only [List.length_cons] at hl
  refine (hpop_walk h1 r.length hl).mono ?_
  rintro e w' ⟨ys, y, v', hz, rfl, hs⟩
  obtain ⟨S', e1, h5⟩ := stands_pop h2 hl hz
  injection e1 with e1 e2
  subst e1 e2
  exact ⟨rfl, TT.of_step hs h5 h3 h4⟩

theorem TT.head_nil {w : World} {A : Nat} {Q : Nat → Prop} (h : TT w A [] Q) : ∃ a c, w.cell? ⟨A, 0, none⟩ = some (.slice a 0 c) := by
  obtain ⟨⟨M, v, xs, h1, h2, h3⟩, h4⟩ := h
  obtain ⟨a, c, hv⟩ := h1.slice
  have h0 := h1.cell0
  rw [hv, h2.perm.length_eq] at h0
  exact ⟨a, c, h0⟩
theorem TT.head_cons {w : World} {A : Nat} {x : Tm} {r : List Tm} {Q : Nat → Prop} (h : TT w A (x :: r) Q) :
    ∃ B c, w.cell? ⟨A, 0, none⟩ = some (.slice (some ⟨B, 0, none⟩) (r.length + 1) c) ∧ w.cell? ⟨B, 0, none⟩ = some (.int .i64 x.1) ∧ w.cell? ⟨B, 1, none⟩ = some (.int .i64 x.2) := by
  obtain ⟨⟨M, v, xs, h1, h2, h3⟩, h4⟩ := h
  have hl := h2.perm.length_eq
  simp only [List.length_cons] at hl
  have hx := h2.first rfl (by omega)
  obtain ⟨B, c, cur, hv, hB, _, _, _, htk⟩ := h1.lies (by omega)
  obtain ⟨hx1, hx2⟩ := row_cells hB htk 0 (by omega)
  rw [hx] at hx1 hx2
  have h0 := h1.cell0
  rw [hv, hl] at h0
  simp only [Nat.zero_mul, Nat.zero_add] at hx1 hx2
  exact ⟨B, c, h0, hx1, hx2⟩

/-- The ids, as cells. -/
def idv (T : List Tm) : List Value := T.map (fun x => .int .i64 x.1)
theorem idv_snoc (T : List Tm) (x : Tm) : idv (T ++ [x]) = idv T ++ [.int .i64 x.1] := by simp [idv]

theorem due_split {now : Int} {S T L : List Tm} (h : S = T ++ L) (hT : ∀ x ∈ T, x.2 ≤ now) (hL : ∀ x r, L = x :: r → ¬ x.2 ≤ now) : dueT now S = T ∧ dueL now S = L := by
  subst h
  unfold dueT dueL
  induction T with
  | nil =>
    cases L with
    | nil => exact ⟨rfl, rfl⟩
    | cons x r =>
      have := hL x r rfl
      simp [this]
  | cons y T ih =>
    have hy := hT y (by simp)
    have := ih (fun x hx => hT x (by simp [hx]))
    simp only [List.cons_append, List.takeWhile_cons, List.dropWhile_cons, hy, decide_true, if_true]
    exact ⟨by rw [this.1], this.2⟩

theorem rowk {w w' : World} {base : Nat} {e : TypeId} {size : Nat} {v : Value} {n : Nat} {fs : List Value} {P : Nat → Prop} (h : w.ownsRow base e size v n fs) (hc : Chg w w' P) (hs : ∀ k, v.ownBlock = some k → ¬ P k) : w'.ownsRow base e size v n fs := by
  refine ⟨h.1, ?_⟩
  rcases h.2 with hn | ⟨g, cap, cur, rfl, h0, h1, r⟩
  · exact .inl hn
  · exact .inr ⟨g, cap, cur, rfl, h0, (hc.block g (Array.getElem?_eq_some_iff.1 h1).1 (hs g rfl)).trans h1, r⟩

theorem info3 : (Try.prog.info? 3).map (fun i => (i.zero, i.size, i.bytes)) = some (some (.int .i64 0), 1, 8) := by kernel_rfl

/-- What Due's loop keeps. -/
structure DueL (w wr : World) (A : Nat) (now : Int) (S T L : List Tm) (Q : Nat → Prop) (v5 : Value) : Prop where
  split : S = T ++ L
  due : ∀ x ∈ T, x.2 ≤ now
  tt : TT wr A L (fun k => Q k ∨ v5.ownBlock = some k)
  row : wr.ownsRow w.heap.size 3 1 v5 T.length (idv T)
  chg : Chg w wr (fun k => ¬ Q k)

theorem DueL.next {w wr w1 w2 W : World} {A g cap : Nat} {now : Int} {S T r : List Tm} {x : Tm} {Q : Nat → Prop} {v5 : Value} (h : DueL w wr A now S T (x :: r) Q v5) (hx : x.2 ≤ now)
    (h1 : TT w1 A r (fun k => Q k ∨ v5.ownBlock = some k)) (hc1 : Chg wr w1 (fun k => ¬ (Q k ∨ v5.ownBlock = some k))) (hb : Below w1.heap.size w1 W)
    (hrow : w2.ownsRow w.heap.size 3 1 (.slice (some ⟨g, 0, none⟩) (T.length + 1) cap) (T.length + 1) (idv T ++ [.int .i64 x.1]))
    (hg : W.grownBy w2 v5.ownBlock) (hat : v5.ownBlock = some g ∨ g = W.heap.size) (hlt : g < w2.heap.size) : DueL w w2 A now S (T ++ [x]) r Q (.slice (some ⟨g, 0, none⟩) (T.length + 1) cap) := by
  have hcW : Chg w1 w2 (fun k => v5.ownBlock = some k) := (Chg.of_below hb _).then (Chg.grown hg (fun k hk => hk))
  refine ⟨by rw [h.split]; simp, fun y hy => ?_, ?_, ?_, ?_⟩
  · rcases List.mem_append.1 hy with hy | hy
    · exact h.due y hy
    · simp at hy; subst hy; exact hx
  · refine (h1.keep hcW (fun k hk => .inr hk)).sub (fun k hk => ?_)
    rcases hk with hk | hk
    · exact .inl (.inl hk)
    · injection hk with hk
      have hk : g = k := hk
      subst hk
      rcases hat with hat | hat
      · exact .inl (.inr hat)
      · refine .inr ⟨?_, hlt⟩
        rw [hat]
        exact hb.size
  · rw [idv_snoc]
    simpa using hrow
  · refine (h.chg.trans (hc1.mono (S' := fun k => ¬ Q k) (fun k _ hk hq => hk (.inl hq))) (fun _ _ e => e)).trans hcW (fun k hk hv hq => ?_)
    rcases h.row.2 with ⟨rfl, _⟩ | ⟨g', cap', cur', rfl, h0, _⟩
    · cases hv
    · injection hv with hv
      have hv : g' = k := hv
      omega
end Go.Proofs.Ytphdmhjmaecddaa
