/-
The document's own timers: what Set's loop keeps; one timer appended to a row.
-/
import Derived.Test.YtphdmhjmaecddaaRef2
import Derived.Test.YtphdmhjmaecddaaArgs
namespace Go.Proofs.Ytphdmhjmaecddaa
open Go.RowKit Go.Proofs.YtphdmhjmaecddaaW.PrintWords Go.Proofs.YtphdmhjmaecddaaW.PrintLast Go.Proofs.YtphdmhjmaecddaaW.PrintMore

def RSetDone (k a : Int) (S : List Tm) (w : World) (b R : Nat) (v : Value) (e : Ending) (w' : World) : Prop := ∃ v', e = .returned (.int .i64 (setE k a S)) ∧ RStep w w' b R v v' (setS k a S)

theorem part_one (X : World) (y : Tm) : Part (X.alloc (.cells #[.int .i64 y.1, .int .i64 y.2] 47)) (.slice (some ⟨X.heap.size, 0, none⟩) 1 1) [y] :=
  .inr ⟨⟨X.heap.size, 0, none⟩, 1, rfl, fun j u hj => World.news_of_block (heap_alloc_new X (.cells #[.int .i64 y.1, .int .i64 y.2] 47)) j u (by simpa [flat] using hj)⟩

/-- One timer, laid in a block of its own, is appended to a row. -/
theorem wpList_append_one {X : World} {ops : Array Oper} {rest : List Oper} {o : Oper} {a : Act} {Q : Exit → Act → World → Prop} (hgd : o.guard = none) (s x : Operand)
    (ho : o.op = .call { callee := .builtin .append, args := #[s, x], argTypes := #[37, 37] })
    {base : Nat} {v : Value} {xs : List Tm} {y : Tm} (H : Nat) (hH : X.heap.size = H) (hs : a.eval s = v) (hu : a.eval x = .slice (some ⟨H, 0, none⟩) 1 1) (hx : X.ownsRow base 47 2 v xs.length (flat xs)) (hm : xs.length ≤ 1000) (hb : base ≤ X.heap.size)
    (h : ∀ v' w', w'.ownsRow base 47 2 v' (xs ++ [y]).length (flat (xs ++ [y])) → Below base X w' → (∀ (p : Addr) (u : Value), X.cell? p = some u → v.ownBlock ≠ some p.block → w'.cell? p = some u) → wpList Try.prog ops Q rest (a.put o.dst v') w') :
    wpList Try.prog ops Q (o :: rest) a (X.alloc (.cells #[.int .i64 y.1, .int .i64 y.2] 47)) := by
  subst hH
  have hb1 : Below X.heap.size X (X.alloc (.cells #[.int .i64 y.1, .int .i64 y.2] 47)) := below_alloc (Below.refl _ _) _
  have hx1 := rowk hx (Chg.of_below hb1 (fun _ => False)) (fun _ _ e => e)
  refine wpList_append_part hgd s x ho hs hu hx1 (part_one X y) (by simp; omega) (Nat.le_trans hb hb1.size) ?_
  intro v' w' hr hg _
  refine h v' w' hr (below_trans' (hb1.mono hb) (grown_below hx1 (Nat.le_trans hb hb1.size) hg)) (fun p u hp hne => ?_)
  have h1 := (hb1.cell (World.block_lt_of_cell? X p hp)).trans hp
  exact (hg.cell_far p (World.block_lt_of_cell? _ p h1) (fun e => hne e.symm)).trans h1

/-- What Set's loop keeps. -/
structure RSetL (W wr : World) (k a : Int) (S1 : List Tm) (q : Nat) (dn : Bool) (O : List Tm) (v7 : Value) : Prop where
  row : wr.ownsRow W.heap.size 47 2 v7 O.length (flat O)
  below : Below W.heap.size W wr
  eq : O ++ (if dn = true then S1.drop q else ins (k, a) (S1.drop q)) = ins (k, a) S1
  len : O.length ≤ q + 1
theorem RSetL.start (W : World) (k a : Int) (S1 : List Tm) : RSetL W W k a S1 0 false [] (.slice none 0 0) := ⟨nil_row _ _, Below.refl _ _, by simp, by simp⟩
theorem drop_at {S1 : List Tm} {q : Nat} (hq : q < S1.length) : S1.drop q = S1[q] :: S1.drop (q + 1) := (List.getElem_cons_drop hq).symm
/-- The element is taken over. -/
theorem RSetL.over {W wr w' : World} {k a : Int} {S1 O : List Tm} {q : Nat} {dn : Bool} {v7 v' : Value} (h : RSetL W wr k a S1 q dn O v7) (hq : q < S1.length) (hn : dn = true ∨ lt (k, a) S1[q] = false)
    (hr : w'.ownsRow W.heap.size 47 2 v' (O ++ [S1[q]]).length (flat (O ++ [S1[q]]))) (hb : Below W.heap.size W w') : RSetL W w' k a S1 (q + 1) dn (O ++ [S1[q]]) v' := by
  refine ⟨hr, hb, ?_, by have := h.len; simp; omega⟩
  rw [← h.eq, drop_at hq]
  cases dn with
  | true => simp
  | false =>
    rcases hn with e | e
    · cases e
    · rw [if_neg (by simp), if_neg (by simp), ins, if_neg (by rw [e]; simp)]
      simp
/-- The new one goes in before it. -/
theorem RSetL.into {W wr w' : World} {k a : Int} {S1 O : List Tm} {q : Nat} {v7 v' : Value} (h : RSetL W wr k a S1 q false O v7) (hq : q < S1.length) (hn : lt (k, a) S1[q] = true)
    (hr : w'.ownsRow W.heap.size 47 2 v' ((O ++ [(k, a)]) ++ [S1[q]]).length (flat ((O ++ [(k, a)]) ++ [S1[q]]))) (hb : Below W.heap.size W w') (hl : O.length ≤ q) : RSetL W w' k a S1 (q + 1) true ((O ++ [(k, a)]) ++ [S1[q]]) v' := by
  refine ⟨hr, hb, ?_, by simp; omega⟩
  rw [← h.eq, drop_at hq, if_pos rfl, if_neg (by simp), ins, if_pos hn]
  simp
theorem RSetL.few {W wr : World} {k a : Int} {S1 O : List Tm} {q : Nat} {v7 : Value} (h : RSetL W wr k a S1 q false O v7) : O.length ≤ q := by
  have h1 := congrArg List.length h.eq
  rw [if_neg (by simp), List.length_append, ins_length, ins_length, List.length_drop] at h1
  omega
theorem RSetL.done {W wr : World} {k a : Int} {S1 O : List Tm} {v7 : Value} (h : RSetL W wr k a S1 S1.length true O v7) : O = ins (k, a) S1 := by
  have h1 := h.eq
  rw [if_pos rfl, List.drop_length, List.append_nil] at h1
  exact h1
theorem RSetL.last {W wr : World} {k a : Int} {S1 O : List Tm} {v7 : Value} (h : RSetL W wr k a S1 S1.length false O v7) : O ++ [(k, a)] = ins (k, a) S1 := by
  have h1 := h.eq
  rw [if_neg (by simp), List.drop_length] at h1
  exact h1
end Go.Proofs.Ytphdmhjmaecddaa
