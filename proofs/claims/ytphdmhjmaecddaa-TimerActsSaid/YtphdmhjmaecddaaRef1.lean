/-
The document's own timers in memory: a row in order of time, then of id; parts of it, appended.
-/
import Derived.Test.YtphdmhjmaecddaaFull
namespace Go.Proofs.Ytphdmhjmaecddaa
open Go.RowKit Go.Proofs.YtphdmhjmaecddaaW.PrintWords Go.Proofs.YtphdmhjmaecddaaW.PrintLast Go.Proofs.YtphdmhjmaecddaaW.PrintMore

theorem info47 : (Try.prog.info? 47).map (fun i => (i.zero, i.size, i.bytes)) = some (some (.agg #[.int .i64 0, .int .i64 0]), 2, 16) := by kernel_rfl

/-- A slice that reads as these timers. -/
def Part (w : World) (v : Value) (T : List Tm) : Prop := (v = .slice none 0 0 ∧ T = []) ∨ ∃ ad c, v = .slice (some ad) T.length c ∧ ∀ j u, (flat T)[j]? = some u → w.cell? (ad.add j) = some u

theorem flat_one (T : List Tm) : ∀ u ∈ flat T, u.oneCell' = true := by
  intro u hu
  unfold flat at hu
  obtain ⟨x, _, hu⟩ := List.mem_flatMap.1 hu
  simp at hu
  rcases hu with rfl | rfl <;> rfl
theorem add_off (B o j : Nat) : (⟨B, o, none⟩ : Addr).add j = ⟨B, o + j, none⟩ := by
  unfold Addr.add
  split <;> simp_all

/-- The document's timers: R the block of the head, v the row. -/
structure RR (w : World) (b R : Nat) (v : Value) (S : List Tm) : Prop where
  head : w.heap[R]? = some (.cells #[v] 39 (0, 0))
  row : w.ownsRow b 47 2 v S.length (flat S)
  low : b ≤ R
section
variable {w w' : World} {b R : Nat} {v : Value} {S T : List Tm} {P : Nat → Prop}
theorem RR.ne (h : RR w b R v S) : v.ownBlock ≠ some R := by
  intro e
  rcases h.row.2 with ⟨rfl, _⟩ | ⟨g, cap, cur, rfl, _, h1, _⟩
  · cases e
  · injection e with e
    have e : g = R := e
    subst e
    rw [h.head] at h1
    cases h1
theorem RR.cell (h : RR w b R v S) : w.cell? ⟨R, 0, none⟩ = some v := by rw [cell_of_row w R 0 _ 39 _ h.head]; rfl
theorem RR.frozen (h : RR w b R v S) : w.frozen? ⟨R, 0, none⟩ = false := frozen_of_row w R 0 _ 39 h.head
theorem RR.lt (h : RR w b R v S) : R < w.heap.size := (Array.getElem?_eq_some_iff.1 h.head).1
theorem RR.form (h : RR w b R v S) : ∃ a c, v = .slice a S.length c ∧ S.length ≤ c := by
  rcases h.row.2 with ⟨rfl, e⟩ | ⟨g, cap, cur, rfl, _, _, h1, _⟩
  · exact ⟨none, 0, by rw [e], by omega⟩
  · exact ⟨_, _, rfl, h1⟩
theorem RR.keep (h : RR w b R v S) (hc : Chg w w' P) (h1 : ¬ P R) (h2 : ∀ k, v.ownBlock = some k → ¬ P k) : RR w' b R v S := by
  refine ⟨(hc.block R h.lt h1).trans h.head, ⟨h.row.1, ?_⟩, h.low⟩
  rcases h.row.2 with hn | ⟨g, cap, cur, rfl, h0, h3, r⟩
  · exact .inl hn
  · exact .inr ⟨g, cap, cur, rfl, h0, (hc.block g (Array.getElem?_eq_some_iff.1 h3).1 (h2 g rfl)).trans h3, r⟩
theorem RR.below (h : RR w b R v S) (hb : Below w.heap.size w w') : RR w' b R v S := h.keep (Chg.of_below hb (fun _ => False)) (fun e => e) (fun _ _ e => e)
theorem own_mono {b' : Nat} {e : TypeId} {size n : Nat} {fs : List Value} (h : w.ownsRow b' e size v n fs) (hb : b ≤ b') : w.ownsRow b e size v n fs := by
  refine ⟨h.1, ?_⟩
  rcases h.2 with hn | ⟨g, cap, cur, rfl, h0, r⟩
  · exact .inl hn
  · exact .inr ⟨g, cap, cur, rfl, Nat.le_trans hb h0, r⟩
theorem RR.lies (h : RR w b R v S) (hn : 0 < S.length) : ∃ B c, v = .slice (some ⟨B, 0, none⟩) S.length c ∧ S.length ≤ c ∧ B < w.heap.size ∧ b ≤ B ∧
    (∀ (i : Nat) (hi : i < S.length), w.cell? ⟨B, i * 2, none⟩ = some (.int .i64 (S[i]).1) ∧ w.cell? ⟨B, i * 2 + 1, none⟩ = some (.int .i64 (S[i]).2)) := by
  rcases h.row.2 with ⟨_, e⟩ | ⟨g, cap, cur, rfl, h0, h1, h2, h3, h4, h5⟩
  · omega
  · refine ⟨g, cap, rfl, h2, (Array.getElem?_eq_some_iff.1 h1).1, h0, fun i hi => ?_⟩
    obtain ⟨k1, k2⟩ := flat_at S i hi
    rw [cell_of_row w g _ _ 47 _ h1, cell_of_row w g _ _ 47 _ h1]
    rw [← h5] at k1 k2
    rw [List.getElem?_take, if_pos (by omega)] at k1
    rw [List.getElem?_take, if_pos (by omega)] at k2
    exact ⟨by rw [← Array.getElem?_toList]; exact k1, by rw [← Array.getElem?_toList]; exact k2⟩
theorem flat_drop (xs : List Tm) (m : Nat) : flat (xs.drop m) = (flat xs).drop (m * 2) := by
  induction xs generalizing m with
  | nil => simp [flat]
  | cons x r ih =>
    cases m with
    | zero => simp [flat]
    | succ m => rw [List.drop_succ_cons, flat_cons, ih, show (m + 1) * 2 = m * 2 + 2 by omega]; simp

/-- The first k of a row, and the rest behind k: as the slices that the code cuts. -/
theorem part_to (h : w.ownsRow b 47 2 v S.length (flat S)) (k : Nat) (hk : k ≤ S.length) :
    ∃ u, (∀ W : World, (Instr.slice 37 v none (some (.int .i64 k)) none).run Try.prog W = .ok u W) ∧ Part w u (S.take k) := by
  obtain ⟨i, hi, _⟩ := info_parts info47
  rcases h.2 with ⟨rfl, e⟩ | ⟨g, cap, cur, rfl, _, h1, h2, h3, h4, h5⟩
  · have e2 : S = [] := List.length_eq_zero_iff.1 e
    subst e2
    obtain rfl : k = 0 := by simpa using hk
    exact ⟨.slice none 0 0, fun W => by simpa using cut_to (P := Try.prog) 37 47 .i64 Try.underlying37 hi none 0 0 ((0 : Nat) : Int) (by omega) (by omega) (Nat.le_refl _) W, .inl ⟨rfl, by simp⟩⟩
  · refine ⟨.slice (some ⟨g, 0, none⟩) k cap, fun W => ?_, .inr ⟨⟨g, 0, none⟩, cap, ?_, fun j u hj => ?_⟩⟩
    · have := cut_to (P := Try.prog) 37 47 .i64 Try.underlying37 hi (some ⟨g, 0, none⟩) S.length cap (k : Int) (by omega) (by omega) h2 W
      rwa [Int.toNat_natCast] at this
    · rw [List.length_take, Nat.min_eq_left hk]
    · rw [add_off, Nat.zero_add, cell_of_row w g j _ 47 _ h1, ← Array.getElem?_toList]
      rw [flat_take, ← h5, List.take_take, List.getElem?_take] at hj
      split at hj
      · exact hj
      · cases hj
theorem part_from (h : w.ownsRow b 47 2 v S.length (flat S)) (k : Nat) (hk : k ≤ S.length) :
    ∃ u, (∀ W : World, (Instr.slice 37 v (some (.int .i64 k)) none none).run Try.prog W = .ok u W) ∧ Part w u (S.drop k) := by
  obtain ⟨i, hi, _, hz, _⟩ := info_parts info47
  rcases h.2 with ⟨rfl, e⟩ | ⟨g, cap, cur, rfl, _, h1, h2, h3, h4, h5⟩
  · have e2 : S = [] := List.length_eq_zero_iff.1 e
    subst e2
    obtain rfl : k = 0 := by simpa using hk
    exact ⟨.slice none 0 0, fun W => by simpa using cut_from (P := Try.prog) 37 47 .i64 Try.underlying37 hi 2 hz none 0 0 ((0 : Nat) : Int) (by omega) (by omega) W, .inl ⟨rfl, by simp⟩⟩
  · refine ⟨.slice (some (if cap = k then ⟨g, 0, none⟩ else ⟨g, k * 2, none⟩)) (S.length - k) (cap - k), fun W => ?_, .inr ⟨_, cap - k, by rw [List.length_drop], fun j u hj => ?_⟩⟩
    · have := cut_from (P := Try.prog) 37 47 .i64 Try.underlying37 hi 2 hz (some ⟨g, 0, none⟩) S.length cap (k : Int) (by omega) (by omega) W
      rw [Int.toNat_natCast, Option.map_some, add_off, Nat.zero_add] at this
      rw [this]
      split <;> rfl
    · rw [flat_drop, List.getElem?_drop, ← h5, List.getElem?_take] at hj
      split at hj
      · rename_i hlt
        rw [if_neg (by omega), add_off, cell_of_row w g _ _ 47 _ h1, ← Array.getElem?_toList]
        exact hj
      · cases hj
end

/-- Timers appended to a row. -/
theorem run_append_part {w : World} {base : Nat} {v u : Value} {xs ys : List Tm} (hx : w.ownsRow base 47 2 v xs.length (flat xs)) (hy : Part w u ys) (hm : xs.length + ys.length ≤ 1000000) (hb : base ≤ w.heap.size) (ty : TypeId) :
    ∃ v' w', (Builtin.append_ #[37, 37] ty #[v, u]).run Try.prog w = .ok v' w' ∧ w'.ownsRow base 47 2 v' (xs ++ ys).length (flat (xs ++ ys)) ∧ w.grownBy w' v.ownBlock ∧ (v'.ownBlock = v.ownBlock ∨ v'.ownBlock = some w.heap.size) := by
  obtain ⟨i0, hi0, hz0, hz1, hz2⟩ := info_parts info47
  have hml : xs.length + ys.length ≤ maxLen := Nat.le_trans hm (by decide)
  rw [List.length_append, flat_append]
  rcases hy with ⟨rfl, rfl⟩ | ⟨ad, c, rfl, hc⟩
  · refine ⟨v, w, run_append_owned_none w base 37 ty 47 i0 2 Try.underlying37 hi0 v xs.length (flat xs) hx, by simpa [flat] using hx, ⟨rfl, rfl, rfl, Nat.le_refl _, fun _ _ _ => rfl⟩, .inl rfl⟩
  · obtain ⟨v', w', r1, r2, r3, _, r5⟩ := run_append_own_at (P := Try.prog) w base 37 ty 47 i0 _ 2 16 Try.underlying37 hi0 hz0 hz1 hz2 rfl (by omega) v xs.length (flat xs) hx ad ys.length c (flat ys) (flat_length ys) hc (flat_one ys) hml (by omega) hb
    exact ⟨v', w', r1, r2, r3, r5⟩
theorem wpList_append_part {w : World} {ops : Array Oper} {rest : List Oper} {o : Oper} {a : Act} {Q : Exit → Act → World → Prop} (hgd : o.guard = none) (s x : Operand)
    (ho : o.op = .call { callee := .builtin .append, args := #[s, x], argTypes := #[37, 37] })
    {base : Nat} {v u : Value} {xs ys : List Tm} (hs : a.eval s = v) (hu : a.eval x = u) (hx : w.ownsRow base 47 2 v xs.length (flat xs)) (hy : Part w u ys) (hm : xs.length + ys.length ≤ 1000000) (hb : base ≤ w.heap.size)
    (h : ∀ v' w', w'.ownsRow base 47 2 v' (xs ++ ys).length (flat (xs ++ ys)) → w.grownBy w' v.ownBlock → (v'.ownBlock = v.ownBlock ∨ v'.ownBlock = some w.heap.size) → wpList Try.prog ops Q rest (a.put o.dst v') w') :
    wpList Try.prog ops Q (o :: rest) a w := by
  refine wpList_plain hgd fun K hK => ?_
  obtain ⟨v', w', hr, h2, h3, h4⟩ := run_append_part hx hy hm hb o.type
  unfold Oper.wp execOp
  simp only [ho, resolve, invoke, builtin, Sem.run_bind, Sem.run_pure, Result.andThen_ok, List.map_toArray, List.map_cons, List.map_nil, hs, hu, hr]
  exact hK _ _ (h v' w' h2 h3 h4)
theorem part_keep {w w' : World} {u : Value} {ys : List Tm} (h : Part w u ys) (hk : ∀ (a : Addr) (x : Value), w.cell? a = some x → w'.cell? a = some x) : Part w' u ys := by
  rcases h with h | ⟨ad, c, h1, h2⟩
  · exact .inl h
  · exact .inr ⟨ad, c, h1, fun j x hj => hk _ _ (h2 j x hj)⟩
end Go.Proofs.Ytphdmhjmaecddaa
