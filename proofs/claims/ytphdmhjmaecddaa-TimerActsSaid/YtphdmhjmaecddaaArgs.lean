/-
For the laws of timers: arguments that are rows of numbers; two timers side by side; a row appended to a row.
-/
import Derived.Test.YtphdmhjmaecddaaTurns
namespace Go.Proofs.Ytphdmhjmaecddaa
open Go.RowKit Go.Proofs.YtphdmhjmaecddaaW.PrintWords Go.Proofs.YtphdmhjmaecddaaW.PrintLast Go.Proofs.YtphdmhjmaecddaaW.PrintMore

/-- A row that came in. -/
def IsRow (k : IntKind) (w : World) (a : Option Addr) (len cap : Nat) (zs : List Int) : Prop :=
  (a = none ∧ len = 0 ∧ cap = 0 ∧ zs = []) ∨
  ∃ x, a = some x ∧ len ≤ cap ∧ cap ≤ maxLen ∧ zs.length = cap ∧ (∀ i, i < zs.length → w.cell? (x.add i) = some (.int k (zs.getD i 0))) ∧ ∀ n ∈ zs, (Lit.int k n).wf = true
theorem IsRow.at_ {w : World} {a : Option Addr} {len cap : Nat} {zs : List Int} (h : IsRow .i64 w a len cap zs) (j : Nat) (hj : j < len) :
    ∃ x z, a = some x ∧ w.cell? (x.add j) = some (.int .i64 z) ∧ ok64 z := by
  rcases h with ⟨_, rfl, _⟩ | ⟨x, rfl, h1, _, h3, h4, h5⟩
  · omega
  · refine ⟨x, _, rfl, h4 j (by omega), h5 _ ?_⟩
    rw [List.getD_eq_getElem?_getD, List.getElem?_eq_getElem (by omega)]
    exact List.getElem_mem _
theorem IsRow.small {k : IntKind} {w : World} {a : Option Addr} {len cap : Nat} {zs : List Int} (h : IsRow k w a len cap zs) : (len : Int) ≤ 9223372036854775807 := by
  rcases h with ⟨_, rfl, _⟩ | ⟨x, rfl, h1, h2, _⟩
  · decide
  · simp only [maxLen] at h2
    omega

/-- Timers at A and timers at B, apart from each other and from Q. -/
def Two (w : World) (A B : Nat) (Sa Sb : List Tm) (Q : Nat → Prop) : Prop :=
  ∃ O : Nat → Prop, TT w A Sa (fun k => Q k ∨ O k) ∧ ∃ M v xs, Pile w B M v xs ∧ Stands xs Sb ∧ ∀ k, own B M v k → O k ∧ ¬ Q k
section
variable {w w' : World} {A B : Nat} {Sa Sb Sa' Sb' : List Tm} {Q : Nat → Prop}
theorem Two.swap (h : Two w A B Sa Sb Q) : Two w B A Sb Sa Q := by
  obtain ⟨O, ⟨⟨M, v, xs, h1, h2, h3⟩, h4⟩, M', v', xs', k1, k2, k3⟩ := h
  refine ⟨own A M v, ⟨⟨M', v', xs', k1, k2, fun k hk hq => ?_⟩, fun k hk => ?_⟩, M, v, xs, h1, h2, fun k hk => ⟨hk, fun hq => h3 k hk (.inl hq)⟩⟩
  · rcases hq with hq | hq
    · exact (k3 k hk).2 hq
    · exact h3 k hq (.inr (k3 k hk).1)
  · rcases hk with hk | hk
    · exact h4 k (.inl hk)
    · exact h1.lt hk
theorem Two.left (h : Two w A B Sa Sb Q) : TT w A Sa Q := by
  obtain ⟨O, h1, _⟩ := h
  exact h1.sub (fun k hk => .inl hk)
theorem Two.right (h : Two w A B Sa Sb Q) : TT w B Sb Q := h.swap.left
/-- A step on the timers at A. -/
theorem Two.step {E : Ending → World → Prop} {f : Nat} {args : Array Value}
    (h : Two w A B Sa Sb Q) (hs : ∀ R, TT w A Sa R → Calls Try.prog f args w fun e w' => E e w' ∧ TT w' A Sa' R ∧ Chg w w' (fun k => ¬ R k)) :
    Calls Try.prog f args w fun e w' => E e w' ∧ Two w' A B Sa' Sb Q ∧ Chg w w' (fun k => ¬ Q k) := by
  obtain ⟨O, h1, M', v', xs', k1, k2, k3⟩ := h
  refine (hs _ h1).mono ?_
  rintro e w' ⟨he, ht, hc⟩
  exact ⟨he, ⟨O, ht, M', v', xs', k1.keep hc (fun k hk hn => hn (.inr (k3 k hk).1)), k2, k3⟩, hc.mono (fun k _ hk hq => hk (.inl hq))⟩
theorem row_base {base n : Nat} {v : Value} {fs : List Value} {e : TypeId} {size : Nat} (h : w.ownsRow base e size v n fs) {k : Nat} (hk : v.ownBlock = some k) : base ≤ k ∧ k < w.heap.size := by
  rcases h.2 with ⟨rfl, _⟩ | ⟨g, cap, cur, rfl, h0, h1, _⟩
  · cases hk
  · injection hk with hk
    have hk : g = k := hk
    subst hk
    exact ⟨h0, (Array.getElem?_eq_some_iff.1 h1).1⟩
theorem Two.due {T L : List Tm} (h : Two w A B Sa Sb Q) (now : Int) (hT : dueT now Sa = T) (hL : dueL now Sa = L) :
    Calls Try.prog 11 #[.pointer (some ⟨A, 0, none⟩), .int .i64 now] w fun e w' => ∃ a c, e = .returned (.slice a T.length c) ∧ w'.ownsRow w.heap.size 3 1 (.slice a T.length c) T.length (iv (T.map (·.1))) ∧ Two w' A B L Sb (fun k => Q k ∨ (Value.slice a T.length c).ownBlock = some k) ∧ Chg w w' (fun k => ¬ Q k) := by
  obtain ⟨O, h1, M', v', xs', k1, k2, k3⟩ := h
  refine (due_is h1 now hT hL).mono ?_
  rintro e w' ⟨a, c, rfl, hr, ht, hc⟩
  refine ⟨a, c, rfl, hr, ⟨O, ht.sub (fun k hk => ?_), M', v', xs', k1.keep hc (fun k hk hn => hn (.inr (k3 k hk).1)), k2, fun k hk => ⟨(k3 k hk).1, fun hq => ?_⟩⟩, hc.mono (fun k _ hk hq => hk (.inl hq))⟩
  · rcases hk with (hk | hk) | hk
    · exact .inl (.inl hk)
    · exact .inr hk
    · exact .inl (.inr hk)
  · rcases hq with hq | hq
    · exact (k3 k hk).2 hq
    · have := k1.lt hk
      have := (row_base hr hq).1
      omega
theorem Two.quiet (h : Two w A B Sa Sb Q) (hb : Below w.heap.size w w') : Two w' A B Sa Sb Q := by
  obtain ⟨O, h1, M', v', xs', k1, k2, k3⟩ := h
  exact ⟨O, h1.same hb, M', v', xs', k1.below hb, k2, k3⟩
theorem Two.keep {P : Nat → Prop} (h : Two w A B Sa Sb Q) (hc : Chg w w' P) (hp : ∀ k, P k → Q k) : Two w' A B Sa Sb (fun k => Q k ∨ (w.heap.size ≤ k ∧ k < w'.heap.size)) := by
  obtain ⟨O, h1, M', v', xs', k1, k2, k3⟩ := h
  refine ⟨O, (h1.keep hc (fun k hk => .inl (hp k hk))).sub (fun k hk => ?_), M', v', xs', k1.keep hc (fun k hk hq => (k3 k hk).2 (hp k hq)), k2, fun k hk => ⟨(k3 k hk).1, fun hq => ?_⟩⟩
  · rcases hk with (hk | hk) | hk
    · exact .inl (.inl hk)
    · exact .inr hk
    · exact .inl (.inr hk)
  · have := k1.lt hk
    rcases hq with hq | hq
    · exact (k3 k hk).2 hq
    · omega
theorem Two.sub {Q' : Nat → Prop} (h : Two w A B Sa Sb Q) (hq : ∀ k, Q' k → Q k) : Two w A B Sa Sb Q' := by
  obtain ⟨O, h1, M', v', xs', k1, k2, k3⟩ := h
  exact ⟨O, h1.sub (fun k hk => hk.imp (hq k) id), M', v', xs', k1, k2, fun k hk => ⟨(k3 k hk).1, fun h => (k3 k hk).2 (hq k h)⟩⟩
end

/-- A second one is made beside a first. -/
theorem Two.made {w w' : World} {A B : Nat} {S : List Tm} {Q : Nat → Prop} (h : TT w A S Q) (hb : Below w.heap.size w w') (h2 : TT w' B [] (fun k => k < w.heap.size)) : Two w' A B S [] Q := by
  obtain ⟨⟨M, v, xs, k1, k2, k3⟩, k4⟩ := h2
  refine ⟨own B M v, ?_, M, v, xs, k1, k2, fun k hk => ⟨hk, fun hq => k3 k hk (h.low k hq)⟩⟩
  obtain ⟨⟨M', v', xs', h1, h2, h3⟩, h4⟩ := h
  refine ⟨⟨M', v', xs', h1.below hb, h2, fun k hk hq => ?_⟩, fun k hk => ?_⟩
  · rcases hq with hq | hq
    · exact h3 k hk hq
    · exact k3 k hq (h1.lt hk)
  · rcases hk with hk | hk
    · exact Nat.lt_of_lt_of_le (h4 k hk) hb.size
    · exact k1.lt hk

theorem iv_one (ys : List Int) : ∀ u ∈ iv ys, u.oneCell' = true := by
  intro u hu
  obtain ⟨y, _, rfl⟩ := List.mem_map.1 hu
  rfl
/-- A row appended to a row. -/
theorem run_append_row {w : World} {base b1 : Nat} {v u : Value} {xs ys : List Int} (hx : w.ownsRow base 3 1 v xs.length (iv xs)) (hy : w.ownsRow b1 3 1 u ys.length (iv ys)) (hm : xs.length + ys.length ≤ 1000000) (hb : base ≤ w.heap.size) (ty : TypeId) :
    ∃ v' w', (Builtin.append_ #[22, 22] ty #[v, u]).run Try.prog w = .ok v' w' ∧ w'.ownsRow base 3 1 v' (xs ++ ys).length (iv (xs ++ ys)) ∧ w.grownBy w' v.ownBlock ∧ (v'.ownBlock = v.ownBlock ∨ v'.ownBlock = some w.heap.size) := by
  obtain ⟨i0, hi0, hz0, hz1, hz2⟩ := info_parts info3
  have hml : xs.length + ys.length ≤ maxLen := Nat.le_trans hm (by decide)
  have happ : iv (xs ++ ys) = iv xs ++ iv ys := by simp [iv]
  rw [List.length_append, happ]
  rcases hy.2 with ⟨rfl, e⟩ | ⟨g, cap, cur, rfl, h0, h1, h2, h3, h4, h5⟩
  · have e2 : ys = [] := List.length_eq_zero_iff.1 e
    subst e2
    refine ⟨v, w, run_append_owned_none w base 22 ty 3 i0 1 Try.underlying22 hi0 v xs.length (iv xs) hx, by simpa [iv] using hx, ⟨rfl, rfl, rfl, Nat.le_refl _, fun _ _ _ => rfl⟩, .inl rfl⟩
  · obtain ⟨v', w', r1, r2, r3, _, r5⟩ := run_append_own_at (P := Try.prog) w base 22 ty 3 i0 _ 1 8 Try.underlying22 hi0 hz0 hz1 hz2 rfl (by omega) v xs.length (iv xs) hx ⟨g, 0, none⟩ ys.length cap (iv ys) (by simp [iv])
      (fun j u hj => by
        have hadd : (⟨g, 0, none⟩ : Addr).add j = ⟨g, j, none⟩ := by unfold Addr.add; split <;> simp_all
        have hlt : j < ys.length := by
          have := (List.getElem?_eq_some_iff.1 hj).1
          simpa [iv] using this
        rw [hadd, cell_of_row w g j cur 3 _ h1, ← Array.getElem?_toList, ← hj, ← h5, List.getElem?_take, if_pos (by omega)]) (iv_one ys) hml (by omega) hb
    exact ⟨v', w', r1, r2, r3, r5⟩
theorem wpList_append_row {w : World} {ops : Array Oper} {rest : List Oper} {o : Oper} {a : Act} {Q : Exit → Act → World → Prop} (hgd : o.guard = none) (s x : Operand)
    (ho : o.op = .call { callee := .builtin .append, args := #[s, x], argTypes := #[22, 22] })
    {base b1 : Nat} {v u : Value} {xs ys : List Int} (hs : a.eval s = v) (hu : a.eval x = u) (hx : w.ownsRow base 3 1 v xs.length (iv xs)) (hy : w.ownsRow b1 3 1 u ys.length (iv ys)) (hm : xs.length + ys.length ≤ 1000000) (hb : base ≤ w.heap.size)
    (h : ∀ v' w', w'.ownsRow base 3 1 v' (xs ++ ys).length (iv (xs ++ ys)) → w.grownBy w' v.ownBlock → (v'.ownBlock = v.ownBlock ∨ v'.ownBlock = some w.heap.size) → wpList Try.prog ops Q rest (a.put o.dst v') w') :
    wpList Try.prog ops Q (o :: rest) a w := by
  refine wpList_plain hgd fun K hK => ?_
  obtain ⟨v', w', hr, h2, h3, h4⟩ := run_append_row hx hy hm hb o.type
  unfold Oper.wp execOp
  simp only [ho, resolve, invoke, builtin, Sem.run_bind, Sem.run_pure, Result.andThen_ok, List.map_toArray, List.map_cons, List.map_nil, hs, hu, hr]
  exact hK _ _ (h v' w' h2 h3 h4)
end Go.Proofs.Ytphdmhjmaecddaa
