/-
Timers in memory as a sorted list: what a method may touch is said by the set of blocks that it may not.
-/
import Derived.Test.YtphdmhjmaecddaaSorted
namespace Go.Proofs.Ytphdmhjmaecddaa
open Go.RowKit

/-- At block A lie timers that hold S; they own no block of Q. -/
structure TT (w : World) (A : Nat) (S : List Tm) (Q : Nat → Prop) : Prop where
  ex : ∃ M v xs, Pile w A M v xs ∧ Stands xs S ∧ (∀ k, own A M v k → ¬ Q k)
  low : ∀ k, Q k → k < w.heap.size
section
variable {w w' : World} {A M : Nat} {v v' : Value} {S S' : List Tm} {Q Q' P : Nat → Prop}
theorem TT.of_step {xs' : List Tm} (h : Step w w' A M v v' xs') (hs : Stands xs' S') (ho : ∀ k, own A M v k → ¬ Q k) (hl : ∀ k, Q k → k < w.heap.size) : TT w' A S' Q ∧ Chg w w' (fun k => ¬ Q k) := by
  refine ⟨⟨⟨M, v', xs', h.pile, hs, fun k hk => ?_⟩, fun k hk => Nat.lt_of_lt_of_le (hl k hk) h.chg.size⟩, h.chg.mono (fun k _ hk => ho k hk)⟩
  rcases hk with rfl | rfl | hk
  · exact ho _ (.inl rfl)
  · exact ho _ (.inr (.inl rfl))
  · rcases h.new k hk with h1 | h1
    · exact ho _ (.inr (.inr h1))
    · intro q
      have := hl k q
      omega
theorem TT.keep (h : TT w A S Q) (hc : Chg w w' P) (hp : ∀ k, P k → Q k) : TT w' A S (fun k => Q k ∨ (w.heap.size ≤ k ∧ k < w'.heap.size)) := by
  obtain ⟨⟨M, v, xs, h1, h2, h3⟩, h4⟩ := h
  refine ⟨⟨M, v, xs, h1.keep hc (fun k hk hp' => h3 k hk (hp k hp')), h2, fun k hk hq => ?_⟩, fun k hk => ?_⟩
  · have := h1.lt hk
    rcases hq with hq | hq
    · exact h3 k hk hq
    · omega
  · have := hc.size
    rcases hk with hk | hk
    · have := h4 k hk; omega
    · omega
theorem TT.below (h : TT w A S Q) (hb : Below w.heap.size w w') : TT w' A S (fun k => Q k ∨ (w.heap.size ≤ k ∧ k < w'.heap.size)) := h.keep (Chg.of_below hb (fun _ => False)) (fun _ e => e.elim)
theorem TT.sub (h : TT w A S Q) (hq : ∀ k, Q' k → Q k) : TT w A S Q' := by
  obtain ⟨⟨M, v, xs, h1, h2, h3⟩, h4⟩ := h
  exact ⟨⟨M, v, xs, h1, h2, fun k hk hk' => h3 k hk (hq k hk')⟩, fun k hk => h4 k (hq k hk)⟩
theorem TT.same (h : TT w A S Q) (hb : Below w.heap.size w w') : TT w' A S Q := (h.below hb).sub (fun _ e => .inl e)
theorem TT.sorted (h : TT w A S Q) : Sorted S := by obtain ⟨⟨M, v, xs, h1, h2, h3⟩, h4⟩ := h; exact h2.sorted
theorem TT.ids (h : TT w A S Q) : Ids S := by obtain ⟨⟨M, v, xs, h1, h2, h3⟩, h4⟩ := h; exact h2.ids
theorem TT.few (h : TT w A S Q) : S.length ≤ 256 := by obtain ⟨⟨M, v, xs, h1, h2, h3⟩, h4⟩ := h; rw [← h2.perm.length_eq]; exact h1.few
theorem TT.oks (h : TT w A S Q) : ∀ x ∈ S, ok64 x.1 ∧ ok64 x.2 := by obtain ⟨⟨M, v, xs, h1, h2, h3⟩, h4⟩ := h; exact fun x hx => h1.oks x (h2.perm.mem_iff.2 hx)
end

def has (k : Int) (S : List Tm) : Bool := S.any (fun x => decide (x.1 = k))
theorem has_iff {k : Int} {S : List Tm} : has k S = true ↔ ∃ x ∈ S, x.1 = k := by simp [has]
theorem has_false {k : Int} {S : List Tm} : has k S = false ↔ ∀ x ∈ S, x.1 ≠ k := by simp [has]
theorem del_none {k : Int} {S : List Tm} (h : has k S = false) : del k S = S := by
  unfold del
  exact List.filter_eq_self.2 (fun x hx => by simpa using has_false.1 h x hx)

/-- What Set does. -/
def setS (k a : Int) (S : List Tm) : List Tm := if k < 0 ∨ a < 0 then S else if has k S = true ∨ S.length < 256 then ins (k, a) (del k S) else S
def setE (k a : Int) (S : List Tm) : Int := if k < 0 ∨ a < 0 then 1100 else if has k S = true ∨ S.length < 256 then 0 else 1102
/-- What Stop does. -/
def stopE (k : Int) (S : List Tm) : Int := if has k S = true then 0 else 1101
/-- What Due takes, and what it leaves. -/
def dueT (now : Int) (S : List Tm) : List Tm := S.takeWhile (fun x => decide (x.2 ≤ now))
def dueL (now : Int) (S : List Tm) : List Tm := S.dropWhile (fun x => decide (x.2 ≤ now))
/-- What Next tells. -/
def nextV : List Tm → Value
  | [] => .tuple #[.int .i64 0, .int .i64 0, .int .i64 1101]
  | x :: _ => .tuple #[.int .i64 x.1, .int .i64 x.2, .int .i64 0]

/-- A time is turned in its place. -/
theorem Pile.turned {w : World} {A M B c : Nat} {xs : List Tm} (h : Pile w A M (.slice (some ⟨B, 0, none⟩) xs.length c) xs) {i : Nat} (hi : i < xs.length) {b : Int} (hb : ok64 b) :
    Step w (w.setCell ⟨B, i * 2 + 1, none⟩ (.int .i64 b)) A M (.slice (some ⟨B, 0, none⟩) xs.length c) (.slice (some ⟨B, 0, none⟩) xs.length c) (xs.set i ((xs[i]).1, b)) := by
  obtain ⟨B', c', cur, e, hB, hnc, hcm, hcur, htk⟩ := h.lies (by omega)
  injection e with e1 e2 e3
  injection e1 with e1
  injection e1 with e1
  subst e1 e3
  obtain ⟨f, hm, hp⟩ := h.map
  have hneM : M ≠ B := fun e => h.mneB (by rw [e]; rfl)
  have hneA : A ≠ B := fun e => h.aneB (by rw [e]; rfl)
  have hc : Chg w (w.setCell ⟨B, i * 2 + 1, none⟩ (.int .i64 b)) (fun j => j = B) := Chg.setCell w ⟨B, i * 2 + 1, none⟩ _ _ rfl
  have hl : (xs.set i ((xs[i]).1, b)).length = xs.length := by simp
  refine ⟨⟨?_, ⟨?_, .inr ⟨B, c, _, ?_, Nat.zero_le _, heap_setCell_same _ _ _ _ _ _ hB, ?_, hcm, ?_, ?_⟩⟩, ⟨f, ?_, hp.turn hi b⟩, fun x hx => ?_, ?_⟩, hc.mono (fun _ _ e => .inr (.inr (by rw [e]; rfl))), fun _ hk => .inl hk⟩
  · rw [hc.block A (h.lt (.inl rfl)) hneA]
    exact h.head
  · rw [flat_length]
  · rw [hl]
  · rw [hl]; exact hnc
  · simp only [Array.size_setIfInBounds]; exact hcur
  · rw [hl, flat_set, ← htk]
    have h1 : (cur.toList.take (xs.length * 2)).set (i * 2) (.int .i64 (xs[i]).1) = cur.toList.take (xs.length * 2) := by
      rw [htk]
      have h2 := (flat_at xs i hi).1
      refine List.ext_getElem? fun j => ?_
      rw [List.getElem?_set]
      by_cases e : i * 2 = j
      · subst e
        have hlt : i * 2 < (flat xs).length := by rw [flat_length]; omega
        rw [if_pos rfl, if_pos hlt, h2]
      · rw [if_neg e]
    simp only [Array.toList_setIfInBounds, List.take_set]
    rw [h1]
  · rw [hl]
    exact hm.block (hc.block M hm.lt hneM)
  · rcases List.mem_or_eq_of_mem_set hx with hx | rfl
    · exact h.oks x hx
    · exact ⟨(h.oks _ (List.getElem_mem hi)).1, hb⟩
  · rw [hl]; exact h.few
end Go.Proofs.Ytphdmhjmaecddaa
