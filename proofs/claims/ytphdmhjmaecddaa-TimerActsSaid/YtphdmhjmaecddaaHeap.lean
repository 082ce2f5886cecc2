/-
A heap in a list, in plain words: what container/heap's up and down do to it. No program in sight.
-/
import Derived.Test.YtphdmhjmaecddaaObj
namespace Go.Proofs.Ytphdmhjmaecddaa

/-- x falls due before y. -/
def lt (x y : Tm) : Bool := x.2 < y.2 || (x.2 == y.2 && x.1 < y.1)
theorem lt_iff (x y : Tm) : lt x y = true ↔ x.2 < y.2 ∨ (x.2 = y.2 ∧ x.1 < y.1) := by simp [lt]
theorem lt_not (x y : Tm) : lt x y = false ↔ y.2 < x.2 ∨ (x.2 = y.2 ∧ y.1 ≤ x.1) := by
  rw [← Bool.not_eq_true, lt_iff]
  omega
def le (x y : Tm) : Prop := lt y x = false
theorem le_iff (x y : Tm) : le x y ↔ x.2 < y.2 ∨ (x.2 = y.2 ∧ x.1 ≤ y.1) := by
  unfold le
  rw [lt_not]
  omega
theorem le_refl (x : Tm) : le x x := by rw [le_iff]; omega
theorem le_trans {x y z : Tm} (h : le x y) (k : le y z) : le x z := by rw [le_iff] at *; omega
theorem le_of_lt {x y : Tm} (h : lt x y = true) : le x y := by rw [lt_iff] at h; rw [le_iff]; omega
theorem lt_of_lt_of_le {x y z : Tm} (h : lt x y = true) (k : le y z) : lt x z = true := by rw [lt_iff] at *; rw [le_iff] at k; omega
theorem lt_trans {x y z : Tm} (h : lt x y = true) (k : lt y z = true) : lt x z = true := lt_of_lt_of_le h (le_of_lt k)
theorem lt_irrefl (x : Tm) : lt x x = false := le_refl x

def at' (xs : List Tm) (j : Nat) : Tm := xs.getD j (0, 0)
theorem at_eq {xs : List Tm} {j : Nat} (h : j < xs.length) : at' xs j = xs[j] := by unfold at'; rw [List.getD_eq_getElem?_getD, List.getElem?_eq_getElem h]; rfl
theorem at_swp {xs : List Tm} {i k : Nat} (hi : i < xs.length) (hk : k < xs.length) (j : Nat) : at' (swp xs i k) j = if j = k then at' xs i else if j = i then at' xs k else at' xs j := by
  by_cases hj : j < xs.length
  · rw [at_eq (by rw [swp_length]; exact hj), swp_at hi hk j (by rw [swp_length]; exact hj), at_eq hi, at_eq hk, at_eq hj]
  · have : at' (swp xs i k) j = (0, 0) := by unfold at'; rw [List.getD_eq_getElem?_getD, List.getElem?_eq_none (by rw [swp_length]; omega)]; rfl
    rw [this, if_neg (by omega), if_neg (by omega)]
    unfold at'
    rw [List.getD_eq_getElem?_getD, List.getElem?_eq_none (by omega)]
    rfl

/-- Up to n, every place but those in S is not before the one above it. -/
def Ok (n : Nat) (xs : List Tm) (S : Nat → Prop) : Prop := ∀ j, j < n → 0 < j → ¬ S j → le (at' xs ((j - 1) / 2)) (at' xs j)
def Heap (n : Nat) (xs : List Tm) : Prop := Ok n xs (fun _ => False)
/-- The children of i are not before the one above i. -/
def Gp (n : Nat) (xs : List Tm) (i : Nat) : Prop := 0 < i → ∀ j, j < n → 0 < j → (j - 1) / 2 = i → le (at' xs ((i - 1) / 2)) (at' xs j)

def up : Nat → List Tm → Nat → List Tm
  | 0, xs, _ => xs
  | k + 1, xs, j => if (j - 1) / 2 = j ∨ lt (at' xs j) (at' xs ((j - 1) / 2)) = false then xs else up k (swp xs ((j - 1) / 2) j) ((j - 1) / 2)

/-- The lesser child of i, of those before n. -/
def kid (xs : List Tm) (i n : Nat) : Nat := if 2 * i + 2 < n ∧ lt (at' xs (2 * i + 2)) (at' xs (2 * i + 1)) = true then 2 * i + 2 else 2 * i + 1
def down : Nat → List Tm → Nat → Nat → List Tm × Nat
  | 0, xs, i, _ => (xs, i)
  | k + 1, xs, i, n => if 2 * i + 1 < n then (if lt (at' xs (kid xs i n)) (at' xs i) = true then down k (swp xs i (kid xs i n)) (kid xs i n) n else (xs, i)) else (xs, i)

theorem kid_le {xs : List Tm} {i n : Nat} (h : 2 * i + 1 < n) : kid xs i n < n ∧ i < kid xs i n ∧ (kid xs i n - 1) / 2 = i := by
  unfold kid
  split
  · rename_i h; omega
  · omega
theorem kid_min {xs : List Tm} {i n j : Nat} (hj : j < n) (h0 : 0 < j) (hp : (j - 1) / 2 = i) : le (at' xs (kid xs i n)) (at' xs j) := by
  have hc : j = 2 * i + 1 ∨ j = 2 * i + 2 := by omega
  unfold kid
  split
  · rename_i h
    rcases hc with rfl | rfl
    · exact le_of_lt h.2
    · exact le_refl _
  · rename_i h
    rcases hc with rfl | rfl
    · exact le_refl _
    · have : ¬ lt (at' xs (2 * i + 2)) (at' xs (2 * i + 1)) = true := fun e => h ⟨hj, e⟩
      unfold le
      simpa using this

theorem up_length : ∀ (k : Nat) (xs : List Tm) (j : Nat), (up k xs j).length = xs.length
  | 0, _, _ => rfl
  | k + 1, xs, j => by
    rw [up]
    split
    · rfl
    · rw [up_length k, swp_length]
theorem down_length : ∀ (k : Nat) (xs : List Tm) (i n : Nat), (down k xs i n).1.length = xs.length
  | 0, _, _, _ => rfl
  | k + 1, xs, i, n => by
    rw [down]
    split
    · split
      · rw [down_length k, swp_length]
      · rfl
    · rfl
theorem up_perm : ∀ (k : Nat) (xs : List Tm) (j : Nat), j < xs.length → (up k xs j).Perm xs
  | 0, _, _, _ => List.Perm.refl _
  | k + 1, xs, j, h => by
    rw [up]
    split
    · exact List.Perm.refl _
    · exact (up_perm k _ _ (by rw [swp_length]; omega)).trans (swp_perm (by omega) h)
theorem down_perm : ∀ (k : Nat) (xs : List Tm) (i n : Nat), i < xs.length → n ≤ xs.length → (down k xs i n).1.Perm xs
  | 0, _, _, _, _, _ => List.Perm.refl _
  | k + 1, xs, i, n, hi, hn => by
    rw [down]
    split
    · rename_i h
      split
      · have := kid_le (xs := xs) h
        exact (down_perm k _ _ n (by rw [swp_length]; omega) (by rw [swp_length]; exact hn)).trans (swp_perm hi (by omega))
      · exact List.Perm.refl _
    · exact List.Perm.refl _
/-- Behind n nothing is touched. -/
theorem down_behind : ∀ (k : Nat) (xs : List Tm) (i n j : Nat), i < n → n ≤ xs.length → n ≤ j → at' (down k xs i n).1 j = at' xs j
  | 0, _, _, _, _, _, _, _ => rfl
  | k + 1, xs, i, n, j, hi, hn, hj => by
    rw [down]
    split
    · rename_i h
      split
      · have := kid_le (xs := xs) h
        rw [down_behind k _ _ n j this.1 (by rw [swp_length]; exact hn) hj, at_swp (by omega) (by omega), if_neg (by omega), if_neg (by omega)]
      · rfl
    · rfl

theorem up_heap : ∀ (k : Nat) (xs : List Tm) (n j : Nat), j < n → n ≤ xs.length → j < k → Ok n xs (fun q => q = j) → Gp n xs j → Heap n (up k xs j)
  | 0, _, _, _, _, _, hk, _, _ => absurd hk (Nat.not_lt_zero _)
  | k + 1, xs, n, j, hj, hn, hk, ho, hg => by
    rw [up]
    split
    · rename_i h
      intro q hq h0 _
      by_cases e : q = j
      · subst e
        rcases h with h | h
        · omega
        · exact h
      · exact ho q hq h0 e
    · rename_i h
      have h1 : ¬ (j - 1) / 2 = j := fun e => h (.inl e)
      have h2 : lt (at' xs j) (at' xs ((j - 1) / 2)) = true := by
        cases hl : lt (at' xs j) (at' xs ((j - 1) / 2))
        · exact absurd (.inr hl) h
        · rfl
      have hj0 : 0 < j := by omega
      have hi : (j - 1) / 2 < xs.length := by omega
      have hjl : j < xs.length := by omega
      have hs := at_swp hi hjl
      refine up_heap k _ n _ (by omega) (by rw [swp_length]; exact hn) (by omega) ?_ ?_
      · intro q hq h0 hne
        simp only at hne
        rw [hs, hs]
        by_cases e : q = j
        · subst e
          rw [if_pos rfl, if_neg (by omega), if_pos rfl]
          exact le_of_lt h2
        · rw [if_neg e, if_neg hne]
          by_cases e2 : (q - 1) / 2 = j
          · rw [if_pos e2]
            exact hg hj0 q hq h0 e2
          · rw [if_neg e2]
            by_cases e3 : (q - 1) / 2 = (j - 1) / 2
            · rw [if_pos e3]
              have := ho q hq h0 e
              rw [e3] at this
              exact le_trans (le_of_lt h2) this
            · rw [if_neg e3]
              exact ho q hq h0 e
      · intro hi0 q hq h0 hp
        rw [hs, hs]
        rw [if_neg (by omega), if_neg (by omega)]
        have hpp := ho ((j - 1) / 2) (by omega) hi0 (by omega)
        by_cases e : q = j
        · subst e
          rw [if_pos rfl]
          exact hpp
        · rw [if_neg e, if_neg (by omega)]
          have := ho q hq h0 e
          rw [hp] at this
          exact le_trans hpp this

/-- One step down at i: the lesser child goes up. -/
theorem step_down {xs : List Tm} {n i : Nat} (hn : n ≤ xs.length) (h : 2 * i + 1 < n) (hlt : lt (at' xs (kid xs i n)) (at' xs i) = true) (ho : Ok n xs (fun q => q = i ∨ (q - 1) / 2 = i)) (hg : Gp n xs i) :
    Ok n (swp xs i (kid xs i n)) (fun q => (q - 1) / 2 = kid xs i n) ∧ Gp n (swp xs i (kid xs i n)) (kid xs i n) := by
  have hk := kid_le (xs := xs) h
  have hs := at_swp (xs := xs) (i := i) (k := kid xs i n) (by omega) (by omega)
  have hm := fun j hj h0 hp => kid_min (xs := xs) (i := i) (n := n) (j := j) hj h0 hp
  generalize kid xs i n = c at *
  refine ⟨fun q hq h0 hne => ?_, fun _ q hq h0 hp => ?_⟩
  · rw [hs, hs]
    by_cases e : q = c
    · subst e
      rw [if_pos rfl, if_neg (by omega), if_pos (by omega)]
      exact le_of_lt hlt
    · rw [if_neg e, if_neg hne]
      by_cases e2 : q = i
      · subst e2
        rw [if_pos rfl, if_neg (by omega)]
        exact hg h0 c hk.1 (by omega) hk.2.2
      · rw [if_neg e2]
        by_cases e3 : (q - 1) / 2 = i
        · rw [if_pos e3]
          exact hm q hq h0 e3
        · rw [if_neg e3]
          exact ho q hq h0 (fun h => h.elim e2 e3)
  · rw [hs, hs, if_neg (by omega), if_pos (by omega), if_neg (by omega), if_neg (by omega)]
    have := ho q hq h0 (fun h => by rcases h with h | h <;> omega)
    rwa [hp] at this

theorem down_heap : ∀ (k : Nat) (xs : List Tm) (n i : Nat), i < n → n ≤ xs.length → n - i ≤ k → Ok n xs (fun q => (q - 1) / 2 = i) → Gp n xs i → Heap n (down k xs i n).1
  | 0, _, _, _, hi, _, hk, _, _ => by omega
  | k + 1, xs, n, i, hi, hn, hk, ho, hg => by
    rw [down]
    split
    · rename_i h
      have hkid := kid_le (xs := xs) h
      split
      · rename_i hlt
        obtain ⟨h1, h2⟩ := step_down hn h hlt (fun q hq h0 hne => ho q hq h0 (fun e => hne (.inr e))) hg
        exact down_heap k _ n _ hkid.1 (by rw [swp_length]; exact hn) (by omega) h1 h2
      · rename_i hlt
        intro q hq h0 _
        by_cases e : (q - 1) / 2 = i
        · have hm := kid_min (xs := xs) hq h0 e
          rw [e]
          refine le_trans ?_ hm
          unfold le
          simpa using hlt
        · exact ho q hq h0 e
    · rename_i h
      intro q hq h0 _
      exact ho q hq h0 (by omega)

/-- Where the value at i is turned: down, or else up, mends the heap. -/
theorem down_turned (k : Nat) (xs : List Tm) (n i : Nat) (hi : i < n) (hn : n ≤ xs.length) (hk : n - i ≤ k) (ho : Ok n xs (fun q => q = i ∨ (q - 1) / 2 = i)) (hg : Gp n xs i) :
    ((down k xs i n).2 = i ∧ (down k xs i n).1 = xs ∧ Ok n xs (fun q => q = i)) ∨ (i < (down k xs i n).2 ∧ Heap n (down k xs i n).1) := by
  obtain ⟨k, rfl⟩ : ∃ q, k = q + 1 := ⟨k - 1, by omega⟩
  rw [down]
  split
  · rename_i h
    have hkid := kid_le (xs := xs) h
    split
    · rename_i hlt
      obtain ⟨h1, h2⟩ := step_down hn h hlt ho hg
      refine .inr ⟨?_, down_heap k _ n _ hkid.1 (by rw [swp_length]; exact hn) (by omega) h1 h2⟩
      have mono : ∀ (k : Nat) (xs : List Tm) (i n : Nat), i ≤ (down k xs i n).2 := by
        intro k
        induction k with
        | zero => intro xs i n; exact Nat.le_refl _
        | succ k ih =>
          intro xs i n
          rw [down]
          split
          · rename_i h
            have := kid_le (xs := xs) h
            split
            · exact Nat.le_trans (Nat.le_of_lt this.2.1) (ih _ _ _)
            · exact Nat.le_refl _
          · exact Nat.le_refl _
      exact Nat.lt_of_lt_of_le hkid.2.1 (mono _ _ _ _)
    · rename_i hlt
      refine .inl ⟨rfl, rfl, fun q hq h0 hne => ?_⟩
      by_cases e : (q - 1) / 2 = i
      · have hm := kid_min (xs := xs) hq h0 e
        rw [e]
        refine le_trans ?_ hm
        unfold le
        simpa using hlt
      · exact ho q hq h0 (fun h => h.elim hne e)
  · rename_i h
    exact .inl ⟨rfl, rfl, fun q hq h0 hne => ho q hq h0 (fun h' => h'.elim hne (by omega))⟩

/-- The first is the least. -/
theorem heap_first {n : Nat} {xs : List Tm} (h : Heap n xs) : ∀ j, j < n → le (at' xs 0) (at' xs j) := by
  intro j
  induction j using Nat.strongRecOn with
  | _ j ih =>
    intro hj
    by_cases h0 : j = 0
    · subst h0; exact le_refl _
    · exact le_trans (ih ((j - 1) / 2) (by omega) (by omega)) (h j hj (by omega) (fun h => h))
end Go.Proofs.Ytphdmhjmaecddaa
