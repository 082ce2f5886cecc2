/-
What Remove leaves, in plain words.
-/
import Derived.Test.YtphdmhjmaecddaaSorted
import Derived.Test.YtphdmhjmaecddaaHeapr
namespace Go.Proofs.Ytphdmhjmaecddaa

theorem remd_eq (xs : List Tm) (i n : Nat) : remd xs i n = if i = n then xs else fixd (swp xs i n) i n := rfl
theorem stands_rem {xs S ys : List Tm} {x : Tm} {i n : Nat} (h : Stands xs S) (hn : xs.length = n + 1) (hi : i ≤ n) (hz : remd xs i n = ys ++ [x]) : x = at' xs i ∧ Stands ys (del x.1 S) := by
  have hl := remd_length xs i n
  have hyl : ys.length = n := by
    rw [hz, hn] at hl
    simpa using hl
  have hlast := at_last ys x
  rw [hyl, ← hz] at hlast
  rw [remd_eq] at hz hlast
  by_cases e : i = n
  · rw [if_pos e] at hz hlast
    subst e
    refine ⟨hlast.symm, stands_fall h hz (List.Perm.refl _) ?_ hyl⟩
    intro j hj h0 _
    exact h.heap j (by omega) h0 (fun h => h)
  · rw [if_neg e] at hz hlast
    have hs := at_swp (xs := xs) (i := i) (k := n) (by omega) (by omega)
    have hsl : (swp xs i n).length = n + 1 := by rw [swp_length, hn]
    refine ⟨?_, stands_fall h hz ((fixd_perm (by omega) (by omega)).trans (swp_perm (by omega) (by omega))) (fixd_heap (by omega) (by omega) ?_ ?_) hyl⟩
    · rw [← hlast, fixd_behind (by omega) (by omega) (Nat.le_refl _), hs, if_pos rfl]
    · intro j hj h0 hne
      rw [hs, hs, if_neg (by omega), if_neg (fun e => hne (.inr e)), if_neg (by omega), if_neg (fun e => hne (.inl e))]
      exact h.heap j (by omega) h0 (fun h => h)
    · intro h0 j hj hj0 hp
      rw [hs, hs, if_neg (by omega), if_neg (by omega), if_neg (by omega), if_neg (by omega)]
      exact h.heap.gp i h0 j (by omega) hj0 hp
end Go.Proofs.Ytphdmhjmaecddaa
