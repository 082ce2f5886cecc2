/-
For the statement TimerAll: what its first loop keeps, in plain words.
-/
import Derived.Test.YtphdmhjmaecddaaArgs
import Derived.Test.YtphdmhjmaecddaaFull
namespace Go.Proofs.Ytphdmhjmaecddaa
open Go.RowKit

def arr (xs : List Int) : Array Value := (xs.map (Value.int .i64)).toArray
def arb (xs : List Bool) : Array Value := (xs.map Value.bool).toArray
theorem arr_size (xs : List Int) : (arr xs).size = xs.length := by simp [arr]
theorem arb_size (xs : List Bool) : (arb xs).size = xs.length := by simp [arb]
theorem arr_at (xs : List Int) (j : Nat) (h : j < xs.length) : (arr xs)[j]? = some (.int .i64 (xs.getD j 0)) := by
  simp [arr, h, List.getD_eq_getElem?_getD]
theorem arb_at (xs : List Bool) (j : Nat) (h : j < xs.length) : (arb xs)[j]? = some (.bool (xs.getD j false)) := by
  simp [arb, h, List.getD_eq_getElem?_getD]
theorem arr_set (xs : List Int) (j : Nat) (x : Int) : (arr xs).setIfInBounds j (.int .i64 x) = arr (xs.set j x) := by
  simp [arr, List.map_set]
theorem arb_set (xs : List Bool) (j : Nat) (x : Bool) : (arb xs).setIfInBounds j (.bool x) = arb (xs.set j x) := by
  simp [arb, List.map_set]

/-- What the rows 'last' and 'has' say of the timers. -/
structure Tells (S : List Tm) (la : List Int) (ha : List Bool) : Prop where
  l1 : la.length = 64
  l2 : ha.length = 64
  mem : ∀ x ∈ S, 0 ≤ x.1 ∧ x.1 < 64 ∧ x.2 ≤ 1023 ∧ la.getD x.1.toNat 0 = x.2
  hs : ∀ j : Nat, j < 64 → ha.getD j false = has (j : Int) S
  cnt : ha.count true = S.length
theorem Tells.few {S : List Tm} {la : List Int} {ha : List Bool} (h : Tells S la ha) : S.length ≤ 64 := by
  rw [← h.cnt, ← h.l2]
  exact List.count_le_length
theorem getD_rep (n j : Nat) : (List.replicate n false).getD j false = false := by
  rw [List.getD_eq_getElem?_getD, List.getElem?_replicate]
  split <;> rfl
theorem Tells.start : Tells [] (List.replicate 64 0) (List.replicate 64 false) := by
  refine ⟨by simp, by simp, fun x hx => (List.not_mem_nil hx).elim, fun j hj => ?_, by decide⟩
  rw [getD_rep]
  rfl
theorem Tells.setE {S : List Tm} {la : List Int} {ha : List Bool} (h : Tells S la ha) (k : Nat) (v : Int) (v0 : 0 ≤ v) : setE (k : Int) v S = 0 := by
  unfold Ytphdmhjmaecddaa.setE
  have := h.few
  rw [if_neg (by omega), if_pos (.inr (by omega))]
theorem Tells.setS {S : List Tm} {la : List Int} {ha : List Bool} (h : Tells S la ha) (k : Nat) (v : Int) (v0 : 0 ≤ v) : setS (k : Int) v S = ins ((k : Int), v) (del (k : Int) S) := by
  unfold Ytphdmhjmaecddaa.setS
  have := h.few
  rw [if_neg (by omega), if_pos (.inr (by omega))]
theorem getD_set {α : Type} (xs : List α) (k j : Nat) (x d : α) (hk : k < xs.length) : (xs.set k x).getD j d = if j = k then x else xs.getD j d := by
  simp only [List.getD_eq_getElem?_getD, List.getElem?_set]
  by_cases e : k = j
  · subst e
    simp [hk]
  · rw [if_neg e, if_neg (fun h => e h.symm)]
theorem Tells.next {S : List Tm} {la : List Int} {ha : List Bool} (h : Tells S la ha) (hi : Ids S) (k : Nat) (v : Int) (hk : k < 64) (hv : v ≤ 1023) : Tells (ins ((k : Int), v) (del (k : Int) S)) (la.set k v) (ha.set k true) := by
  have hl1 := h.l1
  have hl2 := h.l2
  refine ⟨by simp [hl1], by simp [hl2], fun x hx => ?_, fun j hj => ?_, ?_⟩
  · rcases mem_ins.1 hx with rfl | hx
    · refine ⟨by simp, by simp; omega, hv, ?_⟩
      rw [getD_set _ _ _ _ _ (by omega)]
      simp
    · obtain ⟨hm, hne⟩ := mem_del.1 hx
      obtain ⟨m1, m2, m3, m4⟩ := h.mem x hm
      refine ⟨m1, m2, m3, ?_⟩
      rw [getD_set _ _ _ _ _ (by omega), if_neg (by omega)]
      exact m4
  · rw [getD_set _ _ _ _ _ (by omega)]
    by_cases e : j = k
    · subst e
      rw [if_pos rfl]
      symm
      exact has_iff.2 ⟨_, mem_ins.2 (.inl rfl), rfl⟩
    · rw [if_neg e, h.hs j hj, Bool.eq_iff_iff, has_iff, has_iff]
      constructor
      · rintro ⟨x, hx, hxj⟩
        exact ⟨x, mem_ins.2 (.inr (mem_del.2 ⟨hx, by omega⟩)), hxj⟩
      · rintro ⟨x, hx, hxj⟩
        rcases mem_ins.1 hx with rfl | hx
        · simp at hxj; omega
        · exact ⟨x, (mem_del.1 hx).1, hxj⟩
  · rw [ins_length]
    have hh := h.hs k hk
    have hget : ha[k]'(by omega) = has (k : Int) S := by
      rw [← hh, List.getD_eq_getElem?_getD, List.getElem?_eq_getElem (by omega)]
      rfl
    rw [List.count_set (by omega), hget, h.cnt]
    cases hc : has (k : Int) S with
    | true =>
      have := del_length hi hc
      simp
      omega
    | false =>
      rw [del_none hc]
      simp

/-- All that is there falls due. -/
theorem Tells.all {S : List Tm} {la : List Int} {ha : List Bool} (h : Tells S la ha) : dueT 1023 S = S ∧ dueL 1023 S = [] :=
  due_split (by simp) (fun x hx => (h.mem x hx).2.2.1) (fun _ _ e => by cases e)
end Go.Proofs.Ytphdmhjmaecddaa
