/-
Timers as a sorted list, in plain words: what a heap's steps do to the list that it stands for. No program in sight.
-/
import Derived.Test.YtphdmhjmaecddaaHeap
namespace Go.Proofs.Ytphdmhjmaecddaa

def Sorted (S : List Tm) : Prop := S.Pairwise (fun x y => lt x y = true)
def Ids (S : List Tm) : Prop := S.Pairwise (fun x y => x.1 ≠ y.1)
def ins (x : Tm) : List Tm → List Tm
  | [] => [x]
  | y :: r => if lt x y = true then x :: y :: r else y :: ins x r
def del (k : Int) (S : List Tm) : List Tm := S.filter (fun x => decide (x.1 ≠ k))
theorem mem_ins {x y : Tm} : ∀ {S : List Tm}, y ∈ ins x S ↔ y = x ∨ y ∈ S
  | [] => by simp [ins]
  | z :: r => by
    unfold ins
    split
    · simp
    · simp only [List.mem_cons, mem_ins (S := r)]
      constructor
      · rintro (h | h | h)
        · exact .inr (.inl h)
        · exact .inl h
        · exact .inr (.inr h)
      · rintro (h | h | h)
        · exact .inr (.inl h)
        · exact .inl h
        · exact .inr (.inr h)
theorem mem_del {k : Int} {S : List Tm} {y : Tm} : y ∈ del k S ↔ y ∈ S ∧ y.1 ≠ k := by simp [del]
theorem ins_perm (x : Tm) : ∀ S : List Tm, (ins x S).Perm (x :: S)
  | [] => List.Perm.refl _
  | z :: r => by
    unfold ins
    split
    · exact List.Perm.refl _
    · exact ((ins_perm x r).cons z).trans (List.Perm.swap x z r)
theorem ins_sorted {x : Tm} : ∀ {S : List Tm}, Sorted S → (∀ y ∈ S, y.1 ≠ x.1) → Sorted (ins x S)
  | [], _, _ => by simp [ins, Sorted]
  | z :: r, h, hx => by
    obtain ⟨h1, h2⟩ := List.pairwise_cons.1 h
    unfold ins
    split
    · rename_i hl
      exact List.pairwise_cons.2 ⟨fun y hy => by
        rcases List.mem_cons.1 hy with rfl | hy
        · exact hl
        · exact lt_trans hl (h1 y hy), h⟩
    · rename_i hl
      refine List.pairwise_cons.2 ⟨fun y hy => ?_, ins_sorted h2 (fun y hy => hx y (by simp [hy]))⟩
      rcases mem_ins.1 hy with rfl | hy
      · have hl' : lt y z = false := by simpa using hl
        have hne := hx z (by simp)
        rw [lt_not] at hl'
        rw [lt_iff]
        omega
      · exact h1 y hy
theorem del_sorted {k : Int} {S : List Tm} (h : Sorted S) : Sorted (del k S) := List.Pairwise.filter _ h
theorem Sorted.unique : ∀ {S T : List Tm}, Sorted S → Sorted T → S.Perm T → S = T := by
  intro S T hS hT hp
  exact List.Perm.eq_of_pairwise (fun a b _ _ h1 h2 => by
    have := lt_trans h1 h2
    rw [lt_irrefl] at this
    exact absurd this (by simp)) hS hT hp

theorem Ids.perm {S T : List Tm} (h : Ids S) (hp : S.Perm T) : Ids T := (hp.pairwise_iff (fun {_ _} h => Ne.symm h)).1 h
theorem Ids.nodup {S : List Tm} (h : Ids S) : S.Nodup := List.Pairwise.imp (fun h e => h (by rw [e])) h
theorem Ids.eq {S : List Tm} (h : Ids S) {x y : Tm} (hx : x ∈ S) (hy : y ∈ S) (e : x.1 = y.1) : x = y := by
  induction S with
  | nil => cases hx
  | cons z r ih =>
    obtain ⟨h1, h2⟩ := List.pairwise_cons.1 h
    rcases List.mem_cons.1 hx with e1 | hx'
    · rcases List.mem_cons.1 hy with e2 | hy'
      · rw [e1, e2]
      · exact absurd (e1 ▸ e) (h1 y hy')
    · rcases List.mem_cons.1 hy with e2 | hy'
      · exact absurd (e2 ▸ e).symm (h1 x hx')
      · exact ih h2 hx' hy'
theorem Pl.ids {xs : List Tm} {f : Int → Option Int} (h : Pl xs f) : Ids xs := by
  rw [Ids, List.pairwise_iff_getElem]
  intro i j hi hj hij e
  have := h.inj hi hj e
  omega
theorem ids_ins {x : Tm} {S : List Tm} (h : Ids S) (hx : ∀ y ∈ S, y.1 ≠ x.1) : Ids (ins x S) :=
  Ids.perm (List.pairwise_cons.2 ⟨fun y hy => (hx y hy).symm, h⟩) (ins_perm x S).symm
theorem ids_del {k : Int} {S : List Tm} (h : Ids S) : Ids (del k S) := List.Pairwise.filter _ h

/-- The heap xs stands for the sorted list S. -/
structure Stands (xs S : List Tm) : Prop where
  heap : Heap xs.length xs
  perm : xs.Perm S
  sorted : Sorted S
  ids : Ids S

theorem Stands.nil : Stands [] [] := ⟨fun _ h => absurd h (Nat.not_lt_zero _), List.Perm.refl _, List.Pairwise.nil, List.Pairwise.nil⟩

theorem Heap.ok {n : Nat} {xs : List Tm} (h : Heap n xs) (S : Nat → Prop) : Ok n xs S := fun j hj h0 _ => h j hj h0 (fun h => h)
theorem Heap.gp {n : Nat} {xs : List Tm} (h : Heap n xs) (i : Nat) : Gp n xs i := by
  intro hi j hj h0 hp
  have h1 := h j hj h0 (fun h => h)
  rw [hp] at h1
  exact le_trans (h i (by omega) hi (fun h => h)) h1

/-- A new one comes in. -/
theorem stands_push {xs S : List Tm} {x : Tm} (h : Stands xs S) (hx : ∀ y ∈ xs, y.1 ≠ x.1) : Stands (up (xs.length + 1) (xs ++ [x]) xs.length) (ins x S) := by
  have hl : (xs ++ [x]).length = xs.length + 1 := by simp
  have hat : ∀ j, j < xs.length → at' (xs ++ [x]) j = at' xs j := fun j hj => by rw [at_eq (by omega), at_eq hj, List.getElem_append_left hj]
  have hS : ∀ y ∈ S, y.1 ≠ x.1 := fun y hy => hx y (h.perm.mem_iff.2 hy)
  refine ⟨?_, ?_, ins_sorted h.sorted hS, ids_ins h.ids hS⟩
  · rw [up_length, hl]
    refine up_heap (xs.length + 1) _ (xs.length + 1) xs.length (by omega) (by omega) (by omega) ?_ ?_
    · intro j hj h0 hne
      rw [hat j (by omega), hat _ (by omega)]
      exact h.heap j (by omega) h0 (fun h => h)
    · intro _ j hj h0 hp
      omega
  · refine (up_perm _ _ _ (by omega)).trans (List.Perm.trans ?_ (ins_perm x S).symm)
    exact (List.perm_append_singleton x xs).trans (h.perm.cons x)

theorem ids_iff (S : List Tm) : Ids S ↔ (S.map (·.1)).Nodup := by rw [Ids, List.Nodup, List.pairwise_map]
theorem map_set {xs : List Tm} {i : Nat} (hi : i < xs.length) (b : Int) : (xs.set i ((xs[i]).1, b)).map (·.1) = xs.map (·.1) := by
  rw [List.map_set]
  refine List.ext_getElem (by simp) fun j h1 h2 => ?_
  rw [List.getElem_set]
  split
  · rename_i e
    subst e
    simp
  · rfl
theorem ids_set {xs : List Tm} {i : Nat} (h : Ids xs) (hi : i < xs.length) (b : Int) : Ids (xs.set i ((xs[i]).1, b)) := by
  rw [ids_iff, map_set hi]
  exact (ids_iff xs).1 h
theorem set_perm {xs : List Tm} {i : Nat} (h : Ids xs) (hi : i < xs.length) (b : Int) : (xs.set i ((xs[i]).1, b)).Perm (((xs[i]).1, b) :: del (xs[i]).1 xs) := by
  have h1 := ids_set h hi b
  have hx : ((xs[i]).1, b) ∈ xs.set i ((xs[i]).1, b) := List.mem_set hi _
  refine (List.perm_ext_iff_of_nodup h1.nodup (List.nodup_cons.2 ⟨fun hm => (mem_del.1 hm).2 rfl, (ids_del h).nodup⟩)).2 fun y => ?_
  rw [List.mem_cons, mem_del]
  constructor
  · intro hy
    by_cases e : y.1 = (xs[i]).1
    · exact .inl (h1.eq hy hx e)
    · rcases List.mem_or_eq_of_mem_set hy with hm | rfl
      · exact .inr ⟨hm, e⟩
      · exact .inl rfl
  · rintro (rfl | ⟨hm, e⟩)
    · exact hx
    · obtain ⟨j, hj, rfl⟩ := List.getElem_of_mem hm
      have hji : i ≠ j := fun e2 => e (by subst e2; rfl)
      have : (xs.set i ((xs[i]).1, b))[j]'(by simpa using hj) = xs[j] := List.getElem_set_ne hji _
      rw [← this]
      exact List.getElem_mem _
theorem at_set {xs : List Tm} {i : Nat} (hi : i < xs.length) (x : Tm) (j : Nat) : at' (xs.set i x) j = if j = i then x else at' xs j := by
  unfold at'
  simp only [List.getD_eq_getElem?_getD, List.getElem?_set]
  by_cases e : i = j
  · subst e
    simp [hi]
  · rw [if_neg e, if_neg (fun h => e h.symm)]

/-- What Fix leaves. -/
def fixd (xs : List Tm) (i n : Nat) : List Tm := if i < (down (n - i) xs i n).2 then (down (n - i) xs i n).1 else up (i + 1) (down (n - i) xs i n).1 i
theorem fixd_heap {xs : List Tm} {i n : Nat} (hi : i < n) (hn : n ≤ xs.length) (ho : Ok n xs (fun q => q = i ∨ (q - 1) / 2 = i)) (hg : Gp n xs i) : Heap n (fixd xs i n) := by
  unfold fixd
  rcases down_turned (n - i) xs n i hi hn (Nat.le_refl _) ho hg with ⟨h1, h2, h3⟩ | ⟨h1, h2⟩
  · rw [h1, if_neg (Nat.lt_irrefl _), h2]
    exact up_heap (i + 1) xs n i hi hn (Nat.lt_succ_self _) h3 hg
  · rw [if_pos h1]
    exact h2
theorem fixd_perm {xs : List Tm} {i n : Nat} (hi : i < n) (hn : n ≤ xs.length) : (fixd xs i n).Perm xs := by
  have h1 := down_perm (n - i) xs i n (by omega) hn
  unfold fixd
  split
  · exact h1
  · exact (up_perm _ _ _ (by rw [down_length]; omega)).trans h1
theorem fixd_length (xs : List Tm) (i n : Nat) : (fixd xs i n).length = xs.length := by
  unfold fixd
  split
  · rw [down_length]
  · rw [up_length, down_length]
theorem up_behind : ∀ (k : Nat) (xs : List Tm) (j q : Nat), j < xs.length → j < q → at' (up k xs j) q = at' xs q
  | 0, _, _, _, _, _ => rfl
  | k + 1, xs, j, q, hj, hq => by
    rw [up]
    split
    · rfl
    · rw [up_behind k _ _ q (by rw [swp_length]; omega) (by omega), at_swp (by omega) hj, if_neg (by omega), if_neg (by omega)]
theorem fixd_behind {xs : List Tm} {i n q : Nat} (hi : i < n) (hn : n ≤ xs.length) (hq : n ≤ q) : at' (fixd xs i n) q = at' xs q := by
  have h1 := down_behind (n - i) xs i n q hi hn hq
  unfold fixd
  split
  · exact h1
  · rw [up_behind _ _ _ _ (by rw [down_length]; omega) (by omega), h1]

/-- The time of one that is there is turned. -/
theorem stands_turn {xs S : List Tm} {i : Nat} (h : Stands xs S) (hx : Ids xs) (hi : i < xs.length) (b : Int) :
    Stands (fixd (xs.set i ((xs[i]).1, b)) i xs.length) (ins ((xs[i]).1, b) (del (xs[i]).1 S)) := by
  have hl : (xs.set i ((xs[i]).1, b)).length = xs.length := by simp
  have hd : ∀ y ∈ del (xs[i]).1 S, y.1 ≠ (((xs[i]).1, b) : Tm).1 := fun y hy => (mem_del.1 hy).2
  refine ⟨?_, ?_, ins_sorted (del_sorted h.sorted) hd, ids_ins (ids_del h.ids) hd⟩
  · rw [fixd_length, hl]
    refine fixd_heap hi (by omega) ?_ ?_
    · intro j hj h0 hne
      rw [at_set hi, at_set hi, if_neg (fun e => hne (.inr e)), if_neg (fun e => hne (.inl e))]
      exact h.heap j hj h0 (fun h => h)
    · intro h0 j hj hj0 hp
      rw [at_set hi, at_set hi, if_neg (by omega), if_neg (by omega)]
      exact h.heap.gp i h0 j hj hj0 hp
  · refine (fixd_perm hi (by omega)).trans ((set_perm hx hi b).trans (List.Perm.trans ?_ (ins_perm _ _).symm))
    exact List.Perm.cons _ (h.perm.filter _)

theorem at_left {ys : List Tm} {x : Tm} {j : Nat} (h : j < ys.length) : at' (ys ++ [x]) j = at' ys j := by
  rw [at_eq (by simp; omega), at_eq h, List.getElem_append_left h]
theorem at_last (ys : List Tm) (x : Tm) : at' (ys ++ [x]) ys.length = x := by
  rw [at_eq (by simp)]
  simp
theorem heap_left {ys : List Tm} {x : Tm} {n : Nat} (h : Heap n (ys ++ [x])) (hl : ys.length = n) : Heap ys.length ys := by
  intro j hj h0 _
  have := h j (by omega) h0 (fun h => h)
  rwa [at_left (by omega), at_left hj] at this

/-- The first falls due. -/
theorem stands_pop {xs S ys : List Tm} {x : Tm} {n : Nat} (h : Stands xs S) (hn : xs.length = n + 1) (hz : (down n (swp xs 0 n) 0 n).1 = ys ++ [x]) : ∃ S', S = x :: S' ∧ Stands ys S' := by
  have hs := at_swp (xs := xs) (i := 0) (k := n) (by omega) (by omega)
  have hsl : (swp xs 0 n).length = n + 1 := by rw [swp_length, hn]
  have hyl : ys.length = n := by
    have := down_length n (swp xs 0 n) 0 n
    rw [hz, hsl] at this
    simpa using this
  have hperm : (ys ++ [x]).Perm S := by
    rw [← hz]
    rcases Nat.eq_zero_or_pos n with rfl | h0
    · exact (swp_perm (by omega) (by omega)).trans h.perm
    · exact (down_perm n _ 0 n (by omega) (by omega)).trans ((swp_perm (by omega) (by omega)).trans h.perm)
  have hx : x = at' xs 0 := by
    have h1 := at_last ys x
    rw [hyl, ← hz] at h1
    rcases Nat.eq_zero_or_pos n with rfl | h0
    · rw [← h1]
      show at' (swp xs 0 0) 0 = _
      rw [hs, if_pos rfl]
    · rw [← h1, down_behind n _ 0 n n h0 (by omega) (Nat.le_refl _), hs, if_pos rfl]
  have hheap : Heap ys.length ys := by
    rcases Nat.eq_zero_or_pos n with rfl | h0
    · intro j hj; omega
    · refine heap_left (x := x) (n := n) ?_ hyl
      rw [← hz]
      refine down_heap n _ n 0 h0 (by omega) (by omega) ?_ (fun h => absurd h (Nat.lt_irrefl 0))
      intro j hj hj0 hne
      rw [hs, hs, if_neg (by omega), if_neg hne, if_neg (by omega), if_neg (by omega)]
      exact h.heap j (by omega) hj0 (fun h => h)
  have hmin : ∀ y ∈ S, le x y := by
    intro y hy
    obtain ⟨j, hj, rfl⟩ := List.getElem_of_mem (h.perm.mem_iff.2 hy)
    rw [hx, ← at_eq hj]
    exact heap_first h.heap j hj
  cases S with
  | nil => exact absurd hperm.length_eq (by simp)
  | cons s r =>
    obtain ⟨h1, h2⟩ := List.pairwise_cons.1 h.sorted
    have hxs : x = s := by
      have hm : x ∈ s :: r := hperm.mem_iff.1 (by simp)
      rcases List.mem_cons.1 hm with e | hm
      · exact e
      · have a := h1 x hm
        have b := hmin s (by simp)
        unfold le at b
        rw [a] at b
        exact absurd b (by simp)
    subst hxs
    refine ⟨r, rfl, hheap, ?_, h2, (List.pairwise_cons.1 h.ids).2⟩
    exact ((List.perm_append_singleton x ys).symm.trans hperm).cons_inv

/-- One is taken away. -/
theorem stands_fall {xs S ys zs : List Tm} {x : Tm} {n : Nat} (h : Stands xs S) (hz : zs = ys ++ [x]) (hp : zs.Perm xs) (hh : Heap n zs) (hyl : ys.length = n) : Stands ys (del x.1 S) := by
  subst hz
  have hS := hp.trans h.perm
  have hi : Ids (ys ++ [x]) := Ids.perm h.ids hS.symm
  have e : del x.1 (ys ++ [x]) = ys := by
    unfold del
    rw [List.filter_append, List.filter_eq_self.2 (fun y hy => ?_)]
    · simp
    · rw [Ids, List.pairwise_append] at hi
      simpa using hi.2.2 y hy x (by simp)
  refine ⟨heap_left hh hyl, ?_, del_sorted h.sorted, ids_del h.ids⟩
  have := hS.filter (fun y => decide (y.1 ≠ x.1))
  rw [← e]
  exact this
end Go.Proofs.Ytphdmhjmaecddaa
