/-
What lies in memory of a pile of timers: its head, its row, its map; and what a step on it may change.
-/
import Derived.Test.YtphdmhjmaecddaaIMap
import Derived.Below
import Derived.Laws.Rows
import Derived.Laws.AppendOwn
import Derived.Deep.Draws
namespace Go.Proofs.Ytphdmhjmaecddaa
open Go.RowKit Go.ChangeMaps

/-- w' is w but for the blocks in S, and for new ones. -/
structure Chg (w w' : World) (S : Nat → Prop) : Prop where
  os : w'.os = w.os
  tape : w'.tape = w.tape
  output : w'.output = w.output
  size : w.heap.size ≤ w'.heap.size
  block : ∀ k, k < w.heap.size → ¬ S k → w'.heap[k]? = w.heap[k]?
section
variable {w w1 w2 : World} {S S' : Nat → Prop}
theorem Chg.refl (w : World) (S : Nat → Prop) : Chg w w S := ⟨rfl, rfl, rfl, Nat.le_refl _, fun _ _ _ => rfl⟩
theorem Chg.trans (h : Chg w w1 S) (k : Chg w1 w2 S') (hs : ∀ i, i < w.heap.size → S' i → S i) : Chg w w2 S :=
  ⟨k.os.trans h.os, k.tape.trans h.tape, k.output.trans h.output, Nat.le_trans h.size k.size,
    fun i hi hn => (k.block i (Nat.lt_of_lt_of_le hi h.size) (fun hi' => hn (hs i hi hi'))).trans (h.block i hi hn)⟩
theorem Chg.then (h : Chg w w1 S) (k : Chg w1 w2 S) : Chg w w2 S := h.trans k (fun _ _ h => h)
theorem Chg.mono (h : Chg w w1 S) (hs : ∀ i, i < w.heap.size → S i → S' i) : Chg w w1 S' :=
  ⟨h.os, h.tape, h.output, h.size, fun i hi hn => h.block i hi (fun h => hn (hs i hi h))⟩
theorem Chg.of_below (h : Below w.heap.size w w1) (S : Nat → Prop) : Chg w w1 S := ⟨h.os, h.tape, h.output, h.size, fun k hk _ => h.block k hk⟩
theorem Chg.below (h : Chg w w1 S) {base : Nat} (hb : base ≤ w.heap.size) (hs : ∀ k, S k → base ≤ k) : Below base w w1 :=
  ⟨h.os, h.tape, h.output, h.size, fun k hk => h.block k (Nat.lt_of_lt_of_le hk hb) (fun hk' => by have := hs k hk'; omega)⟩
theorem Chg.setCell (w : World) (a : Addr) (u : Value) (S : Nat → Prop) (h : S a.block) : Chg w (w.setCell a u) S :=
  ⟨rfl, rfl, rfl, by simp [World.setCell], fun k _ hn => heap_setCell_other w a k u (fun e => hn (e ▸ h))⟩
theorem Chg.drew (w : World) (S : Nat → Prop) : Chg w w.drew S := ⟨rfl, rfl, rfl, Nat.le_refl _, fun _ _ _ => rfl⟩
theorem Chg.drewN (w : World) (n : Nat) (S : Nat → Prop) : Chg w (w.drewN n) S := ⟨rfl, rfl, rfl, Nat.le_refl _, fun _ _ _ => rfl⟩
theorem Chg.alloc (w : World) (o : Obj) (S : Nat → Prop) : Chg w (w.alloc o) S := ⟨rfl, rfl, rfl, by simp, fun k hk _ => (World.grownBy_alloc w o none).block k hk (by simp)⟩
theorem Chg.turned {M : Nat} (h : w.mapTurned w1 M) (hs : S M) : Chg w w1 S :=
  ⟨h.grown.os, h.grown.tape, h.grown.output, h.grown.size, fun k hk hn => h.grown.block k hk (fun e => hn (by injection e with e; exact e ▸ hs))⟩
theorem Chg.grown {row : Option Nat} (h : w.grownBy w1 row) (hs : ∀ k, row = some k → S k) : Chg w w1 S :=
  ⟨h.os, h.tape, h.output, h.size, fun k hk hn => h.block k hk (fun e => hn (hs k e.symm))⟩
theorem Chg.cell (h : Chg w w1 S) {a : Addr} {v : Value} (hc : w.cell? a = some v) (hn : ¬ S a.block) : w1.cell? a = some v :=
  (World.cell?_of_block (h.block a.block (World.block_lt_of_cell? w a hc) hn)).trans hc
end

/-- A timer: its id, and when it falls due. -/
abbrev Tm := Int × Int
def flat (xs : List Tm) : List Value := xs.flatMap fun x => [.int .i64 x.1, .int .i64 x.2]
theorem flat_length (xs : List Tm) : (flat xs).length = xs.length * 2 := by
  unfold flat
  induction xs with
  | nil => rfl
  | cons x r ih => rw [List.flatMap_cons, List.length_append, ih]; simp; omega
theorem flat_append (xs ys : List Tm) : flat (xs ++ ys) = flat xs ++ flat ys := by unfold flat; rw [List.flatMap_append]
theorem flat_cons (x : Tm) (xs : List Tm) : flat (x :: xs) = .int .i64 x.1 :: .int .i64 x.2 :: flat xs := rfl
theorem flat_at : ∀ (xs : List Tm) (i : Nat) (h : i < xs.length), (flat xs)[i * 2]? = some (.int .i64 (xs[i]).1) ∧ (flat xs)[i * 2 + 1]? = some (.int .i64 (xs[i]).2)
  | x :: xs, 0, _ => by simp [flat_cons]
  | x :: xs, i + 1, h => by
    have := flat_at xs i (by simpa using h)
    rw [flat_cons, show (i + 1) * 2 = i * 2 + 2 by omega]
    simpa using this
theorem flat_set : ∀ (xs : List Tm) (i : Nat) (y : Tm), flat (xs.set i y) = ((flat xs).set (i * 2) (.int .i64 y.1)).set (i * 2 + 1) (.int .i64 y.2)
  | [], _, _ => by simp [flat]
  | x :: xs, 0, y => by simp [flat_cons]
  | x :: xs, i + 1, y => by
    rw [List.set_cons_succ, flat_cons, flat_cons, flat_set xs i y, show (i + 1) * 2 = i * 2 + 2 by omega]
    simp
theorem flat_take (xs : List Tm) (m : Nat) : flat (xs.take m) = (flat xs).take (m * 2) := by
  induction xs generalizing m with
  | nil => simp [flat]
  | cons x r ih =>
    cases m with
    | zero => simp [flat]
    | succ m => rw [List.take_succ_cons, flat_cons, flat_cons, ih, show (m + 1) * 2 = m * 2 + 2 by omega]; simp

/-- The map tells each id's place. -/
structure Pl (xs : List Tm) (f : Int → Option Int) : Prop where
  at_ : ∀ (i : Nat) (h : i < xs.length), f (xs[i]).1 = some (i : Int)
  out : ∀ k, (∀ x ∈ xs, x.1 ≠ k) → f k = none
theorem Pl.inj {xs : List Tm} {f : Int → Option Int} (h : Pl xs f) {i j : Nat} (hi : i < xs.length) (hj : j < xs.length) (e : (xs[i]).1 = (xs[j]).1) : i = j := by
  have h1 := h.at_ i hi
  have h2 := h.at_ j hj
  rw [e, h2] at h1
  injection h1 with h1
  omega
theorem Pl.nil : Pl [] (fun _ => none) := ⟨fun _ h => absurd h (Nat.not_lt_zero _), fun _ _ => rfl⟩
theorem Pl.some_ {xs : List Tm} {f : Int → Option Int} (h : Pl xs f) {k c : Int} (hf : f k = some c) : ∃ (i : Nat) (hi : i < xs.length), (xs[i]).1 = k ∧ c = i := by
  by_cases he : ∃ x ∈ xs, x.1 = k
  · obtain ⟨x, hx, hk⟩ := he
    obtain ⟨i, hi, rfl⟩ := List.getElem_of_mem hx
    refine ⟨i, hi, hk, ?_⟩
    have := h.at_ i hi
    rw [hk, hf] at this
    injection this
  · rw [h.out k (fun x hx hk => he ⟨x, hx, hk⟩)] at hf
    exact absurd hf (by simp)
theorem Pl.none_ {xs : List Tm} {f : Int → Option Int} (h : Pl xs f) {k : Int} (hf : f k = none) : ∀ x ∈ xs, x.1 ≠ k := by
  intro x hx hk
  obtain ⟨i, hi, rfl⟩ := List.getElem_of_mem hx
  rw [← hk, h.at_ i hi] at hf
  exact absurd hf (by simp)

/-- Two places exchanged. -/
def swp (xs : List Tm) (i k : Nat) : List Tm := match xs[i]?, xs[k]? with
  | some x, some y => (xs.set i y).set k x
  | _, _ => xs
theorem swp_eq {xs : List Tm} {i k : Nat} (hi : i < xs.length) (hk : k < xs.length) : swp xs i k = (xs.set i xs[k]).set k xs[i] := by
  simp [swp, hi, hk]
theorem swp_length (xs : List Tm) (i k : Nat) : (swp xs i k).length = xs.length := by
  unfold swp
  split <;> simp
theorem swp_at {xs : List Tm} {i k : Nat} (hi : i < xs.length) (hk : k < xs.length) (j : Nat) (hj : j < (swp xs i k).length) :
    (swp xs i k)[j] = if j = k then xs[i] else if j = i then xs[k] else xs[j]'(by rw [swp_length] at hj; exact hj) := by
  simp only [swp_eq hi hk, List.getElem_set, eq_comm (a := k) (b := j), eq_comm (a := i) (b := j)]
theorem swp_perm {xs : List Tm} {i k : Nat} (hi : i < xs.length) (hk : k < xs.length) : (swp xs i k).Perm xs := by
  rw [swp_eq hi hk]
  exact List.set_set_perm hi hk
theorem mem_swp {xs : List Tm} {i k : Nat} (hi : i < xs.length) (hk : k < xs.length) {x : Tm} : x ∈ swp xs i k ↔ x ∈ xs := (swp_perm hi hk).mem_iff

theorem Pl.swp {xs : List Tm} {f : Int → Option Int} (h : Pl xs f) {i k : Nat} (hi : i < xs.length) (hk : k < xs.length) : Pl (swp xs i k) (upd (upd f (xs[k]).1 (some (i : Int))) (xs[i]).1 (some (k : Int))) := by
  refine ⟨fun j hj => ?_, fun q hq => ?_⟩
  · have hj' : j < xs.length := by rw [swp_length] at hj; exact hj
    rw [swp_at hi hk j hj]
    by_cases h1 : j = k
    · subst h1
      rw [if_pos rfl, upd_same]
    · rw [if_neg h1]
      by_cases h2 : j = i
      · subst h2
        rw [if_pos rfl]
        by_cases h3 : (xs[k]).1 = (xs[j]).1
        · exact absurd (h.inj hk hj' h3) (fun e => h1 e.symm)
        · rw [upd_other _ _ _ h3, upd_same]
      · rw [if_neg h2, upd_other _ _ _ (fun e => h2 (h.inj hj' hi e)), upd_other _ _ _ (fun e => h1 (h.inj hj' hk e))]
        exact h.at_ j hj'
  · have hq' : ∀ x ∈ xs, x.1 ≠ q := fun x hx => hq x ((mem_swp hi hk).2 hx)
    rw [upd_other _ _ _ (fun e => hq' _ (List.getElem_mem hi) e.symm), upd_other _ _ _ (fun e => hq' _ (List.getElem_mem hk) e.symm)]
    exact h.out q hq'

theorem Pl.push {xs : List Tm} {f : Int → Option Int} (h : Pl xs f) {x : Tm} (hx : ∀ y ∈ xs, y.1 ≠ x.1) : Pl (xs ++ [x]) (upd f x.1 (some (xs.length : Int))) := by
  refine ⟨fun j hj => ?_, fun q hq => ?_⟩
  · by_cases hl : j < xs.length
    · rw [List.getElem_append_left hl, upd_other _ _ _ (hx _ (List.getElem_mem hl))]
      exact h.at_ j hl
    · have : j = xs.length := by simp at hj; omega
      subst this
      simp [upd_same]
  · rw [upd_other _ _ _ (fun e => hq x (by simp) e.symm)]
    exact h.out q (fun y hy => hq y (by simp [hy]))

theorem Pl.pop {xs : List Tm} {x : Tm} {f : Int → Option Int} (h : Pl (xs ++ [x]) f) : Pl xs (upd f x.1 none) := by
  have hne : ∀ (j : Nat) (hj : j < xs.length), (xs[j]).1 ≠ x.1 := fun j hj e => by
    have := h.inj (i := j) (j := xs.length) (by simp; omega) (by simp) (by simp [List.getElem_append_left hj, e])
    omega
  refine ⟨fun j hj => ?_, fun q hq => ?_⟩
  · rw [upd_other _ _ _ (hne j hj)]
    have := h.at_ j (by simp; omega)
    rwa [List.getElem_append_left hj] at this
  · by_cases e : q = x.1
    · subst e; exact upd_same _ _ _
    · rw [upd_other _ _ _ e]
      refine h.out q (fun y hy => ?_)
      rcases List.mem_append.1 hy with hy | hy
      · exact hq y hy
      · simp at hy
        subst hy
        exact fun e' => e e'.symm

theorem Pl.turn {xs : List Tm} {f : Int → Option Int} (h : Pl xs f) {i : Nat} (hi : i < xs.length) (b : Int) : Pl (xs.set i ((xs[i]).1, b)) f := by
  refine ⟨fun j hj => ?_, fun q hq => h.out q (fun x hx => ?_)⟩
  · have hj' : j < xs.length := by simpa using hj
    rw [List.getElem_set]
    by_cases e : i = j
    · subst e
      rw [if_pos rfl]
      exact h.at_ i hi
    · rw [if_neg e]
      exact h.at_ j hj'
  · obtain ⟨j, hj, rfl⟩ := List.getElem_of_mem hx
    have hj' : j < (xs.set i ((xs[i]).1, b)).length := by simpa using hj
    have := hq _ (List.getElem_mem hj')
    rw [List.getElem_set] at this
    by_cases e : i = j
    · subst e
      simpa using this
    · rwa [if_neg e] at this

/-- A pile: its head in block A, its map in block M, its row under v. -/
structure Pile (w : World) (A M : Nat) (v : Value) (xs : List Tm) : Prop where
  head : w.heap[A]? = some (.cells #[v, .map (some M)] 56 (0, 0))
  row : w.ownsRow 0 59 2 v xs.length (flat xs)
  map : ∃ f, IMap w M xs.length f ∧ Pl xs f
  oks : ∀ x ∈ xs, ok64 x.1 ∧ ok64 x.2
  few : xs.length ≤ 256

def own (A M : Nat) (v : Value) (k : Nat) : Prop := k = A ∨ k = M ∨ v.ownBlock = some k

section
variable {w w' : World} {A M : Nat} {v : Value} {xs : List Tm}
theorem Pile.cell0 (h : Pile w A M v xs) : w.cell? ⟨A, 0, none⟩ = some v := by rw [cell_of_row w A 0 _ 56 _ h.head]; rfl
theorem Pile.cell1 (h : Pile w A M v xs) : w.cell? ⟨A, 1, none⟩ = some (.map (some M)) := by rw [cell_of_row w A 1 _ 56 _ h.head]; rfl
theorem Pile.frozen (h : Pile w A M v xs) (j : Nat) : w.frozen? ⟨A, j, none⟩ = false := frozen_of_row w A j _ 56 h.head
theorem Pile.slice (h : Pile w A M v xs) : ∃ a c, v = .slice a xs.length c := by
  rcases h.row.2 with ⟨rfl, e⟩ | ⟨g, cap, cur, rfl, _⟩
  · exact ⟨none, 0, by rw [e]⟩
  · exact ⟨_, _, rfl⟩
/-- Where it is not empty its row lies in a block. -/
theorem Pile.lies (h : Pile w A M v xs) (hn : 0 < xs.length) : ∃ B c cur, v = .slice (some ⟨B, 0, none⟩) xs.length c ∧ w.heap[B]? = some (.cells cur 59 (0, 0)) ∧ xs.length ≤ c ∧ c ≤ maxLen ∧ cur.size = c * 2 ∧ cur.toList.take (xs.length * 2) = flat xs := by
  rcases h.row.2 with ⟨_, e⟩ | ⟨g, cap, cur, rfl, _, h1, h2, h3, h4, h5⟩
  · omega
  · exact ⟨g, cap, cur, rfl, h1, h2, h3, h4, h5⟩
theorem Pile.aneM (h : Pile w A M v xs) : A ≠ M := by
  rintro rfl
  obtain ⟨f, ⟨D, ⟨es, clock, hb, _⟩, _⟩, _⟩ := h.map
  rw [h.head] at hb
  cases hb
theorem Pile.aneB (h : Pile w A M v xs) : v.ownBlock ≠ some A := by
  intro e
  rcases h.row.2 with ⟨rfl, _⟩ | ⟨g, cap, cur, rfl, _, h1, _⟩
  · cases e
  · injection e with e
    have e : g = A := e
    subst e
    rw [h.head] at h1
    cases h1
theorem Pile.mneB (h : Pile w A M v xs) : v.ownBlock ≠ some M := by
  intro e
  obtain ⟨f, ⟨D, ⟨es, clock, hb, _⟩, _⟩, _⟩ := h.map
  rcases h.row.2 with ⟨rfl, _⟩ | ⟨g, cap, cur, rfl, _, h1, _⟩
  · cases e
  · injection e with e
    have e : g = M := e
    subst e
    rw [hb] at h1
    cases h1
theorem Pile.lt (h : Pile w A M v xs) {k : Nat} (hk : own A M v k) : k < w.heap.size := by
  rcases hk with rfl | rfl | hk
  · exact (Array.getElem?_eq_some_iff.1 h.head).1
  · exact h.map.choose_spec.1.lt
  · exact (h.row.lt k hk).2
/-- What does not touch its blocks leaves it. -/
theorem Pile.keep (h : Pile w A M v xs) {S : Nat → Prop} (hc : Chg w w' S) (hs : ∀ k, own A M v k → ¬ S k) : Pile w' A M v xs := by
  have hb : ∀ k, own A M v k → w'.heap[k]? = w.heap[k]? := fun k hk => hc.block k (h.lt hk) (hs k hk)
  refine ⟨(hb A (.inl rfl)).trans h.head, ⟨h.row.1, ?_⟩, ?_, h.oks, h.few⟩
  · rcases h.row.2 with hn | ⟨g, cap, cur, rfl, h0, h1, r⟩
    · exact .inl hn
    · exact .inr ⟨g, cap, cur, rfl, h0, (hb g (.inr (.inr rfl))).trans h1, r⟩
  · obtain ⟨f, h1, h2⟩ := h.map
    exact ⟨f, h1.block (hb M (.inr (.inl rfl))), h2⟩
theorem Pile.below (h : Pile w A M v xs) (hb : Below w.heap.size w w') : Pile w' A M v xs := h.keep (Chg.of_below hb (fun _ => False)) (fun _ _ h => h)
theorem row_cells {B : Nat} {cur : Array Value} (hB : w.heap[B]? = some (.cells cur 59 (0, 0))) (ht : cur.toList.take (xs.length * 2) = flat xs) (i : Nat) (hi : i < xs.length) :
    w.cell? ⟨B, i * 2, none⟩ = some (.int .i64 (xs[i]).1) ∧ w.cell? ⟨B, i * 2 + 1, none⟩ = some (.int .i64 (xs[i]).2) := by
  obtain ⟨h1, h2⟩ := flat_at xs i hi
  rw [cell_of_row w B _ _ 59 _ hB, cell_of_row w B _ _ 59 _ hB]
  rw [← ht] at h1 h2
  rw [List.getElem?_take, if_pos (by omega)] at h1
  rw [List.getElem?_take, if_pos (by omega)] at h2
  exact ⟨by rw [← Array.getElem?_toList]; exact h1, by rw [← Array.getElem?_toList]; exact h2⟩

/-- What a step on a pile has done. -/
structure Step (w w' : World) (A M : Nat) (v v' : Value) (xs' : List Tm) : Prop where
  pile : Pile w' A M v' xs'
  chg : Chg w w' (own A M v)
  new : ∀ k, v'.ownBlock = some k → v.ownBlock = some k ∨ w.heap.size ≤ k
theorem Step.refl (h : Pile w A M v xs) : Step w w A M v v xs := ⟨h, Chg.refl _ _, fun _ hk => .inl hk⟩
theorem Step.trans {w1 : World} {v1 v2 : Value} {ys zs : List Tm} (h : Step w w1 A M v v1 ys) (k : Step w1 w' A M v1 v2 zs) : Step w w' A M v v2 zs := by
  refine ⟨k.pile, h.chg.trans k.chg (fun i hi hk => ?_), fun i hi => ?_⟩
  · rcases hk with rfl | rfl | hk
    · exact .inl rfl
    · exact .inr (.inl rfl)
    · rcases h.new i hk with hk | hk
      · exact .inr (.inr hk)
      · omega
  · rcases k.new i hi with hk | hk
    · exact h.new i hk
    · exact .inr (Nat.le_trans h.chg.size hk)
theorem Step.after_below {w1 : World} {v2 : Value} {zs : List Tm} (h : Below w.heap.size w w1) (k : Step w1 w' A M v v2 zs) : Step w w' A M v v2 zs :=
  ⟨k.pile, (Chg.of_below h _).then k.chg, fun i hi => (k.new i hi).imp id (fun hk => Nat.le_trans h.size hk)⟩
theorem Step.then_below {w1 : World} {v2 : Value} {zs : List Tm} (k : Step w w1 A M v v2 zs) (h : Below w1.heap.size w1 w') : Step w w' A M v v2 zs :=
  ⟨k.pile.below h, k.chg.then (Chg.of_below h _), k.new⟩
end
end Go.Proofs.Ytphdmhjmaecddaa
