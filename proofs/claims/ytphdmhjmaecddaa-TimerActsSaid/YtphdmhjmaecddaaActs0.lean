/-
For the statement TimerActs: acts that came in; timers beside the document's own.
-/
import Derived.Test.YtphdmhjmaecddaaRef6
import Derived.Deep.Slices
import Derived.ChangeArms
namespace Go.Proofs.Ytphdmhjmaecddaa
open Go.RowKit Go.Proofs.YtphdmhjmaecddaaW.PrintWords Go.Proofs.YtphdmhjmaecddaaW.PrintLast Go.Proofs.YtphdmhjmaecddaaW.PrintMore

/-- One act in memory. -/
def ActAt (w : World) (p : Addr) (kd id tm : Int) : Prop := w.cell? p = some (.int .i64 kd) ∧ w.cell? (p.add 1) = some (.int .i64 id) ∧ w.cell? (p.add 2) = some (.int .i64 tm) ∧ ok64 kd ∧ ok64 id ∧ ok64 tm
/-- Acts that came in. -/
def IsActs (w : World) (a : Option Addr) (len : Nat) : Prop := (len : Int) ≤ 9223372036854775807 ∧ ∀ i, i < len → ∃ p kd id tm, a = some p ∧ ActAt w (p.add (i * 3)) kd id tm

section
variable {H : Type} {enc : TypeId × Value → H} {w : World} {base : Nat} {spare : Nat → Bool} {held : Bool}
theorem one_field {n : Nat} {vs : List Value} {y : Option (DataW H × List MemPlace)} (hy : y.isSome = true) (h : DataW.trod enc Try.prog w base spare held n 3 vs = y) : ∃ z, vs = [.int .i64 z] ∧ ok64 z := by
  obtain ⟨y, rfl⟩ := Option.isSome_iff_exists.1 hy
  obtain ⟨z, h1, _, h3⟩ := DataW.trod_int Try.underlying3 h
  exact ⟨z, h1, h3⟩
theorem open_acts {fuel : Nat} {a : Option Addr} {len cap : Nat} {x : DataW H × List MemPlace} (h : DataW.trod enc Try.prog w base spare held fuel 35 [.slice a len cap] = some x) : IsActs w a len := by
  have h41 : Try.prog.cellsOf 41 = 3 := by kernel_rfl
  have h3 : Try.prog.cellsOf 3 = 1 := by kernel_rfl
  rcases Go.Deep.open_slice Try.underlying35 h with ⟨hcs, _⟩ | ⟨p, l, c, m, n, D, Pl, hcs, _, hl, hm, hmm, _, hx⟩
  · simp only [List.cons.injEq, Value.slice.injEq, and_true] at hcs
    obtain ⟨rfl, rfl, rfl⟩ := hcs
    exact ⟨by decide, fun i hi => absurd hi (Nat.not_lt_zero _)⟩
  · simp only [List.cons.injEq, Value.slice.injEq, and_true] at hcs
    obtain ⟨rfl, rfl, rfl⟩ := hcs
    refine ⟨by simp only [maxLen] at hm; omega, fun i hi => ?_⟩
    have him : i < m := by
      rw [hmm]
      split <;> omega
    obtain ⟨cs, hc, ht⟩ := hx i him
    rw [h41] at hc
    obtain ⟨ys, q, _, _, _, hyl, hf⟩ := DataW.trod_struct Try.underlying41 ht
    obtain ⟨_, hlen, hat⟩ := World.cells?_some hc
    have hy : ∀ j, j < 3 → (ys[j]?).isSome = true := fun j hj => by
      rw [List.getElem?_eq_getElem (by rw [hyl]; exact hj)]
      rfl
    have f0 : DataW.trod enc Try.prog w base spare held q 3 ((cs.drop 0).take (Try.prog.cellsOf 3)) = ys[0]? := hf 0 _ rfl
    have f1 : DataW.trod enc Try.prog w base spare held q 3 ((cs.drop 1).take (Try.prog.cellsOf 3)) = ys[1]? := hf 1 _ rfl
    have f2 : DataW.trod enc Try.prog w base spare held q 3 ((cs.drop 2).take (Try.prog.cellsOf 3)) = ys[2]? := hf 2 _ rfl
    rw [h3] at f0 f1 f2
    obtain ⟨z0, e0, o0⟩ := one_field (hy 0 (by omega)) f0
    obtain ⟨z1, e1, o1⟩ := one_field (hy 1 (by omega)) f1
    obtain ⟨z2, e2, o2⟩ := one_field (hy 2 (by omega)) f2
    have pick : ∀ (j : Nat) (z : Int), (cs.drop j).take 1 = [.int .i64 z] → cs[j]? = some (.int .i64 z) := fun j z e => by
      have := congrArg (fun l : List Value => l[0]?) e
      simpa [List.getElem?_take] using this
    refine ⟨p, z0, z1, z2, rfl, ?_, ?_, ?_, o0, o1, o2⟩
    · have := hat 0 (by omega)
      rw [pick 0 z0 e0] at this
      simpa [Addr.add] using this
    · rw [hat 1 (by omega), pick 1 z1 e1]
    · rw [hat 2 (by omega), pick 2 z2 e2]
end

/-- Timers at A and the document's own at R hold the same. -/
structure ActsL (w wr : World) (A R : Nat) (v : Value) (S : List Tm) : Prop where
  tt : TT wr A S (fun k => k < w.heap.size ∨ k = R ∨ v.ownBlock = some k)
  rr : RR wr w.heap.size R v S
  below : Below w.heap.size w wr
section
variable {w wr W0 w2 w2' w3 : World} {A R : Nat} {v v' : Value} {S S' : List Tm} {Q : Nat → Prop}
theorem ActsL.quiet (h : ActsL w wr A R v S) (hb : Below wr.heap.size wr W0) : ActsL w W0 A R v S := ⟨h.tt.same hb, h.rr.below hb, below_step h.below hb⟩
/-- All blocks that the timers at A may not touch: with those that were made since. -/
def Held (w wr W0 : World) (R : Nat) (v : Value) (k : Nat) : Prop := (k < w.heap.size ∨ k = R ∨ v.ownBlock = some k) ∨ (wr.heap.size ≤ k ∧ k < W0.heap.size)
theorem ActsL.wide (h : ActsL w wr A R v S) (hb : Below wr.heap.size wr W0) : TT W0 A S (Held w wr W0 R v) := h.tt.below hb
theorem ActsL.mid (h : ActsL w wr A R v S) (hb : Below wr.heap.size wr W0) (hc : Chg W0 w2 (fun k => ¬ Held w wr W0 R v k)) : RR w2 w.heap.size R v S :=
  (h.rr.below hb).keep hc (fun hn => hn (.inl (.inr (.inl rfl)))) (fun _ hk hn => hn (.inl (.inr (.inr hk))))
theorem ActsL.after (h : ActsL w wr A R v S) (hb : Below wr.heap.size wr W0) (ht : TT w2 A S' (Held w wr W0 R v)) (hc : Chg W0 w2 (fun k => ¬ Held w wr W0 R v k)) (hb2 : Below w2.heap.size w2 w2') (rs : RStep w2' w3 w.heap.size R v v' S') : ActsL w w3 A R v' S' := by
  have hR : w.heap.size ≤ R := h.rr.low
  have h3 : Chg w2 w3 (fun j => j = R) := (Chg.of_below hb2 _).then rs.chg
  refine ⟨(ht.keep h3 (fun k hk => .inl (.inr (.inl hk)))).sub (fun k hk => ?_), rs.rr, ?_⟩
  · rcases hk with hk | hk | hk
    · exact .inl (.inl (.inl hk))
    · exact .inl (.inl (.inr (.inl hk)))
    · rcases rs.new k hk with h1 | h1
      · exact .inl (.inl (.inr (.inr h1)))
      · exact .inr ⟨Nat.le_trans hb2.size h1, (row_base rs.rr.row hk).2⟩
  · refine below_chg (Q := fun k => k < w.heap.size) (below_chg (below_step h.below hb) hc (fun _ hk => .inl (.inl hk))) (h3.mono (fun k _ hk hq => by omega)) (fun _ hk => hk)
end
end Go.Proofs.Ytphdmhjmaecddaa
