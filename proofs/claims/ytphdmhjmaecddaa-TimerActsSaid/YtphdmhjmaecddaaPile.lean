/-
The methods of timers.pile, walked.
-/
import Derived.Test.YtphdmhjmaecddaaHeap
import Derived.Test.YtphdmhjmaecddaaProg
import Derived.Below
import Derived.Deep.Draws
import Derived.Deep.AppendLies
import Derived.Maps.AppendAt
import Derived.OwnWalk
import Derived.Laws.BytesArg
import Derived.Laws.MakeOwn
import Derived.Laws.OwnMore
import Derived.Deep.OwnRows
import Derived.Tactics
import Derived.Lib.ConvBytes
import Derived.Laws.Slices
import Derived.WalkKit
import Derived.KernelRfl
import Derived.RowKit3
import Derived.Deep.LoopGhost
import Derived.Deep.QuietTactic
import Derived.BigQuiet
import Derived.WideLaws
import Derived.Deep.DeepCutAuto
import Derived.Deep.CutBlock
import Derived.Deep.RegionHeld3
import Derived.Laws.Rows
import Derived.Lib.AppendStr
import Derived.ArgAppend
import Derived.Laws.IdiomCopy
import Derived.OrdersHeld
import Derived.Laws.BitsLemmas
import Derived.RowKit
import Derived.Test.YtphdmhjmaecddaaWWords
import Derived.Test.YtphdmhjmaecddaaWLast
import Derived.Test.YtphdmhjmaecddaaWTab
import Derived.Test.YtphdmhjmaecddaaWFour
import Derived.Test.YtphdmhjmaecddaaWQPut
import Derived.Test.YtphdmhjmaecddaaWApart
import Derived.Test.YtphdmhjmaecddaaWArr
import Derived.Test.YtphdmhjmaecddaaWZeros
import Derived.Test.YtphdmhjmaecddaaWFoot
import Derived.Test.YtphdmhjmaecddaaWKept
import Derived.Test.YtphdmhjmaecddaaWShare
import Derived.Test.YtphdmhjmaecddaaWN
import Derived.Test.YtphdmhjmaecddaaWFootNe
import Derived.Test.YtphdmhjmaecddaaWAt
import Derived.Test.YtphdmhjmaecddaaWEqStruct
import Derived.Test.YtphdmhjmaecddaaWRepsOne
import Derived.Test.YtphdmhjmaecddaaWInv
import Derived.Test.YtphdmhjmaecddaaWInvWords
import Derived.Test.YtphdmhjmaecddaaWGuard
import Derived.Test.YtphdmhjmaecddaaWNEv
import Derived.Test.YtphdmhjmaecddaaWMore
import Derived.Maps.Own
import Derived.Maps.OwnOps
import Derived.Maps.OwnSet
import Derived.Maps.Views
import Derived.BigRegion
import Derived.StillTailTactics
import Derived.Lib.Hide
namespace Go.Proofs.Ytphdmhjmaecddaa
open Go.RowKit Go.Proofs.YtphdmhjmaecddaaW.PrintWords Go.Proofs.YtphdmhjmaecddaaW.PrintLast Go.Proofs.YtphdmhjmaecddaaW.PrintMore

theorem len_walk (A : Nat) (v : Option Addr) (n c : Nat) (w : World) (h0 : w.cell? ⟨A, 0, none⟩ = some (.slice v n c)) :
    Calls Try.prog 48 #[.pointer (some ⟨A, 0, none⟩)] w fun e w' => e = .returned (.int .i64 n) ∧ w = w' := by
  go_enter Try.func48, Try.ntmps48
  go_wp2_with fail
  go_ret
  exact ⟨rfl, rfl⟩

set_option maxRecDepth 100000 in
set_option maxHeartbeats 2000000 in
theorem less_walk (A B : Nat) (n c : Nat) (i k : Nat) (x y : Tm) (w : World) (h0 : w.cell? ⟨A, 0, none⟩ = some (.slice (some ⟨B, 0, none⟩) n c)) (hi : i < n) (hk : k < n)
    (hx1 : w.cell? ⟨B, i * 2, none⟩ = some (.int .i64 x.1)) (hx2 : w.cell? ⟨B, i * 2 + 1, none⟩ = some (.int .i64 x.2)) (hy1 : w.cell? ⟨B, k * 2, none⟩ = some (.int .i64 y.1)) (hy2 : w.cell? ⟨B, k * 2 + 1, none⟩ = some (.int .i64 y.2)) :
    Calls Try.prog 43 #[.pointer (some ⟨A, 0, none⟩), .int .i64 i, .int .i64 k] w fun e w' => e = .returned (.bool (lt x y)) ∧ Below w.heap.size w w' := by
  have i0 : (0 : Int) ≤ (i : Int) := Int.natCast_nonneg _
  have i1 : (i : Int) < (n : Int) := by omega
  have k0 : (0 : Int) ≤ (k : Int) := Int.natCast_nonneg _
  have k1 : (k : Int) < (n : Int) := by omega
  have lA := World.block_lt_of_cell? w _ h0
  have lB := World.block_lt_of_cell? w _ hx1
  simp only [] at lA lB
  go_enter Try.func43, Try.ntmps43
  go_wp2_with fail
  go_region
  all_goals
    by_cases c1 : x.2 < y.2
    · go_wp2_with fail
      go_ret
      have : lt x y = true := by simp [lt, c1]
      rw [this]
      exact ⟨rfl, by repeat (first | apply below_alloc | apply below_drew1 | exact Below.refl _ _)⟩
    · by_cases c2 : x.2 = y.2
      · rw [c2]
        go_wp2_with fail
        all_goals go_ret
        all_goals
          refine ⟨?_, by repeat (first | apply below_alloc | apply below_drew1 | exact Below.refl _ _)⟩
          simp [lt, c2]
      · have hq : lt x y = false := by simp [lt, c1, c2]
        go_wp2_with fail
        go_ret
        exact ⟨by simp, by repeat (first | apply below_alloc | apply below_drew1 | exact Below.refl _ _)⟩


theorem len_pile {w : World} {A M : Nat} {v : Value} {xs : List Tm} (h : Pile w A M v xs) :
    Calls Try.prog 48 #[.pointer (some ⟨A, 0, none⟩)] w fun e w' => e = .returned (.int .i64 xs.length) ∧ w = w' := by
  obtain ⟨a, c, rfl⟩ := h.slice
  exact len_walk A a xs.length c w h.cell0

theorem less_pile {w : World} {A M : Nat} {v : Value} {xs : List Tm} (h : Pile w A M v xs) (i k : Nat) (hi : i < xs.length) (hk : k < xs.length) :
    Calls Try.prog 43 #[.pointer (some ⟨A, 0, none⟩), .int .i64 i, .int .i64 k] w fun e w' => e = .returned (.bool (lt xs[i] xs[k])) ∧ Below w.heap.size w w' := by
  obtain ⟨B, c, cur, rfl, hB, _, _, _, htk⟩ := h.lies (by omega)
  obtain ⟨hx1, hx2⟩ := row_cells hB htk i hi
  obtain ⟨hy1, hy2⟩ := row_cells hB htk k hk
  exact less_walk A B xs.length c i k xs[i] xs[k] w h.cell0 hi hk hx1 hx2 hy1 hy2

end Go.Proofs.Ytphdmhjmaecddaa
