/-
container/heap's Remove over a pile, walked.
-/
import Derived.Test.YtphdmhjmaecddaaHeapx
import Derived.Test.YtphdmhjmaecddaaProg
import Derived.Below
import Derived.Deep.Draws
import Derived.Deep.AppendLies
import Derived.Maps.AppendAt
import Derived.OwnWalk
import Derived.Laws.BytesArg
import Derived.Laws.MakeOwn
import Derived.Laws.OwnMore
import Derived.Deep.OwnRows
import Derived.Tactics
import Derived.Lib.ConvBytes
import Derived.Laws.Slices
import Derived.WalkKit
import Derived.KernelRfl
import Derived.RowKit3
import Derived.Deep.LoopGhost
import Derived.Deep.QuietTactic
import Derived.BigQuiet
import Derived.WideLaws
import Derived.Deep.DeepCutAuto
import Derived.Deep.CutBlock
import Derived.Deep.RegionHeld3
import Derived.Laws.Rows
import Derived.Lib.AppendStr
import Derived.ArgAppend
import Derived.Laws.IdiomCopy
import Derived.OrdersHeld
import Derived.Laws.BitsLemmas
import Derived.RowKit
import Derived.Test.YtphdmhjmaecddaaWWords
import Derived.Test.YtphdmhjmaecddaaWLast
import Derived.Test.YtphdmhjmaecddaaWTab
import Derived.Test.YtphdmhjmaecddaaWFour
import Derived.Test.YtphdmhjmaecddaaWQPut
import Derived.Test.YtphdmhjmaecddaaWApart
import Derived.Test.YtphdmhjmaecddaaWArr
import Derived.Test.YtphdmhjmaecddaaWZeros
import Derived.Test.YtphdmhjmaecddaaWFoot
import Derived.Test.YtphdmhjmaecddaaWKept
import Derived.Test.YtphdmhjmaecddaaWShare
import Derived.Test.YtphdmhjmaecddaaWN
import Derived.Test.YtphdmhjmaecddaaWFootNe
import Derived.Test.YtphdmhjmaecddaaWAt
import Derived.Test.YtphdmhjmaecddaaWEqStruct
import Derived.Test.YtphdmhjmaecddaaWRepsOne
import Derived.Test.YtphdmhjmaecddaaWInv
import Derived.Test.YtphdmhjmaecddaaWInvWords
import Derived.Test.YtphdmhjmaecddaaWGuard
import Derived.Test.YtphdmhjmaecddaaWNEv
import Derived.Test.YtphdmhjmaecddaaWMore
import Derived.Maps.Own
import Derived.Maps.OwnOps
import Derived.Maps.OwnSet
import Derived.Maps.Views
import Derived.BigRegion
import Derived.StillTailTactics
import Derived.Lib.Hide
namespace Go.Proofs.Ytphdmhjmaecddaa
open Go.RowKit Go.Proofs.YtphdmhjmaecddaaW.PrintWords Go.Proofs.YtphdmhjmaecddaaW.PrintLast Go.Proofs.YtphdmhjmaecddaaW.PrintMore



/-- What Remove leaves before the last is taken. -/
def remd (xs : List Tm) (i n : Nat) : List Tm := if i = n then xs else if i < (down (n - i) (swp xs i n) i n).2 then (down (n - i) (swp xs i n) i n).1 else up (i + 1) (down (n - i) (swp xs i n) i n).1 i
theorem remd_length (xs : List Tm) (i n : Nat) : (remd xs i n).length = xs.length := by
  unfold remd
  split
  · rfl
  · split
    · rw [down_length, swp_length]
    · rw [up_length, down_length, swp_length]

set_option maxRecDepth 100000 in
set_option maxHeartbeats 4000000 in
theorem remove_walk {w : World} {A M : Nat} {v : Value} {xs : List Tm} (h : Pile w A M v xs) (i n : Nat) (hn : xs.length = n + 1) (hi : i ≤ n) :
    Calls Try.prog 23 #[.iface 61 (.pointer (some ⟨A, 0, none⟩)), .int .i64 i] w fun e w' => ∃ ys x v', remd xs i n = ys ++ [x] ∧ e = .returned (.iface 59 (.agg #[.int .i64 x.1, .int .i64 x.2])) ∧ Step w w' A M v v' ys := by
  have kn := m_Len
  have ks := m_Swap
  have kp := m_Pop
  have LN := Lib.hid (len_pile h)
  have SW := Lib.hid (swap_walk h i n (by omega) (by omega))
  rw [hn] at LN
  have hn256 : n < 256 := by have := h.few; omega
  have HN := Lib.hid hn
  have HI := Lib.hid hi
  have hrl : (remd xs i n).length = n + 1 := by rw [remd_length, hn]
  obtain ⟨ys, x, hz, hyl, hxe⟩ := last_of hrl
  clear hyl hxe
  have HZ := Lib.hid hz
  have H := Lib.hid h
  by_cases hin : i = n
  · have e0 : remd xs i n = xs := by unfold remd; rw [if_pos hin]
    have hx : Pile w A M v (ys ++ [x]) := by rw [← hz, e0]; exact h
    have HX := Lib.hid hx
    subst hin
    clear hn hi hrl hz e0 hx h
    go_enter Try.func23, Try.ntmps23
    go_wp2_with fail
    go_at_call 48
    refine LN.out.mono ?_
    rintro e w1 ⟨rfl, rfl⟩
    go_wp2_with fail
    go_at_call 44
    refine (pop_walk HX.out).mono ?_
    rintro e w4 ⟨rfl, v4, hs4⟩
    have HS4 := Lib.hid hs4
    clear hs4
    go_wp2_with fail
    go_ret
    exact ⟨ys, x, v4, HZ.out, rfl, HS4.out⟩
  · have hd : remd xs i n = if i < (down (n - i) (swp xs i n) i n).2 then (down (n - i) (swp xs i n) i n).1 else up (i + 1) (down (n - i) (swp xs i n) i n).1 i := by unfold remd; rw [if_neg hin]
    have HD := Lib.hid hd
    have e1 : ¬ (n : Int) = (i : Int) := by omega
    have hdl := down_length (n - i) (swp xs i n) i n
    rw [swp_length, hn] at hdl
    have HDL := Lib.hid hdl
    have DN := Lib.hid (fun (w2 : World) (hs : Step w w2 A M v v (swp xs i n)) => down_walk hs.pile i n (by omega) (by rw [swp_length]; omega))
    generalize (down (n - i) (swp xs i n) i n).2 = r at *
    generalize (down (n - i) (swp xs i n) i n).1 = zs at *
    have HIN := Lib.hid hin
    clear hn hi hrl hz h hd hdl hin
    go_enter Try.func23, Try.ntmps23
    go_wp2_with fail
    go_at_call 48
    refine LN.out.mono ?_
    rintro e w1 ⟨rfl, rfl⟩
    go_wp2_with fail
    go_at_call 46
    refine SW.out.mono ?_
    rintro e w2 ⟨rfl, hs⟩
    have HS := Lib.hid hs
    clear hs
    go_wp2_with fail
    go_at_call 25
    by_cases hr : i < r
    · refine (DN.out _ HS.out).mono ?_
      rintro e w3 ⟨rfl, hs3⟩
      rw [decide_eq_true hr]
      have hd := HD.out
      rw [if_pos hr, HZ.out] at hd
      rw [← hd] at hs3
      have HS3 := Lib.hid hs3
      clear hs3 hd
      go_wp2_with fail
      go_at_call 44
      refine (pop_walk HS3.out.pile).mono ?_
      rintro e w4 ⟨rfl, v4, hs4⟩
      have HS4 := Lib.hid hs4
      clear hs4
      go_wp2_with fail
      go_ret
      exact ⟨ys, x, v4, HZ.out, rfl, (HS.out.trans HS3.out).trans HS4.out⟩
    · refine (DN.out _ HS.out).mono ?_
      rintro e w3 ⟨rfl, hs3⟩
      rw [decide_eq_false hr]
      have HS3 := Lib.hid hs3
      clear hs3
      go_wp2_with fail
      go_at_call 26
      refine (up_walk HS3.out.pile i (by have := HDL.out; have := HI.out; omega)).mono ?_
      rintro e w5 ⟨rfl, hs5⟩
      have hd := HD.out
      rw [if_neg hr, HZ.out] at hd
      rw [← hd] at hs5
      have HS5 := Lib.hid hs5
      clear hs5 hd
      go_wp2_with fail
      go_at_call 44
      refine (pop_walk HS5.out.pile).mono ?_
      rintro e w4 ⟨rfl, v4, hs4⟩
      have HS4 := Lib.hid hs4
      clear hs4
      go_wp2_with fail
      go_ret
      exact ⟨ys, x, v4, HZ.out, rfl, ((HS.out.trans HS3.out).trans HS5.out).trans HS4.out⟩
end Go.Proofs.Ytphdmhjmaecddaa
