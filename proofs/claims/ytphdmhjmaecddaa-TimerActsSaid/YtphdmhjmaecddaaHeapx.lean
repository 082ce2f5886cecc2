/-
container/heap's Fix, Push, Pop, Remove over a pile, walked.
-/
import Derived.Test.YtphdmhjmaecddaaHeapw
import Derived.Test.YtphdmhjmaecddaaProg
import Derived.Below
import Derived.Deep.Draws
import Derived.Deep.AppendLies
import Derived.Maps.AppendAt
import Derived.OwnWalk
import Derived.Laws.BytesArg
import Derived.Laws.MakeOwn
import Derived.Laws.OwnMore
import Derived.Deep.OwnRows
import Derived.Tactics
import Derived.Lib.ConvBytes
import Derived.Laws.Slices
import Derived.WalkKit
import Derived.KernelRfl
import Derived.RowKit3
import Derived.Deep.LoopGhost
import Derived.Deep.QuietTactic
import Derived.BigQuiet
import Derived.WideLaws
import Derived.Deep.DeepCutAuto
import Derived.Deep.CutBlock
import Derived.Deep.RegionHeld3
import Derived.Laws.Rows
import Derived.Lib.AppendStr
import Derived.ArgAppend
import Derived.Laws.IdiomCopy
import Derived.OrdersHeld
import Derived.Laws.BitsLemmas
import Derived.RowKit
import Derived.Test.YtphdmhjmaecddaaWWords
import Derived.Test.YtphdmhjmaecddaaWLast
import Derived.Test.YtphdmhjmaecddaaWTab
import Derived.Test.YtphdmhjmaecddaaWFour
import Derived.Test.YtphdmhjmaecddaaWQPut
import Derived.Test.YtphdmhjmaecddaaWApart
import Derived.Test.YtphdmhjmaecddaaWArr
import Derived.Test.YtphdmhjmaecddaaWZeros
import Derived.Test.YtphdmhjmaecddaaWFoot
import Derived.Test.YtphdmhjmaecddaaWKept
import Derived.Test.YtphdmhjmaecddaaWShare
import Derived.Test.YtphdmhjmaecddaaWN
import Derived.Test.YtphdmhjmaecddaaWFootNe
import Derived.Test.YtphdmhjmaecddaaWAt
import Derived.Test.YtphdmhjmaecddaaWEqStruct
import Derived.Test.YtphdmhjmaecddaaWRepsOne
import Derived.Test.YtphdmhjmaecddaaWInv
import Derived.Test.YtphdmhjmaecddaaWInvWords
import Derived.Test.YtphdmhjmaecddaaWGuard
import Derived.Test.YtphdmhjmaecddaaWNEv
import Derived.Test.YtphdmhjmaecddaaWMore
import Derived.Maps.Own
import Derived.Maps.OwnOps
import Derived.Maps.OwnSet
import Derived.Maps.Views
import Derived.BigRegion
import Derived.StillTailTactics
import Derived.Lib.Hide
namespace Go.Proofs.Ytphdmhjmaecddaa
open Go.RowKit Go.Proofs.YtphdmhjmaecddaaW.PrintWords Go.Proofs.YtphdmhjmaecddaaW.PrintLast Go.Proofs.YtphdmhjmaecddaaW.PrintMore


set_option maxRecDepth 100000 in
set_option maxHeartbeats 4000000 in
theorem fix_walk {w : World} {A M : Nat} {v : Value} {xs : List Tm} (h : Pile w A M v xs) (i : Nat) (hi : i < xs.length) :
    Calls Try.prog 20 #[.iface 61 (.pointer (some ⟨A, 0, none⟩)), .int .i64 i] w fun e w' => e = .returned (.tuple #[]) ∧
      Step w w' A M v v (if i < (down (xs.length - i) xs i xs.length).2 then (down (xs.length - i) xs i xs.length).1 else up (i + 1) (down (xs.length - i) xs i xs.length).1 i) := by
  have kn := m_Len
  have DN := Lib.hid (down_walk h i xs.length hi (Nat.le_refl _))
  have hl := down_length (xs.length - i) xs i xs.length
  generalize (down (xs.length - i) xs i xs.length).2 = r at *
  generalize (down (xs.length - i) xs i xs.length).1 = ys at *
  have LN := Lib.hid (len_pile h)
  have HL := Lib.hid hl
  clear hl
  go_enter Try.func20, Try.ntmps20
  go_wp2_with fail
  go_at_call 48
  refine LN.out.mono ?_
  rintro e w1 ⟨rfl, rfl⟩
  go_wp2_with fail
  go_at_call 25
  by_cases hr : i < r
  · refine DN.out.mono ?_
    rintro e w2 ⟨rfl, hs⟩
    rw [decide_eq_true hr]
    go_wp2_with fail
    first | go_end0 | ((try simp only [Exit.inBlock, Exit.then]); refine bodyPost_ret (results_none rfl _ _ _) rfl ?_)
    exact ⟨by first | rfl | simp, by first | exact hs | (rw [if_pos hr]; exact hs)⟩
  · refine DN.out.mono ?_
    rintro e w2 ⟨rfl, hs⟩
    rw [decide_eq_false hr]
    go_wp2_with fail
    go_at_call 26
    refine (up_walk hs.pile i (by have := HL.out; omega)).mono ?_
    rintro e w3 ⟨rfl, hs3⟩
    go_wp2_with fail
    first | go_end0 | ((try simp only [Exit.inBlock, Exit.then]); refine bodyPost_ret (results_none rfl _ _ _) rfl ?_)
    exact ⟨by first | rfl | simp, by first | exact hs.trans hs3 | (rw [if_neg hr]; exact hs.trans hs3)⟩

set_option maxRecDepth 100000 in
set_option maxHeartbeats 4000000 in
theorem hpush_walk {w : World} {A M : Nat} {v : Value} {xs : List Tm} (h : Pile w A M v xs) (x : Tm) (hx : ∀ y ∈ xs, y.1 ≠ x.1) (hk : ok64 x.1) (hat : ok64 x.2) (hn : xs.length < 256) :
    Calls Try.prog 21 #[.iface 61 (.pointer (some ⟨A, 0, none⟩)), .iface 59 (.agg #[.int .i64 x.1, .int .i64 x.2])] w fun e w' => e = .returned (.tuple #[]) ∧ ∃ v', Step w w' A M v v' (up (xs.length + 1) (xs ++ [x]) xs.length) := by
  have kn := m_Len
  have kp := m_Push
  have PU := Lib.hid (push_walk h x hx hk hat hn)
  go_enter Try.func21, Try.ntmps21
  go_wp2_with fail
  go_at_call 45
  refine PU.out.mono ?_
  rintro e w1 ⟨rfl, v1, hs⟩
  go_wp2_with fail
  go_at_call 48
  refine (len_pile hs.pile).mono ?_
  rintro e w2 ⟨rfl, rfl⟩
  have hl : (xs ++ [x]).length = xs.length + 1 := by simp
  rw [hl]
  go_wp2_with fail
  go_at_call 26
  refine (up_walk hs.pile xs.length (by rw [hl]; omega)).mono ?_
  rintro e w3 ⟨rfl, hs3⟩
  go_wp2_with fail
  first | go_end0 | ((try simp only [Exit.inBlock, Exit.then]); refine bodyPost_ret (results_none rfl _ _ _) rfl ?_)
  exact ⟨by first | rfl | simp, _, hs.trans hs3⟩

/-- Where there is nothing to go down through. -/
theorem down_zero (v : Value) (w : World) : Calls Try.prog 25 #[v, .int .i64 0, .int .i64 0] w fun e w' => e = .returned (.bool false) ∧ w = w' := by
  go_enter Try.func25, Try.ntmps25
  go_wp2_with fail
  go_loopg [7] 1 (fun _ v7 wr => v7 = .int .i64 0 ∧ wr = w)
  case atStart => exact ⟨rfl, rfl⟩
  case round =>
    obtain ⟨rfl, rfl⟩ := hrel
    go_wp2_with fail
    go_ret
    exact ⟨rfl, rfl⟩

theorem last_of {xs : List Tm} {n : Nat} (h : xs.length = n + 1) : ∃ ys x, xs = ys ++ [x] ∧ ys.length = n ∧ x = at' xs n := by
  have hne : xs ≠ [] := by intro e; rw [e] at h; simp at h
  refine ⟨xs.dropLast, xs.getLast hne, (List.dropLast_concat_getLast hne).symm, by simp [h], ?_⟩
  rw [at_eq (by omega), List.getLast_eq_getElem]
  congr 1
  omega

set_option maxRecDepth 100000 in
set_option maxHeartbeats 4000000 in
theorem hpop_walk {w : World} {A M : Nat} {v : Value} {xs : List Tm} (h : Pile w A M v xs) (n : Nat) (hn : xs.length = n + 1) :
    Calls Try.prog 22 #[.iface 61 (.pointer (some ⟨A, 0, none⟩))] w fun e w' => ∃ ys x v', (down n (swp xs 0 n) 0 n).1 = ys ++ [x] ∧ e = .returned (.iface 59 (.agg #[.int .i64 x.1, .int .i64 x.2])) ∧ Step w w' A M v v' ys := by
  have kn := m_Len
  have ks := m_Swap
  have kp := m_Pop
  have LN := Lib.hid (len_pile h)
  have SW := Lib.hid (swap_walk h 0 n (by omega) (by omega))
  have hsl : (swp xs 0 n).length = n + 1 := by rw [swp_length, hn]
  have HSL := Lib.hid hsl
  rw [hn] at LN
  have hn256 : n < 256 := by have := h.few; omega
  have HN := Lib.hid hn
  clear hn hsl
  go_enter Try.func22, Try.ntmps22
  go_wp2_with fail
  go_at_call 48
  refine LN.out.mono ?_
  rintro e w1 ⟨rfl, rfl⟩
  go_wp2_with fail
  go_at_call 46
  refine SW.out.mono ?_
  rintro e w2 ⟨rfl, hs⟩
  have HS := Lib.hid hs
  clear hs
  go_wp2_with fail
  by_cases h0 : n = 0
  · subst h0
    refine (down_zero _ _).mono ?_
    rintro e w3 ⟨rfl, rfl⟩
    obtain ⟨ys, x, hz, hyl, hxe⟩ := last_of HSL.out
    have hs := HS.out
    rw [hz] at hs
    have HSS := Lib.hid hs
    have HZ := Lib.hid hz
    clear hs hz hyl hxe
    go_wp2_with fail
    go_at_call 44
    refine (pop_walk HSS.out.pile).mono ?_
    rintro e w4 ⟨rfl, v4, hs4⟩
    have HS4 := Lib.hid hs4
    clear hs4
    go_wp2_with fail
    go_ret
    exact ⟨ys, x, v4, HZ.out, rfl, HSS.out.trans HS4.out⟩
  · refine (down_walk HS.out.pile 0 n (by omega) (by have := HSL.out; omega)).mono ?_
    rintro e w3 ⟨rfl, hs3⟩
    rw [Nat.sub_zero] at hs3
    have hl := down_length n (swp xs 0 n) 0 n
    rw [HSL.out] at hl
    obtain ⟨ys, x, hz, hyl, hxe⟩ := last_of hl
    rw [hz] at hs3
    have HS3 := Lib.hid hs3
    have HZ := Lib.hid hz
    clear hs3 hz hyl hl hxe
    go_wp2_with fail
    go_at_call 44
    refine (pop_walk HS3.out.pile).mono ?_
    rintro e w4 ⟨rfl, v4, hs4⟩
    have HS4 := Lib.hid hs4
    clear hs4
    go_wp2_with fail
    go_ret
    exact ⟨ys, x, v4, HZ.out, rfl, (HS.out.trans HS3.out).trans HS4.out⟩
end Go.Proofs.Ytphdmhjmaecddaa
