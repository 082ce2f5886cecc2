/-
container/heap's functions over a pile, walked.
-/
import Derived.Test.YtphdmhjmaecddaaPush
import Derived.Test.YtphdmhjmaecddaaSwap
import Derived.Test.YtphdmhjmaecddaaPile
import Derived.Test.YtphdmhjmaecddaaProg
import Derived.Below
import Derived.Deep.Draws
import Derived.Deep.AppendLies
import Derived.Maps.AppendAt
import Derived.OwnWalk
import Derived.Laws.BytesArg
import Derived.Laws.MakeOwn
import Derived.Laws.OwnMore
import Derived.Deep.OwnRows
import Derived.Tactics
import Derived.Lib.ConvBytes
import Derived.Laws.Slices
import Derived.WalkKit
import Derived.KernelRfl
import Derived.RowKit3
import Derived.Deep.LoopGhost
import Derived.Deep.QuietTactic
import Derived.BigQuiet
import Derived.WideLaws
import Derived.Deep.DeepCutAuto
import Derived.Deep.CutBlock
import Derived.Deep.RegionHeld3
import Derived.Laws.Rows
import Derived.Lib.AppendStr
import Derived.ArgAppend
import Derived.Laws.IdiomCopy
import Derived.OrdersHeld
import Derived.Laws.BitsLemmas
import Derived.RowKit
import Derived.Test.YtphdmhjmaecddaaWWords
import Derived.Test.YtphdmhjmaecddaaWLast
import Derived.Test.YtphdmhjmaecddaaWTab
import Derived.Test.YtphdmhjmaecddaaWFour
import Derived.Test.YtphdmhjmaecddaaWQPut
import Derived.Test.YtphdmhjmaecddaaWApart
import Derived.Test.YtphdmhjmaecddaaWArr
import Derived.Test.YtphdmhjmaecddaaWZeros
import Derived.Test.YtphdmhjmaecddaaWFoot
import Derived.Test.YtphdmhjmaecddaaWKept
import Derived.Test.YtphdmhjmaecddaaWShare
import Derived.Test.YtphdmhjmaecddaaWN
import Derived.Test.YtphdmhjmaecddaaWFootNe
import Derived.Test.YtphdmhjmaecddaaWAt
import Derived.Test.YtphdmhjmaecddaaWEqStruct
import Derived.Test.YtphdmhjmaecddaaWRepsOne
import Derived.Test.YtphdmhjmaecddaaWInv
import Derived.Test.YtphdmhjmaecddaaWInvWords
import Derived.Test.YtphdmhjmaecddaaWGuard
import Derived.Test.YtphdmhjmaecddaaWNEv
import Derived.Test.YtphdmhjmaecddaaWMore
import Derived.Maps.Own
import Derived.Maps.OwnOps
import Derived.Maps.OwnSet
import Derived.Maps.Views
import Derived.BigRegion
import Derived.StillTailTactics
import Derived.Lib.Hide
namespace Go.Proofs.Ytphdmhjmaecddaa
open Go.RowKit Go.Proofs.YtphdmhjmaecddaaW.PrintWords Go.Proofs.YtphdmhjmaecddaaW.PrintLast Go.Proofs.YtphdmhjmaecddaaW.PrintMore

theorem m_Less (a : Addr) (w : World) : (method 188 61 (.pointer (some a)) "Less").run Try.prog w = .ok (43, .pointer (some a)) w := by kernel_rfl
theorem m_Pop (a : Addr) (w : World) : (method 188 61 (.pointer (some a)) "Pop").run Try.prog w = .ok (44, .pointer (some a)) w := by kernel_rfl
theorem m_Push (a : Addr) (w : World) : (method 188 61 (.pointer (some a)) "Push").run Try.prog w = .ok (45, .pointer (some a)) w := by kernel_rfl
theorem m_Swap (a : Addr) (w : World) : (method 188 61 (.pointer (some a)) "Swap").run Try.prog w = .ok (46, .pointer (some a)) w := by kernel_rfl
theorem m_Len (a : Addr) (w : World) : (method 188 61 (.pointer (some a)) "Len").run Try.prog w = .ok (48, .pointer (some a)) w := by kernel_rfl
theorem less_at {w : World} {A M : Nat} {v : Value} {xs : List Tm} (h : Pile w A M v xs) (i k : Nat) (hi : i < xs.length) (hk : k < xs.length) :
    Calls Try.prog 43 #[.pointer (some ⟨A, 0, none⟩), .int .i64 i, .int .i64 k] w fun e w' => e = .returned (.bool (lt (at' xs i) (at' xs k))) ∧ Below w.heap.size w w' := by
  rw [at_eq hi, at_eq hk]
  exact less_pile h i k hi hk

set_option maxRecDepth 100000 in
set_option maxHeartbeats 4000000 in
theorem up_walk {w : World} {A M : Nat} {v : Value} {xs : List Tm} (h : Pile w A M v xs) (j : Nat) (hj : j < xs.length) :
    Calls Try.prog 26 #[.iface 61 (.pointer (some ⟨A, 0, none⟩)), .int .i64 j] w fun e w' => e = .returned (.tuple #[]) ∧ Step w w' A M v v (up (j + 1) xs j) := by
  have kl := m_Less
  have ks := m_Swap
  go_enter Try.func26, Try.ntmps26
  go_wp2_with fail
  go_loopg [1, 4] (j + 1) (fun m v1 v4 wr => ∃ (q : Nat) (ys : List Tm), v1 = .int .i64 q ∧ q < m ∧ Aside (Step w wr A M v v ys ∧ q < ys.length ∧ up (j + 1) xs j = up m ys q))
  case atStart => exact ⟨j, xs, rfl, Nat.lt_succ_self _, Step.refl h, hj, rfl⟩
  case round =>
    obtain ⟨q, ys, rfl, hqm, hst⟩ := hrel
    have hdiv : Int.tdiv ((q : Int) - 1) 2 = (((q - 1) / 2 : Nat) : Int) := by
      rcases Nat.eq_zero_or_pos q with rfl | hq
      · rfl
      · rw [Int.tdiv_eq_ediv_of_nonneg (by omega)]; omega
    have hq256 : q < 256 := by have := (Aside.out hst).1.pile.few; have := (Aside.out hst).2.1; omega
    by_cases e : (q - 1) / 2 = q
    · go_wp2_with fail
      first | go_end0 | ((try simp only [Exit.inBlock, Exit.then]); refine bodyPost_ret (results_none rfl _ _ _) rfl ?_)
      refine ⟨by first | rfl | simp, ?_⟩
      obtain ⟨g, rfl⟩ : ∃ g, gk = g + 1 := ⟨gk - 1, by omega⟩
      rw [(Aside.out hst).2.2, up, if_pos (.inl e)]
      exact (Aside.out hst).1
    · have hq0 : 0 < q := by omega
      have hip : (q - 1) / 2 < ys.length := by have := (Aside.out hst).2.1; omega
      have LE := Lib.hid (less_at (Aside.out hst).1.pile q ((q - 1) / 2) (Aside.out hst).2.1 hip)
      have SW := Lib.hid (fun (w1 : World) (hb : Below wr.heap.size wr w1) => swap_walk ((Aside.out hst).1.pile.below hb) ((q - 1) / 2) q hip (Aside.out hst).2.1)
      have HST := Lib.hid (Aside.out hst)
      have HQM := Lib.hid hqm
      clear hst hip hqm
      have hup : gk ≠ 0 → up gk ys q = if lt (at' ys q) (at' ys ((q - 1) / 2)) = false then ys else up (gk - 1) (swp ys ((q - 1) / 2) q) ((q - 1) / 2) := by
        intro hg
        obtain ⟨g, rfl⟩ : ∃ g, gk = g + 1 := ⟨gk - 1, by omega⟩
        rw [up]
        simp only [e, false_or, Nat.add_sub_cancel]
      have HUP := Lib.hid (hup (by have := HQM.out; omega))
      clear hup
      have hiq : (q - 1) / 2 < q := by omega
      generalize (q - 1) / 2 = i at *
      generalize lt (at' ys q) (at' ys i) = b at *
      have hne : ¬ (i : Int) = (q : Int) := by omega
      cases b with
      | false =>
        go_wp2_with (go_at_call 43; refine LE.out.mono ?_; rintro e w1 ⟨rfl, hb1⟩)
        first | go_end0 | ((try simp only [Exit.inBlock, Exit.then]); refine bodyPost_ret (results_none rfl _ _ _) rfl ?_)
        refine ⟨by first | rfl | simp, ?_⟩
        rw [HST.out.2.2, HUP.out, if_pos trivial]
        exact HST.out.1.then_below hb1
      | true =>
        go_wp2_with (first | (go_at_call 43; refine LE.out.mono ?_; rintro e w1 ⟨rfl, hb1⟩) | (go_at_call 46; refine (SW.out _ hb1).mono ?_; rintro e w2 ⟨rfl, hs2⟩))
        go_roundg (gk - 1)
        case measure => have := HQM.out; omega
        case rel =>
          refine ⟨i, swp ys i q, rfl, by have := HQM.out; omega, (HST.out.1.then_below hb1).trans hs2, by rw [swp_length]; have := HST.out.2.1; omega, ?_⟩
          rw [HST.out.2.2, HUP.out, if_neg (by simp)]

theorem less_int {w : World} {A M : Nat} {v : Value} {xs : List Tm} (h : Pile w A M v xs) (i k : Nat) (hi : i < xs.length) (hk : k < xs.length) {I K : Int} (eI : (i : Int) = I) (eK : (k : Int) = K) :
    Calls Try.prog 43 #[.pointer (some ⟨A, 0, none⟩), .int .i64 I, .int .i64 K] w fun e w' => e = .returned (.bool (lt (at' xs i) (at' xs k))) ∧ Below w.heap.size w w' := by
  subst eI eK
  exact less_at h i k hi hk
theorem swap_int {w : World} {A M : Nat} {v : Value} {xs : List Tm} (h : Pile w A M v xs) (i k : Nat) (hi : i < xs.length) (hk : k < xs.length) {I K : Int} (eI : (i : Int) = I) (eK : (k : Int) = K) :
    Calls Try.prog 46 #[.pointer (some ⟨A, 0, none⟩), .int .i64 I, .int .i64 K] w fun e w' => e = .returned (.tuple #[]) ∧ Step w w' A M v v (swp xs i k) := by
  subst eI eK
  exact swap_walk h i k hi hk

set_option maxRecDepth 100000 in
set_option maxHeartbeats 4000000 in
theorem down_walk {w : World} {A M : Nat} {v : Value} {xs : List Tm} (h : Pile w A M v xs) (i n : Nat) (hi : i < n) (hn : n ≤ xs.length) :
    Calls Try.prog 25 #[.iface 61 (.pointer (some ⟨A, 0, none⟩)), .int .i64 i, .int .i64 n] w fun e w' => e = .returned (.bool (decide (i < (down (n - i) xs i n).2))) ∧ Step w w' A M v v (down (n - i) xs i n).1 := by
  have kl := m_Less
  have ks := m_Swap
  have hn256 : n ≤ 256 := Nat.le_trans hn h.few
  go_enter Try.func25, Try.ntmps25
  go_wp2_with fail
  go_loopg [7] (n - i) (fun m v7 wr => ∃ (q : Nat) (ys : List Tm), v7 = .int .i64 q ∧ n - q ≤ m ∧ Aside (Step w wr A M v v ys ∧ q < n ∧ n ≤ ys.length ∧ down (n - i) xs i n = down m ys q n))
  case atStart => exact ⟨i, xs, rfl, Nat.le_refl _, Step.refl h, hi, hn, rfl⟩
  case round =>
    obtain ⟨q, ys, rfl, hqm, hst⟩ := hrel
    have hqn : q < n := (Aside.out hst).2.1
    have HST := Lib.hid (Aside.out hst)
    have HQM := Lib.hid hqm
    have hdn : down gk ys q n = if 2 * q + 1 < n then (if lt (at' ys (kid ys q n)) (at' ys q) = true then down (gk - 1) (swp ys q (kid ys q n)) (kid ys q n) n else (ys, q)) else (ys, q) := by
      obtain ⟨g, rfl⟩ : ∃ g, gk = g + 1 := ⟨gk - 1, by omega⟩
      rw [down]
      simp only [Nat.add_sub_cancel]
    clear hst hqm
    by_cases c1 : 2 * q + 1 < n
    · rw [if_pos c1] at hdn
      have HK := Lib.hid (kid_le (xs := ys) c1)
      have d1 : 2 * (q : Int) + 1 < (n : Int) := by omega
      by_cases c2 : 2 * q + 2 < n
      · have LE1 := Lib.hid (less_int HST.out.1.pile (2 * q + 2) (2 * q + 1) (by have := HST.out.2.2.1; omega) (by have := HST.out.2.2.1; omega) (I := 2 * (q : Int) + 2) (K := 2 * (q : Int) + 1) (by omega) (by omega))
        have d2 : 2 * (q : Int) + 2 < (n : Int) := by omega
        have hkid : kid ys q n = if lt (at' ys (2 * q + 2)) (at' ys (2 * q + 1)) = true then 2 * q + 2 else 2 * q + 1 := by unfold kid; simp only [c2, true_and]
        generalize lt (at' ys (2 * q + 2)) (at' ys (2 * q + 1)) = b1 at *
        cases b1 with
        | true =>
          rw [if_pos rfl] at hkid
          rw [hkid] at hdn HK
          have SW := Lib.hid (fun (w1 : World) (hb : Below wr.heap.size wr w1) => swap_int (HST.out.1.pile.below hb) q (2 * q + 2) (by have := HST.out.2.2.1; omega) (by have := HST.out.2.2.1; have := HK.out.1; omega) (I := (q : Int)) (K := 2 * (q : Int) + 2) rfl (by omega))
          have LE2 := Lib.hid (fun (w1 : World) (hb : Below wr.heap.size wr w1) => less_int (HST.out.1.pile.below hb) (2 * q + 2) q (by have := HST.out.2.2.1; have := HK.out.1; omega) (by have := HST.out.2.2.1; omega) (I := 2 * (q : Int) + 2) (K := (q : Int)) (by omega) rfl)
          have HDN := Lib.hid hdn
          clear hdn hkid
          generalize lt (at' ys (2 * q + 2)) (at' ys q) = b2 at *
          cases b2 with
          | false =>
            go_wp2_with fail
            go_at_call 43
            refine LE1.out.mono ?_
            rintro e w1 ⟨rfl, hb1⟩
            go_wp2_with fail
            go_at_call 43
            refine (LE2.out _ hb1).mono ?_
            rintro e w2 ⟨rfl, hb2⟩
            go_wp2_with fail
            go_ret
            have hd := HDN.out
            rw [if_neg (by simp)] at hd
            rw [HST.out.2.2.2, hd]
            exact ⟨by simp, (HST.out.1.then_below hb1).then_below hb2⟩
          | true =>
            go_wp2_with fail
            go_at_call 43
            refine LE1.out.mono ?_
            rintro e w1 ⟨rfl, hb1⟩
            go_wp2_with fail
            go_at_call 43
            refine (LE2.out _ hb1).mono ?_
            rintro e w2 ⟨rfl, hb2⟩
            go_wp2_with fail
            go_at_call 46
            refine (SW.out _ (below_step hb1 hb2)).mono ?_
            rintro e w3 ⟨rfl, hs3⟩
            go_wp2_with fail
            go_roundg (gk - 1)
            case measure => have := HQM.out; omega
            case rel =>
              have hd := HDN.out
              rw [if_pos trivial] at hd
              exact ⟨2 * q + 2, swp ys q (2 * q + 2), by go_num, by have := HQM.out; omega, ((HST.out.1.then_below hb1).then_below hb2).trans hs3, by omega, by rw [swp_length]; exact HST.out.2.2.1, by rw [HST.out.2.2.2, hd]⟩
        | false =>
          rw [if_neg (by simp)] at hkid
          rw [hkid] at hdn HK
          have SW := Lib.hid (fun (w1 : World) (hb : Below wr.heap.size wr w1) => swap_int (HST.out.1.pile.below hb) q (2 * q + 1) (by have := HST.out.2.2.1; omega) (by have := HST.out.2.2.1; have := HK.out.1; omega) (I := (q : Int)) (K := 2 * (q : Int) + 1) rfl (by omega))
          have LE2 := Lib.hid (fun (w1 : World) (hb : Below wr.heap.size wr w1) => less_int (HST.out.1.pile.below hb) (2 * q + 1) q (by have := HST.out.2.2.1; have := HK.out.1; omega) (by have := HST.out.2.2.1; omega) (I := 2 * (q : Int) + 1) (K := (q : Int)) (by omega) rfl)
          have HDN := Lib.hid hdn
          clear hdn hkid
          generalize lt (at' ys (2 * q + 1)) (at' ys q) = b2 at *
          cases b2 with
          | false =>
            go_wp2_with fail
            go_at_call 43
            refine LE1.out.mono ?_
            rintro e w1 ⟨rfl, hb1⟩
            go_wp2_with fail
            go_at_call 43
            refine (LE2.out _ hb1).mono ?_
            rintro e w2 ⟨rfl, hb2⟩
            go_wp2_with fail
            go_ret
            have hd := HDN.out
            rw [if_neg (by simp)] at hd
            rw [HST.out.2.2.2, hd]
            exact ⟨by simp, (HST.out.1.then_below hb1).then_below hb2⟩
          | true =>
            go_wp2_with fail
            go_at_call 43
            refine LE1.out.mono ?_
            rintro e w1 ⟨rfl, hb1⟩
            go_wp2_with fail
            go_at_call 43
            refine (LE2.out _ hb1).mono ?_
            rintro e w2 ⟨rfl, hb2⟩
            go_wp2_with fail
            go_at_call 46
            refine (SW.out _ (below_step hb1 hb2)).mono ?_
            rintro e w3 ⟨rfl, hs3⟩
            go_wp2_with fail
            go_roundg (gk - 1)
            case measure => have := HQM.out; omega
            case rel =>
              have hd := HDN.out
              rw [if_pos trivial] at hd
              exact ⟨2 * q + 1, swp ys q (2 * q + 1), by go_num, by have := HQM.out; omega, ((HST.out.1.then_below hb1).then_below hb2).trans hs3, by omega, by rw [swp_length]; exact HST.out.2.2.1, by rw [HST.out.2.2.2, hd]⟩
      · have d2 : ¬ 2 * (q : Int) + 2 < (n : Int) := by omega
        have hkid : kid ys q n = 2 * q + 1 := by unfold kid; rw [if_neg (fun e => c2 e.1)]
        have hb0 : Below wr.heap.size wr wr := Below.refl _ _
        rw [hkid] at hdn HK
        have SW := Lib.hid (fun (w1 : World) (hb : Below wr.heap.size wr w1) => swap_int (HST.out.1.pile.below hb) q (2 * q + 1) (by have := HST.out.2.2.1; omega) (by have := HST.out.2.2.1; have := HK.out.1; omega) (I := (q : Int)) (K := 2 * (q : Int) + 1) rfl (by omega))
        have LE2 := Lib.hid (fun (w1 : World) (hb : Below wr.heap.size wr w1) => less_int (HST.out.1.pile.below hb) (2 * q + 1) q (by have := HST.out.2.2.1; have := HK.out.1; omega) (by have := HST.out.2.2.1; omega) (I := 2 * (q : Int) + 1) (K := (q : Int)) (by omega) rfl)
        have HDN := Lib.hid hdn
        clear hdn hkid
        generalize lt (at' ys (2 * q + 1)) (at' ys q) = b2 at *
        cases b2 with
        | false =>
          go_wp2_with fail
          go_at_call 43
          refine (LE2.out _ hb0).mono ?_
          rintro e w2 ⟨rfl, hb2⟩
          go_wp2_with fail
          go_ret
          have hd := HDN.out
          rw [if_neg (by simp)] at hd
          rw [HST.out.2.2.2, hd]
          exact ⟨by simp, (HST.out.1.then_below hb0).then_below hb2⟩
        | true =>
          go_wp2_with fail
          go_at_call 43
          refine (LE2.out _ hb0).mono ?_
          rintro e w2 ⟨rfl, hb2⟩
          go_wp2_with fail
          go_at_call 46
          refine (SW.out _ (below_step hb0 hb2)).mono ?_
          rintro e w3 ⟨rfl, hs3⟩
          go_wp2_with fail
          go_roundg (gk - 1)
          case measure => have := HQM.out; omega
          case rel =>
            have hd := HDN.out
            rw [if_pos trivial] at hd
            exact ⟨2 * q + 1, swp ys q (2 * q + 1), by go_num, by have := HQM.out; omega, ((HST.out.1.then_below hb0).then_below hb2).trans hs3, by omega, by rw [swp_length]; exact HST.out.2.2.1, by rw [HST.out.2.2.2, hd]⟩
    · rw [if_neg c1] at hdn
      have d1 : ¬ 2 * (q : Int) + 1 < (n : Int) := by omega
      go_wp2_with fail
      go_ret
      rw [HST.out.2.2.2, hdn]
      exact ⟨by simp, HST.out.1⟩
end Go.Proofs.Ytphdmhjmaecddaa
