/-
timers.pile's Swap, walked.
-/
import Derived.Test.YtphdmhjmaecddaaObj
import Derived.Test.YtphdmhjmaecddaaProg
import Derived.Below
import Derived.Deep.Draws
import Derived.Deep.AppendLies
import Derived.Maps.AppendAt
import Derived.OwnWalk
import Derived.Laws.BytesArg
import Derived.Laws.MakeOwn
import Derived.Laws.OwnMore
import Derived.Deep.OwnRows
import Derived.Tactics
import Derived.Lib.ConvBytes
import Derived.Laws.Slices
import Derived.WalkKit
import Derived.KernelRfl
import Derived.RowKit3
import Derived.Deep.LoopGhost
import Derived.Deep.QuietTactic
import Derived.BigQuiet
import Derived.WideLaws
import Derived.Deep.DeepCutAuto
import Derived.Deep.CutBlock
import Derived.Deep.RegionHeld3
import Derived.Laws.Rows
import Derived.Lib.AppendStr
import Derived.ArgAppend
import Derived.Laws.IdiomCopy
import Derived.OrdersHeld
import Derived.Laws.BitsLemmas
import Derived.RowKit
import Derived.Test.YtphdmhjmaecddaaWWords
import Derived.Test.YtphdmhjmaecddaaWLast
import Derived.Test.YtphdmhjmaecddaaWTab
import Derived.Test.YtphdmhjmaecddaaWFour
import Derived.Test.YtphdmhjmaecddaaWQPut
import Derived.Test.YtphdmhjmaecddaaWApart
import Derived.Test.YtphdmhjmaecddaaWArr
import Derived.Test.YtphdmhjmaecddaaWZeros
import Derived.Test.YtphdmhjmaecddaaWFoot
import Derived.Test.YtphdmhjmaecddaaWKept
import Derived.Test.YtphdmhjmaecddaaWShare
import Derived.Test.YtphdmhjmaecddaaWN
import Derived.Test.YtphdmhjmaecddaaWFootNe
import Derived.Test.YtphdmhjmaecddaaWAt
import Derived.Test.YtphdmhjmaecddaaWEqStruct
import Derived.Test.YtphdmhjmaecddaaWRepsOne
import Derived.Test.YtphdmhjmaecddaaWInv
import Derived.Test.YtphdmhjmaecddaaWInvWords
import Derived.Test.YtphdmhjmaecddaaWGuard
import Derived.Test.YtphdmhjmaecddaaWNEv
import Derived.Test.YtphdmhjmaecddaaWMore
import Derived.Maps.Own
import Derived.Maps.OwnOps
import Derived.Maps.OwnSet
import Derived.Maps.Views
import Derived.BigRegion
import Derived.StillTailTactics
import Derived.Lib.Hide
namespace Go.Proofs.Ytphdmhjmaecddaa
open Go.RowKit Go.Proofs.YtphdmhjmaecddaaW.PrintWords Go.Proofs.YtphdmhjmaecddaaW.PrintLast Go.Proofs.YtphdmhjmaecddaaW.PrintMore

/-- What an exchange of two rows and of their places leaves. -/
theorem swap_end {w W w0 w1 w2 : World} {A M B c : Nat} {xs : List Tm} {cur : Array Value} {f : Int → Option Int} {i k : Nat} (h : Pile w A M (.slice (some ⟨B, 0, none⟩) xs.length c) xs) (hi : i < xs.length) (hk : k < xs.length)
    (hp : Pl xs f) (hnc : xs.length ≤ c) (hcm : c ≤ maxLen) (hcur : cur.size = c * 2) (htk : cur.toList.take (xs.length * 2) = flat xs)
    (hWB : W.heap[B]? = some (.cells ((((cur.setIfInBounds (i * 2) (.int .i64 (xs[k]).1)).setIfInBounds (i * 2 + 1) (.int .i64 (xs[k]).2)).setIfInBounds (k * 2) (.int .i64 (xs[i]).1)).setIfInBounds (k * 2 + 1) (.int .i64 (xs[i]).2)) 59 (0, 0)))
    (hWc : Chg w W (fun j => j = B)) (hw0 : w0 = W.drew) (hI2 : IMap w2 M xs.length (upd (upd f (xs[k]).1 (some (i : Int))) (xs[i]).1 (some (k : Int)))) (hT1 : w0.mapTurned w1 M) (hT2 : w1.mapTurned w2 M) :
    Step w w2 A M (.slice (some ⟨B, 0, none⟩) xs.length c) (.slice (some ⟨B, 0, none⟩) xs.length c) (swp xs i k) := by
  subst hw0
  have hneM : M ≠ B := fun e => h.mneB (by rw [e]; rfl)
  have hc2 : Chg W w2 (fun j => j = M) := ((Chg.drew W (fun j => j = M)).then (Chg.turned (S := fun j => j = M) hT1 rfl)).then (Chg.turned (S := fun j => j = M) hT2 rfl)
  have hB2 : w2.heap[B]? = W.heap[B]? := hc2.block B (Array.getElem?_eq_some_iff.1 hWB).1 (fun e => hneM e.symm)
  refine ⟨⟨?_, ⟨?_, .inr ⟨B, c, _, ?_, Nat.zero_le _, hB2.trans hWB, ?_, hcm, ?_, ?_⟩⟩, ⟨_, ?_, hp.swp hi hk⟩, fun x hx => h.oks x ((mem_swp hi hk).1 hx), ?_⟩, ?_, fun _ hk => .inl hk⟩
  · rw [hc2.block A (Nat.lt_of_lt_of_le (h.lt (.inl rfl)) hWc.size) (fun e => h.aneM e), hWc.block A (h.lt (.inl rfl)) (fun e => h.aneB (by rw [e]; rfl))]
    exact h.head
  · rw [flat_length, swp_length]
  · rw [swp_length]
  · rw [swp_length]; exact hnc
  · simp only [Array.size_setIfInBounds]; exact hcur
  · rw [swp_length, swp_eq hi hk, flat_set, flat_set, ← htk]
    simp only [Array.toList_setIfInBounds, List.take_set]
  · rw [swp_length]; exact hI2
  · rw [swp_length]; exact h.few
  · have h1 : Chg w W (fun j => j = B ∨ j = M) := hWc.mono (fun _ _ e => .inl e)
    refine (h1.trans hc2 (fun _ _ e => .inr e)).mono (fun j _ e => ?_)
    rcases e with e | e
    · exact .inr (.inr (by rw [e]; rfl))
    · exact .inr (.inl e)

theorem swap_cells {w W : World} {B : Nat} {cur : Array Value} {i k : Nat} {a b a2 b2 : Int} (hB : w.heap[B]? = some (.cells cur 59 (0, 0))) (hi : i * 2 + 1 < cur.size) (hk : k * 2 + 1 < cur.size) (hik : i = k → b = a)
    (hW : ((((w.setCell ⟨B, i * 2, none⟩ (.int .i64 b)).setCell ⟨B, i * 2 + 1, none⟩ (.int .i64 b2)).setCell ⟨B, k * 2, none⟩ (.int .i64 a)).setCell ⟨B, k * 2 + 1, none⟩ (.int .i64 a2)).drew = W) :
    W.heap[B]? = some (.cells ((((cur.setIfInBounds (i * 2) (.int .i64 b)).setIfInBounds (i * 2 + 1) (.int .i64 b2)).setIfInBounds (k * 2) (.int .i64 a)).setIfInBounds (k * 2 + 1) (.int .i64 a2)) 59 (0, 0)) ∧
      Chg w W (fun j => j = B) ∧ W.cell? ⟨B, i * 2, none⟩ = some (.int .i64 b) ∧ W.cell? ⟨B, k * 2, none⟩ = some (.int .i64 a) := by
  subst hW
  have h1 : (((((w.setCell ⟨B, i * 2, none⟩ (.int .i64 b)).setCell ⟨B, i * 2 + 1, none⟩ (.int .i64 b2)).setCell ⟨B, k * 2, none⟩ (.int .i64 a)).setCell ⟨B, k * 2 + 1, none⟩ (.int .i64 a2)).drew).heap[B]? = some (.cells ((((cur.setIfInBounds (i * 2) (.int .i64 b)).setIfInBounds (i * 2 + 1) (.int .i64 b2)).setIfInBounds (k * 2) (.int .i64 a)).setIfInBounds (k * 2 + 1) (.int .i64 a2)) 59 (0, 0)) :=
    heap_setCell_same _ _ _ _ _ _ (heap_setCell_same _ _ _ _ _ _ (heap_setCell_same _ _ _ _ _ _ (heap_setCell_same _ _ _ _ _ _ hB)))
  refine ⟨h1, ?_, ?_, ?_⟩
  · have q : ∀ (u : World) (j : Nat) (z : Value), Chg u (u.setCell ⟨B, j, none⟩ z) (fun j => j = B) := fun u j z => Chg.setCell u ⟨B, j, none⟩ z _ rfl
    exact Chg.then (q _ _ _) (Chg.then (q _ _ _) (Chg.then (q _ _ _) (Chg.then (q _ _ _) (Chg.drew _ _))))
  · rw [cell_of_row _ B _ _ 59 _ h1]
    simp only [Array.getElem?_setIfInBounds, Array.size_setIfInBounds]
    by_cases e : i = k
    · rw [if_neg (by omega), if_pos (by omega), if_pos (by omega), hik e]
    · rw [if_neg (by omega), if_neg (by omega), if_neg (by omega), if_pos trivial, if_pos (by omega)]
  · rw [cell_of_row _ B _ _ 59 _ h1]
    simp only [Array.getElem?_setIfInBounds, Array.size_setIfInBounds]
    rw [if_neg (by omega), if_pos trivial, if_pos (by omega)]

set_option maxRecDepth 100000 in
set_option maxHeartbeats 4000000 in
theorem swap_walk {w : World} {A M : Nat} {v : Value} {xs : List Tm} (h : Pile w A M v xs) (i k : Nat) (hi : i < xs.length) (hk : k < xs.length) :
    Calls Try.prog 46 #[.pointer (some ⟨A, 0, none⟩), .int .i64 i, .int .i64 k] w fun e w' => e = .returned (.tuple #[]) ∧ Step w w' A M v v (swp xs i k) := by
  obtain ⟨B, c, cur, rfl, hB, hnc, hcm, hcur, htk⟩ := h.lies (by omega)
  obtain ⟨f, hm, hp⟩ := h.map
  have hneM : M ≠ B := fun e => h.mneB (by rw [e]; rfl)
  have h0 := h.cell0
  have h1 := h.cell1
  obtain ⟨hx1, hx2⟩ := row_cells hB htk i hi
  obtain ⟨hy1, hy2⟩ := row_cells hB htk k hk
  have fx1 := frozen_of_row w B (i * 2) _ 59 hB
  have fx2 := frozen_of_row w B (i * 2 + 1) _ 59 hB
  have fy1 := frozen_of_row w B (k * 2) _ 59 hB
  have fy2 := frozen_of_row w B (k * 2 + 1) _ 59 hB
  have hfew : xs.length < 1000000 := Nat.lt_of_le_of_lt h.few (by decide)
  have okx : ∀ (j : Nat) (hj : j < xs.length), ok64 (xs[j]).1 ∧ ok64 (xs[j]).2 := fun j hj => h.oks _ (List.getElem_mem hj)
  have i0 : (0 : Int) ≤ (i : Int) := Int.natCast_nonneg _
  have i1 : (i : Int) < (xs.length : Int) := by omega
  have k0 : (0 : Int) ≤ (k : Int) := Int.natCast_nonneg _
  have k1 : (k : Int) < (xs.length : Int) := by omega
  by_cases hik : i = k
  · subst hik
    have H := Lib.hid h
    have HB := Lib.hid hB
    have HP := Lib.hid hp
    have HM := Lib.hid hm
    have HT := Lib.hid htk
    have OKX := Lib.hid okx
    have CUR := Lib.hid hcur
    have CM := Lib.hid hcm
    have NC := Lib.hid hnc
    have NM := Lib.hid hneM
    obtain ⟨a, ea⟩ : ∃ a, (xs[i]).1 = a := ⟨_, rfl⟩
    obtain ⟨a2, ea2⟩ : ∃ a, (xs[i]).2 = a := ⟨_, rfl⟩
    rw [ea] at hx1
    rw [ea2] at hx2
    clear h hB hp hm htk okx hcur hcm hnc hneM hy1 hy2 fy1 fy2
    go_enter Try.func46, Try.ntmps46
    go_wp2_with fail
    go_region
    have h := H.out
    have hB := HB.out
    have hp := HP.out
    have hm := HM.out
    have htk := HT.out
    have okx := OKX.out
    have hcur := CUR.out
    have hcm := CM.out
    have hnc := NC.out
    have hneM := NM.out
    clear H HB HP HM HT OKX CUR CM NC NM
    generalize hW : World.drew _ = W
    clear hx1 hx2 fx1 fx2
    rw [← ea, ← ea2] at hW
    obtain ⟨hWB, hWc, gx, gy⟩ := swap_cells hB (by omega) (by omega) (fun _ => rfl) hW
    have hm1 : IMap W.drew M xs.length f := (hm.block (hWc.block M hm.lt (fun e => hneM e))).drew
    obtain ⟨v0, st, hr1, hs1⟩ := hm1.entry hfew (okx i hi).1 (by rw [hp.at_ i hi]; rfl)
    obtain ⟨w1, hst1, hI1, hT1⟩ := hs1 (i : Int) (by rw [ok64_iff]; omega)
    obtain ⟨v1, st1, hr2, hs2⟩ := hI1.entry hfew (okx i hi).1 (by rw [upd_same]; rfl)
    obtain ⟨w2, hst2, hI2, hT2⟩ := hs2 (i : Int) (by rw [ok64_iff]; omega)
    have hfin := Lib.hid (swap_end h hi hi hp hnc hcm hcur htk hWB hWc rfl hI2 hT1 hT2)
    have g0 : W.cell? ⟨A, 0, none⟩ = some (.slice (some ⟨B, 0, none⟩) xs.length c) := hWc.cell h.cell0 (fun e => h.aneB (by rw [← e]; rfl))
    have g1 : W.cell? ⟨A, 1, none⟩ = some (.map (some M)) := hWc.cell h.cell1 (fun e => h.aneB (by rw [← e]; rfl))
    rw [ea] at gy
    rw [ea] at gx
    rw [ea] at hr1
    rw [ea] at hr2
    have c1 : Chg W w1 (fun j => j = M) := (Chg.drew W _).then (Chg.turned hT1 rfl)
    have c2 : Chg W w2 (fun j => j = M) := c1.then (Chg.turned hT2 rfl)
    have p0 := c1.cell g0 (fun e => h.aneM e)
    have p1 := c1.cell g1 (fun e => h.aneM e)
    have px := c1.cell gx (fun e => hneM e.symm)
    have py := c1.cell gy (fun e => hneM e.symm)
    have q0 := c2.cell g0 (fun e => h.aneM e)
    have q1 := c2.cell g1 (fun e => h.aneM e)
    have qx := c2.cell gx (fun e => hneM e.symm)
    have qy := c2.cell gy (fun e => hneM e.symm)
    clear hW h0 h1 hm hs1 hs2 hm1 hI1 hI2 hT1 hT2 hWc hWB h hp htk hcur hcm hnc okx hneM ea ea2 c1 c2
    go_wp2_with fail
    go_region_held3 (fun W' => W'.cell? ⟨A, 0, none⟩ = some (.slice (some ⟨B, 0, none⟩) xs.length c) ∧ W'.cell? ⟨A, 1, none⟩ = some (.map (some M)) ∧ W'.cell? ⟨B, i * 2, none⟩ = some (.int .i64 a) ∧ W'.cell? ⟨B, i * 2, none⟩ = some (.int .i64 a))
      (first | assumption | exact ⟨g0, g1, gx, gy⟩ | exact ⟨p0, p1, px, py⟩ | exact ⟨q0, q1, qx, qy⟩)
      ((fail))
    go_wp2_with fail
    first | go_end0 | ((try simp only [Exit.inBlock, Exit.then]); refine bodyPost_ret (results_none rfl _ _ _) rfl ?_)
    exact ⟨by first | rfl | simp, hfin.out⟩
  · have e1 : i * 2 ≠ k * 2 := by omega
    have e2 : k * 2 ≠ i * 2 := by omega
    have e3 : i * 2 + 1 ≠ k * 2 := by omega
    have e4 : k * 2 + 1 ≠ i * 2 := by omega
    have e5 : i * 2 ≠ k * 2 + 1 := by omega
    have e6 : k * 2 ≠ i * 2 + 1 := by omega
    have e7 : k ≠ i := by omega
    have H := Lib.hid h
    have HB := Lib.hid hB
    have HP := Lib.hid hp
    have HM := Lib.hid hm
    have HT := Lib.hid htk
    have OKX := Lib.hid okx
    have CUR := Lib.hid hcur
    have CM := Lib.hid hcm
    have NC := Lib.hid hnc
    have NM := Lib.hid hneM
    have HIK := Lib.hid hik
    obtain ⟨a, ea⟩ : ∃ a, (xs[i]).1 = a := ⟨_, rfl⟩
    obtain ⟨a2, ea2⟩ : ∃ a, (xs[i]).2 = a := ⟨_, rfl⟩
    obtain ⟨b, eb⟩ : ∃ a, (xs[k]).1 = a := ⟨_, rfl⟩
    obtain ⟨b2, eb2⟩ : ∃ a, (xs[k]).2 = a := ⟨_, rfl⟩
    rw [ea] at hx1
    rw [ea2] at hx2
    rw [eb] at hy1
    rw [eb2] at hy2
    clear h hB hp hm htk okx hcur hcm hnc hneM
    go_enter Try.func46, Try.ntmps46
    go_wp2_with fail
    go_region
    have h := H.out
    have hB := HB.out
    have hp := HP.out
    have hm := HM.out
    have htk := HT.out
    have okx := OKX.out
    have hcur := CUR.out
    have hcm := CM.out
    have hnc := NC.out
    have hneM := NM.out
    clear H HB HP HM HT OKX CUR CM NC NM e1 e2 e3 e4 e5 e6 e7 hik
    generalize hW : World.drew _ = W
    clear hx1 hx2 hy1 hy2 fx1 fx2 fy1 fy2
    rw [← ea, ← ea2, ← eb, ← eb2] at hW
    obtain ⟨hWB, hWc, gx, gy⟩ := swap_cells hB (by omega) (by omega) (fun e => absurd e HIK.out) hW
    have hm1 : IMap W.drew M xs.length f := (hm.block (hWc.block M hm.lt (fun e => hneM e))).drew
    obtain ⟨v0, st, hr1, hs1⟩ := hm1.entry hfew (okx k hk).1 (by rw [hp.at_ k hk]; rfl)
    obtain ⟨w1, hst1, hI1, hT1⟩ := hs1 (i : Int) (by rw [ok64_iff]; omega)
    obtain ⟨v1, st1, hr2, hs2⟩ := hI1.entry hfew (okx i hi).1 (by
      by_cases e : (xs[i]).1 = (xs[k]).1
      · rw [e, upd_same]; rfl
      · rw [upd_other _ _ _ e, hp.at_ i hi]; rfl)
    obtain ⟨w2, hst2, hI2, hT2⟩ := hs2 (k : Int) (by rw [ok64_iff]; omega)
    have hfin := Lib.hid (swap_end h hi hk hp hnc hcm hcur htk hWB hWc rfl hI2 hT1 hT2)
    have g0 : W.cell? ⟨A, 0, none⟩ = some (.slice (some ⟨B, 0, none⟩) xs.length c) := hWc.cell h.cell0 (fun e => h.aneB (by rw [← e]; rfl))
    have g1 : W.cell? ⟨A, 1, none⟩ = some (.map (some M)) := hWc.cell h.cell1 (fun e => h.aneB (by rw [← e]; rfl))
    rw [ea] at gy
    rw [eb] at gx
    rw [eb] at hr1
    rw [ea] at hr2
    have c1 : Chg W w1 (fun j => j = M) := (Chg.drew W _).then (Chg.turned hT1 rfl)
    have c2 : Chg W w2 (fun j => j = M) := c1.then (Chg.turned hT2 rfl)
    have p0 := c1.cell g0 (fun e => h.aneM e)
    have p1 := c1.cell g1 (fun e => h.aneM e)
    have px := c1.cell gx (fun e => hneM e.symm)
    have py := c1.cell gy (fun e => hneM e.symm)
    have q0 := c2.cell g0 (fun e => h.aneM e)
    have q1 := c2.cell g1 (fun e => h.aneM e)
    have qx := c2.cell gx (fun e => hneM e.symm)
    have qy := c2.cell gy (fun e => hneM e.symm)
    clear hW h0 h1 hm hs1 hs2 hm1 hI1 hI2 hT1 hT2 hWc hWB h hp htk hcur hcm hnc okx hneM ea ea2 eb eb2 c1 c2
    go_wp2_with fail
    go_region_held3 (fun W' => W'.cell? ⟨A, 0, none⟩ = some (.slice (some ⟨B, 0, none⟩) xs.length c) ∧ W'.cell? ⟨A, 1, none⟩ = some (.map (some M)) ∧ W'.cell? ⟨B, i * 2, none⟩ = some (.int .i64 b) ∧ W'.cell? ⟨B, k * 2, none⟩ = some (.int .i64 a))
      (first | assumption | exact ⟨g0, g1, gx, gy⟩ | exact ⟨p0, p1, px, py⟩ | exact ⟨q0, q1, qx, qy⟩)
      ((fail))
    go_wp2_with fail
    first | go_end0 | ((try simp only [Exit.inBlock, Exit.then]); refine bodyPost_ret (results_none rfl _ _ _) rfl ?_)
    exact ⟨by first | rfl | simp, hfin.out⟩
end Go.Proofs.Ytphdmhjmaecddaa
