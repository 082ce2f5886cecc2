/-
timers.pile's Pop, walked.
-/
import Derived.Test.YtphdmhjmaecddaaObj
import Derived.Test.YtphdmhjmaecddaaProg
import Derived.Below
import Derived.Deep.Draws
import Derived.Deep.AppendLies
import Derived.Maps.AppendAt
import Derived.OwnWalk
import Derived.Laws.BytesArg
import Derived.Laws.MakeOwn
import Derived.Laws.OwnMore
import Derived.Deep.OwnRows
import Derived.Tactics
import Derived.Lib.ConvBytes
import Derived.Laws.Slices
import Derived.WalkKit
import Derived.KernelRfl
import Derived.RowKit3
import Derived.Deep.LoopGhost
import Derived.Deep.QuietTactic
import Derived.BigQuiet
import Derived.WideLaws
import Derived.Deep.DeepCutAuto
import Derived.Deep.CutBlock
import Derived.Deep.RegionHeld3
import Derived.Laws.Rows
import Derived.Lib.AppendStr
import Derived.ArgAppend
import Derived.Laws.IdiomCopy
import Derived.OrdersHeld
import Derived.Laws.BitsLemmas
import Derived.RowKit
import Derived.Test.YtphdmhjmaecddaaWWords
import Derived.Test.YtphdmhjmaecddaaWLast
import Derived.Test.YtphdmhjmaecddaaWTab
import Derived.Test.YtphdmhjmaecddaaWFour
import Derived.Test.YtphdmhjmaecddaaWQPut
import Derived.Test.YtphdmhjmaecddaaWApart
import Derived.Test.YtphdmhjmaecddaaWArr
import Derived.Test.YtphdmhjmaecddaaWZeros
import Derived.Test.YtphdmhjmaecddaaWFoot
import Derived.Test.YtphdmhjmaecddaaWKept
import Derived.Test.YtphdmhjmaecddaaWShare
import Derived.Test.YtphdmhjmaecddaaWN
import Derived.Test.YtphdmhjmaecddaaWFootNe
import Derived.Test.YtphdmhjmaecddaaWAt
import Derived.Test.YtphdmhjmaecddaaWEqStruct
import Derived.Test.YtphdmhjmaecddaaWRepsOne
import Derived.Test.YtphdmhjmaecddaaWInv
import Derived.Test.YtphdmhjmaecddaaWInvWords
import Derived.Test.YtphdmhjmaecddaaWGuard
import Derived.Test.YtphdmhjmaecddaaWNEv
import Derived.Test.YtphdmhjmaecddaaWMore
import Derived.Maps.Own
import Derived.Maps.OwnOps
import Derived.Maps.OwnSet
import Derived.Maps.Views
import Derived.BigRegion
import Derived.StillTailTactics
import Derived.Lib.Hide
namespace Go.Proofs.Ytphdmhjmaecddaa
open Go.RowKit Go.Proofs.YtphdmhjmaecddaaW.PrintWords Go.Proofs.YtphdmhjmaecddaaW.PrintLast Go.Proofs.YtphdmhjmaecddaaW.PrintMore

theorem info59 : (Try.prog.info? 59).map (fun i => (i.zero, i.size, i.bytes)) = some (some (.agg #[.int .i64 0, .int .i64 0]), 2, 16) := by kernel_rfl
theorem cut59 (B n c j : Nat) (hj : j ≤ n) (hc : n ≤ c) (W : World) : (Instr.slice 52 (.slice (some ⟨B, 0, none⟩) n c) none (some (.int .i64 j)) none).run Try.prog W = .ok (.slice (some ⟨B, 0, none⟩) j c) W := by
  obtain ⟨i, hi, _⟩ := info_parts info59
  have := cut_to (P := Try.prog) 52 59 .i64 Try.underlying52 hi (some ⟨B, 0, none⟩) n c (j : Int) (by omega) (by omega) hc W
  rwa [Int.toNat_natCast] at this

set_option maxRecDepth 100000 in
set_option maxHeartbeats 4000000 in
theorem pop_walk {w : World} {A M : Nat} {v : Value} {xs : List Tm} {x : Tm} (h : Pile w A M v (xs ++ [x])) :
    Calls Try.prog 44 #[.pointer (some ⟨A, 0, none⟩)] w fun e w' => e = .returned (.iface 59 (.agg #[.int .i64 x.1, .int .i64 x.2])) ∧ ∃ v', Step w w' A M v v' xs := by
  obtain ⟨B, c, cur, rfl, hB, hnc, hcm, hcur, htk⟩ := h.lies (by simp)
  obtain ⟨f, hm, hp⟩ := h.map
  have hneM : M ≠ B := fun e => h.mneB (by rw [e]; rfl)
  have h0 := h.cell0
  have h1 := h.cell1
  obtain ⟨hx1, hx2⟩ := row_cells hB htk xs.length (by simp)
  have hl : (xs ++ [x]).length = xs.length + 1 := by simp
  rw [hl] at h0
  simp only [List.getElem_append_right (Nat.le_refl _), Nat.sub_self, List.getElem_cons_zero] at hx1 hx2
  have lA := World.block_lt_of_cell? w _ h0
  have lB := World.block_lt_of_cell? w _ hx1
  simp only [] at lA lB
  have n0 : (0 : Int) ≤ (xs.length : Int) := Int.natCast_nonneg _
  have n1 : (xs.length : Int) < ((xs.length + 1 : Nat) : Int) := by omega
  have hfew : xs.length + 1 < 1000000 := by have := h.few; rw [hl] at this; omega
  have H := Lib.hid h
  have NC := Lib.hid hnc
  have HM := Lib.hid hm
  have HP := Lib.hid hp
  have HT := Lib.hid htk
  have CUR := Lib.hid hcur
  have CM := Lib.hid hcm
  have hfew' := h.few
  have okx := h.oks x (by simp)
  clear h hp hm htk hcur hcm hnc hneM hl
  go_enter Try.func44, Try.ntmps44
  go_wp2_with fail
  go_region
  generalize hW : World.drew _ = W
  have b1 : Below w.heap.size w W := by rw [← hW]; exact below_drew1 (below_alloc (Below.refl _ _) _)
  have g0 : W.cell? ⟨A, 0, none⟩ = some (.slice (some ⟨B, 0, none⟩) (xs.length + 1) c) := (b1.cell lA).trans h0
  have g1 : W.cell? ⟨A, 1, none⟩ = some (.map (some M)) := (b1.cell lA).trans h1
  have gf : W.frozen? ⟨A, 0, none⟩ = false := by rw [World.frozen?_of_block (b1.block A lA)]; exact H.out.frozen 0
  have gt1 : W.cell? ⟨w.heap.size, 0, none⟩ = some (.int .i64 x.1) := by rw [← hW]; exact World.cell?_alloc_new w _ _ 0
  have gt2 : W.cell? ⟨w.heap.size, 1, none⟩ = some (.int .i64 x.2) := by rw [← hW]; exact World.cell?_alloc_new w _ _ 1
  generalize hT : w.heap.size = T at gt1 gt2 lA lB ⊢
  have tA : T ≠ A := by omega
  have tM : T ≠ M := by rw [← hT]; exact fun e => Nat.lt_irrefl _ (e ▸ HM.out.lt)
  have LB := Lib.hid lB
  have B1 := Lib.hid b1
  have hcut := cut59 B (xs.length + 1) c xs.length (by omega) (by simpa using NC.out)
  have HB := Lib.hid hB
  clear hW h0 h1 hx1 hx2 lB b1 hB
  go_wp2_with fail
  go_region
  generalize hW2 : World.drew _ = W2
  have hA2 : W2.heap[A]? = some (.cells #[.slice (some ⟨B, 0, none⟩) xs.length c, .map (some M)] 56 (0, 0)) := by
    rw [← hW2]
    exact heap_setCell_same W A 0 _ 56 _ ((B1.out.block A (hT ▸ lA)).trans H.out.head)
  have k1 : W2.cell? ⟨A, 1, none⟩ = some (.map (some M)) := by rw [cell_of_row W2 A 1 _ 56 _ hA2]; rfl
  have c12 : Chg W W2 (fun j => j = A) := by
    rw [← hW2]
    exact Chg.then (Chg.setCell W ⟨A, 0, none⟩ _ (fun j => j = A) rfl) (Chg.drew _ _)
  have kt1 : W2.cell? ⟨T, 0, none⟩ = some (.int .i64 x.1) := c12.cell gt1 tA
  have kt2 : W2.cell? ⟨T, 1, none⟩ = some (.int .i64 x.2) := c12.cell gt2 tA
  have hm2 : IMap W2.drew M (xs.length + 1) f := by
    have h1 := HM.out
    rw [show (xs ++ [x]).length = xs.length + 1 by simp] at h1
    exact ((h1.block (B1.out.block M h1.lt)).block (c12.block M (Nat.lt_of_lt_of_le h1.lt B1.out.size) (fun e => H.out.aneM e.symm))).drew
  have hin : (f x.1).isSome = true := by
    have := HP.out.at_ xs.length (by simp)
    simp only [List.getElem_append_right (Nat.le_refl _), Nat.sub_self, List.getElem_cons_zero] at this
    rw [this]
    rfl
  obtain ⟨w3, hdel, hI3, hT3⟩ := hm2.drop okx.1 hin 0
  have t3 : Chg W2 w3 (fun j => j = M) := (Chg.drew W2 _).then (Chg.turned hT3 rfl)
  go_wp2_with fail
  go_still_tail 6, (by kernel_rfl)
  change wpList _ _ _ _ _ W2.drew
  have z1 := t3.cell kt1 tM
  have z2 := t3.cell kt2 tM
  have hfin : Step w w3 A M (.slice (some ⟨B, 0, none⟩) (xs ++ [x]).length c) (.slice (some ⟨B, 0, none⟩) xs.length c) xs := by
    have h := H.out
    have hl : (xs ++ [x]).length = xs.length + 1 := by simp
    have hneB : M ≠ B := fun e => h.mneB (by rw [e]; rfl)
    have hneA : A ≠ B := fun e => h.aneB (by rw [e]; rfl)
    have lA' : A < w.heap.size := h.lt (.inl rfl)
    have lB' : B < w.heap.size := h.lt (.inr (.inr rfl))
    have s1 := B1.out.size
    have s2 := c12.size
    refine ⟨⟨?_, ⟨flat_length xs, .inr ⟨B, c, cur, rfl, Nat.zero_le _, ?_, ?_, CM.out, CUR.out, ?_⟩⟩, ⟨_, hI3, HP.out.pop⟩, fun y hy => h.oks y (by simp [hy]), by rw [hl] at hfew'; omega⟩, ?_, fun _ hk => .inl hk⟩
    · rw [t3.block A (by omega) (fun e => h.aneM e)]
      exact hA2
    · rw [t3.block B (by omega) (fun e => hneB e.symm), c12.block B (by omega) (fun e => hneA e.symm), B1.out.block B lB']
      exact HB.out
    · have := NC.out; rw [hl] at this; omega
    · have h2 := HT.out
      have h3 := flat_take (xs ++ [x]) xs.length
      rw [List.take_left] at h3
      rw [h3, ← h2, List.take_take, hl, Nat.min_eq_left (by omega)]
    · refine ((Chg.of_below B1.out (own A M (.slice (some ⟨B, 0, none⟩) (xs ++ [x]).length c))).trans c12 (fun _ _ e => .inl e)).trans t3 (fun _ _ e => .inr (.inl e))
  have HF := Lib.hid hfin
  clear hfin hT3 hI3 hm2 hA2 c12 t3 hfew' okx hin
  go_wp2_with fail
  go_ret
  exact ⟨rfl, _, HF.out⟩
end Go.Proofs.Ytphdmhjmaecddaa
