/-
timers.pile's Push, walked.
-/
import Derived.Test.YtphdmhjmaecddaaPop
import Derived.Test.YtphdmhjmaecddaaProg
import Derived.Below
import Derived.Deep.Draws
import Derived.Deep.AppendLies
import Derived.Deep.RegionLaw
import Derived.Maps.AppendAt
import Derived.OwnWalk
import Derived.Laws.BytesArg
import Derived.Laws.MakeOwn
import Derived.Laws.OwnMore
import Derived.Deep.OwnRows
import Derived.Tactics
import Derived.Lib.ConvBytes
import Derived.Laws.Slices
import Derived.WalkKit
import Derived.KernelRfl
import Derived.RowKit3
import Derived.Deep.LoopGhost
import Derived.Deep.QuietTactic
import Derived.BigQuiet
import Derived.WideLaws
import Derived.Deep.DeepCutAuto
import Derived.Deep.CutBlock
import Derived.Deep.RegionHeld3
import Derived.Laws.Rows
import Derived.Lib.AppendStr
import Derived.ArgAppend
import Derived.Laws.IdiomCopy
import Derived.OrdersHeld
import Derived.Laws.BitsLemmas
import Derived.RowKit
import Derived.Test.YtphdmhjmaecddaaWWords
import Derived.Test.YtphdmhjmaecddaaWLast
import Derived.Test.YtphdmhjmaecddaaWTab
import Derived.Test.YtphdmhjmaecddaaWFour
import Derived.Test.YtphdmhjmaecddaaWQPut
import Derived.Test.YtphdmhjmaecddaaWApart
import Derived.Test.YtphdmhjmaecddaaWArr
import Derived.Test.YtphdmhjmaecddaaWZeros
import Derived.Test.YtphdmhjmaecddaaWFoot
import Derived.Test.YtphdmhjmaecddaaWKept
import Derived.Test.YtphdmhjmaecddaaWShare
import Derived.Test.YtphdmhjmaecddaaWN
import Derived.Test.YtphdmhjmaecddaaWFootNe
import Derived.Test.YtphdmhjmaecddaaWAt
import Derived.Test.YtphdmhjmaecddaaWEqStruct
import Derived.Test.YtphdmhjmaecddaaWRepsOne
import Derived.Test.YtphdmhjmaecddaaWInv
import Derived.Test.YtphdmhjmaecddaaWInvWords
import Derived.Test.YtphdmhjmaecddaaWGuard
import Derived.Test.YtphdmhjmaecddaaWNEv
import Derived.Test.YtphdmhjmaecddaaWMore
import Derived.Maps.Own
import Derived.Maps.OwnOps
import Derived.Maps.OwnSet
import Derived.Maps.Views
import Derived.BigRegion
import Derived.StillTailTactics
import Derived.Lib.Hide
import Derived.Deep.RegionHeld3
import Derived.Deep.AppendLies
import Derived.Deep.RegionLaw
namespace Go.Proofs.Ytphdmhjmaecddaa
open Go.RowKit Go.Proofs.YtphdmhjmaecddaaW.PrintWords Go.Proofs.YtphdmhjmaecddaaW.PrintLast Go.Proofs.YtphdmhjmaecddaaW.PrintMore

theorem grown_block {w1 w2 : World} {o : Obj} {row : Option Nat} {A : Nat} (hg : ((w1.alloc o).drew).grownBy w2 row) (hl : A < w1.heap.size) (hne : some A ≠ row) : w2.heap[A]? = w1.heap[A]? :=
  (hg.block A (by show A < (w1.alloc o).heap.size; simp; omega) hne).trans ((World.grownBy_alloc w1 o none).block A hl (by simp))
theorem grown_cell {w1 w2 : World} {o : Obj} {row : Option Nat} {a : Addr} {v : Value} (hg : ((w1.alloc o).drew).grownBy w2 row) (hc : w1.cell? a = some v) (hne : some a.block ≠ row) : w2.cell? a = some v :=
  (World.cell?_of_block (grown_block hg (World.block_lt_of_cell? w1 a hc) hne)).trans hc
theorem grown_frozen {w1 w2 : World} {o : Obj} {row : Option Nat} {a : Addr} {b : Bool} (hg : ((w1.alloc o).drew).grownBy w2 row) (hl : a.block < w1.heap.size) (hf : w1.frozen? a = b) (hne : some a.block ≠ row) : w2.frozen? a = b :=
  (World.frozen?_of_block (grown_block hg hl hne)).trans hf

theorem row_keep {w w' : World} {v : Value} {n : Nat} {fs : List Value} {S : Nat → Prop} (h : w.ownsRow 0 59 2 v n fs) (hc : Chg w w' S) (hs : ∀ k, v.ownBlock = some k → ¬ S k) : w'.ownsRow 0 59 2 v n fs := by
  refine ⟨h.1, ?_⟩
  rcases h.2 with hn | ⟨g, cap, cur, rfl, h0, h1, r⟩
  · exact .inl hn
  · exact .inr ⟨g, cap, cur, rfl, h0, (hc.block g (Array.getElem?_eq_some_iff.1 h1).1 (hs g rfl)).trans h1, r⟩

theorem push_end {w w1 w2 : World} {A M gg cap : Nat} {v : Value} {xs : List Tm} {x : Tm} {o : Obj} {f : Int → Option Int} (h : Pile w A M v xs) (hx : ∀ y ∈ xs, y.1 ≠ x.1) (hk : ok64 x.1) (hat : ok64 x.2) (hn : xs.length < 256)
    (c01 : Chg w w1 (fun j => j = M)) (hp : Pl xs f) (hI : IMap w1 M (xs.length + 1) (upd f x.1 (some (xs.length : Int))))
    (hown : w2.ownsRow 0 59 2 (.slice (some ⟨gg, 0, none⟩) (xs.length + 1) cap) (xs.length + 1) (flat xs ++ [.int .i64 x.1, .int .i64 x.2]))
    (hgrow : ((w1.alloc o).drew).grownBy w2 v.ownBlock) (hat2 : v.ownBlock = some gg ∨ gg = w1.heap.size + 1) :
    Step w (w2.setCell ⟨A, 0, none⟩ (.slice (some ⟨gg, 0, none⟩) (xs.length + 1) cap)) A M v (.slice (some ⟨gg, 0, none⟩) (xs.length + 1) cap) (xs ++ [x]) := by
  have lA : A < w.heap.size := h.lt (.inl rfl)
  have lM : M < w.heap.size := h.lt (.inr (.inl rfl))
  have s1 := c01.size
  have hA2 : w2.heap[A]? = some (.cells #[v, .map (some M)] 56 (0, 0)) := by
    rw [grown_block hgrow (by omega) (fun e => h.aneB e.symm), c01.block A lA (fun e => h.aneM e)]
    exact h.head
  have hM2 : w2.heap[M]? = w1.heap[M]? := grown_block hgrow (by omega) (fun e => h.mneB e.symm)
  have hgA : gg ≠ A := by
    rintro rfl
    rcases hat2 with e | e
    · exact h.aneB e
    · omega
  have c3 : Chg w2 (w2.setCell ⟨A, 0, none⟩ (.slice (some ⟨gg, 0, none⟩) (xs.length + 1) cap)) (fun j => j = A) := Chg.setCell w2 ⟨A, 0, none⟩ _ (fun j => j = A) rfl
  have hl : (xs ++ [x]).length = xs.length + 1 := by simp
  refine ⟨⟨?_, ?_, ⟨_, ?_, hp.push hx⟩, ?_, by rw [hl]; omega⟩, ?_, ?_⟩
  · exact heap_setCell_same w2 A 0 _ 56 _ hA2
  · have := row_keep hown c3 (fun k e => by
      injection e with e
      exact fun e2 => hgA (by rw [← e2, ← e]))
    rw [hl, flat_append]
    exact this
  · rw [hl]
    refine hI.block ?_
    rw [c3.block M (Nat.lt_of_lt_of_le lM (Nat.le_trans s1 (Nat.le_trans (by show _ ≤ (w1.alloc o).heap.size; simp) hgrow.size))) (fun e => h.aneM e.symm), hM2]
  · intro y hy
    rcases List.mem_append.1 hy with hy | hy
    · exact h.oks y hy
    · simp at hy
      subst hy
      exact ⟨hk, hat⟩
  · have c12 : Chg w1 w2 (fun k => v.ownBlock = some k) := (Chg.alloc w1 o _).then ((Chg.drew _ _).then (Chg.grown hgrow (fun k hk => hk)))
    refine ((Chg.mono (S' := own A M v) c01 (fun _ _ e => .inr (.inl e))).trans c12 (fun _ _ e => .inr (.inr e))).trans c3 (fun _ _ e => .inl e)
  · intro k e
    injection e with e
    have e : gg = k := e
    subst e
    rcases hat2 with e | e
    · exact .inl e
    · exact .inr (by omega)

theorem assert59 (a b : Int) (w : World) : (Instr.typeAssert (.iface 59 (.agg #[.int .i64 a, .int .i64 b])) 20 59 true).run Try.prog w = .ok (.tuple #[.agg #[.int .i64 a, .int .i64 b], .bool true]) w := by kernel_rfl

set_option maxRecDepth 100000 in
set_option maxHeartbeats 4000000 in
theorem push_walk {w : World} {A M : Nat} {v : Value} {xs : List Tm} (h : Pile w A M v xs) (x : Tm) (hx : ∀ y ∈ xs, y.1 ≠ x.1) (hk : ok64 x.1) (hat : ok64 x.2) (hn : xs.length < 256) :
    Calls Try.prog 45 #[.pointer (some ⟨A, 0, none⟩), .iface 59 (.agg #[.int .i64 x.1, .int .i64 x.2])] w fun e w' => e = .returned (.tuple #[]) ∧ ∃ v', Step w w' A M v v' (xs ++ [x]) := by
  obtain ⟨a, c, rfl⟩ := h.slice
  obtain ⟨f, hm, hp⟩ := h.map
  have h0 := h.cell0
  have h1 := h.cell1
  have lA := World.block_lt_of_cell? w _ h0
  simp only [] at lA
  have n0 : (0 : Int) ≤ (xs.length : Int) := Int.natCast_nonneg _
  have H := Lib.hid h
  have HM := Lib.hid hm
  have HP := Lib.hid hp
  clear h hp hm
  have ka := assert59 x.1 x.2
  go_enter Try.func45, Try.ntmps45
  go_wp2_with fail
  have b1 : Below w.heap.size w (w.alloc (.cells #[.int .i64 x.1, .int .i64 x.2] 59)) := below_alloc (Below.refl _ _) _
  have gt1 : (w.alloc (.cells #[.int .i64 x.1, .int .i64 x.2] 59)).cell? ⟨w.heap.size, 0, none⟩ = some (.int .i64 x.1) := World.cell?_alloc_new w _ _ 0
  have gt2 : (w.alloc (.cells #[.int .i64 x.1, .int .i64 x.2] 59)).cell? ⟨w.heap.size, 1, none⟩ = some (.int .i64 x.2) := World.cell?_alloc_new w _ _ 1
  generalize w.alloc (.cells #[.int .i64 x.1, .int .i64 x.2] 59) = W at b1 gt1 gt2 ⊢
  have g0 := (b1.cell lA).trans h0
  have g1 : W.cell? ⟨A, 1, none⟩ = some (.map (some M)) := (b1.cell lA).trans h1
  have tM : w.heap.size ≠ M := fun e => Nat.lt_irrefl _ (e ▸ HM.out.lt)
  have hm2 : IMap W.drew M xs.length f := (HM.out.block (b1.block M HM.out.lt)).drew
  obtain ⟨w1, hst, hI1, hT1⟩ := hm2.store (by omega) hk (show ok64 (xs.length : Int) by rw [ok64_iff]; omega)
  have hf : f x.1 = none := HP.out.out x.1 hx
  rw [hf] at hI1
  have t1 : Chg W w1 (fun j => j = M) := (Chg.drew W _).then (Chg.turned hT1 rfl)
  have z1 := t1.cell gt1 tM
  have z2 := t1.cell gt2 tM
  have z0 := t1.cell g0 (fun e => H.out.aneM e)
  have zf : w1.frozen? ⟨A, 0, none⟩ = false := by
    rw [World.frozen?_of_block (t1.block A (Nat.lt_of_lt_of_le lA b1.size) (fun e => H.out.aneM e)), World.frozen?_of_block (b1.block A lA)]
    exact H.out.frozen 0
  have hrow : w1.ownsRow 0 59 2 (.slice a xs.length c) xs.length (flat xs) := row_keep (row_keep H.out.row (Chg.of_below b1 (fun _ => False)) (fun _ _ e => e)) t1 (fun k e e2 => H.out.mneB (e2 ▸ e))
  have B1 := Lib.hid b1
  have T1 := Lib.hid t1
  have I1 := Lib.hid hI1
  obtain ⟨i0, hi0, hz0, hz1, hz2⟩ := info_parts info59
  have neA : some A ≠ (Value.slice a xs.length c).ownBlock := fun e => H.out.aneB e.symm
  have lA1 : A < w1.heap.size := World.block_lt_of_cell? w1 _ z0
  clear b1 t1 hI1 hT1 hm2 h0 h1
  go_wp2_with fail
  go_still_tail 11, (by kernel_rfl)
  change wpList _ _ _ _ _ W.drew
  go_wp2_with fail
  clear hst g0 g1 gt1 gt2
  have hml : xs.length + 1 ≤ maxLen := Nat.le_trans (show xs.length + 1 ≤ 1000 by omega) (by decide)
  have hnw := World.news_of_block (cs := #[.int .i64 x.1, .int .i64 x.2]) (t := 59) (fr := (0, 0)) (heap_alloc_new w1 (.cells #[.int .i64 x.1, .int .i64 x.2] 59))
  go_region_law (first | (refine step_append_lies _ (by rfl) _ _ _ (by rfl) 0 59 i0 _ 2 16 Try.underlying52 hi0 hz0 hz1 hz2 rfl (by omega) (.slice a xs.length c) xs.length (flat xs) (by rfl) ((hrow.alloc _).drew) ⟨w1.heap.size, 0, none⟩ 1 1 [.int .i64 x.1, .int .i64 x.2] (by rfl) (by rfl) hnw (by simp [Value.oneCell']) (by omega) hml (by omega) (Nat.zero_le _) (w1.heap.size + 1) (by simp) ?_; intro gg cap w2 hown2 hgrow hat2 hlt; have y0 := grown_cell hgrow z0 neA; have yf := grown_frozen hgrow lA1 zf neA))
  all_goals
    go_wp2_with fail
    first | go_end0 | ((try simp only [Exit.inBlock, Exit.then]); refine bodyPost_ret (results_none rfl _ _ _) rfl ?_)
    refine ⟨by first | rfl | simp, _, push_end H.out hx hk hat hn ((Chg.of_below B1.out _).then T1.out) HP.out I1.out hown2 hgrow hat2⟩
end Go.Proofs.Ytphdmhjmaecddaa
