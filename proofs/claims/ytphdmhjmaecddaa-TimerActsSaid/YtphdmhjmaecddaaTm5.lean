/-
Due of timers, walked: the loop.
-/
import Derived.Test.YtphdmhjmaecddaaTm4
namespace Go.Proofs.Ytphdmhjmaecddaa
open Go.RowKit Go.Proofs.YtphdmhjmaecddaaW.PrintWords Go.Proofs.YtphdmhjmaecddaaW.PrintLast Go.Proofs.YtphdmhjmaecddaaW.PrintMore

/-- What Due has done. -/
def DueDone (w : World) (A : Nat) (now : Int) (S : List Tm) (Q : Nat → Prop) (e : Ending) (w' : World) : Prop :=
  ∃ v, e = .returned v ∧ w'.ownsRow w.heap.size 3 1 v (dueT now S).length (idv (dueT now S)) ∧ TT w' A (dueL now S) (fun k => Q k ∨ v.ownBlock = some k) ∧ Chg w w' (fun k => ¬ Q k)
theorem DueL.done {w wr : World} {A : Nat} {now : Int} {S T L : List Tm} {Q : Nat → Prop} {v5 : Value} (h : DueL w wr A now S T L Q v5) (hL : ∀ x r, L = x :: r → ¬ x.2 ≤ now) : DueDone w A now S Q (.returned v5) wr := by
  obtain ⟨h1, h2⟩ := due_split h.split h.due hL
  unfold DueDone
  rw [h1, h2]
  exact ⟨v5, rfl, h.row, h.tt, h.chg⟩

set_option maxRecDepth 100000 in
set_option maxHeartbeats 4000000 in
theorem due_walk {w : World} {A : Nat} {S : List Tm} {Q : Nat → Prop} (h : TT w A S Q) (now : Int) :
    Calls Try.prog 11 #[.pointer (some ⟨A, 0, none⟩), .int .i64 now] w (DueDone w A now S Q) := by
  have H := Lib.hid h
  clear h
  go_enter Try.func11, Try.ntmps11
  go_wp2_with fail
  go_loopg [5] (S.length + 1) (fun m v5 wr => ∃ (T L : List Tm), L.length < m ∧ Aside (DueL w wr A now S T L Q v5))
  case atStart =>
    exact ⟨[], S, Nat.lt_succ_self _, rfl, fun _ hx => (List.not_mem_nil hx).elim, H.out.sub (fun k hk => hk.elim id (fun e => by cases e)), ⟨rfl, .inl ⟨rfl, rfl⟩⟩, Chg.refl _ _⟩
  case round =>
    obtain ⟨T, L, hm, hd⟩ := hrel
    have HD := Lib.hid (Aside.out hd)
    clear hd
    cases L with
    | nil =>
      obtain ⟨a, c, c0⟩ := HD.out.tt.head_nil
      go_wp2_with fail
      go_ret
      exact HD.out.done (fun _ _ e => by cases e)
    | cons x r =>
      obtain ⟨B, c, c0, cx1, cx2⟩ := HD.out.tt.head_cons
      have n0 : (0 : Int) < ((r.length + 1 : Nat) : Int) := by omega
      by_cases hx : x.2 ≤ now
      · have HM := Lib.hid hm
        clear hm
        have hlen : T.length + 1 ≤ 256 := by
          have h1 := H.out.few
          rw [HD.out.split] at h1
          simp at h1
          omega
        have hml : T.length + 1 ≤ maxLen := Nat.le_trans (show T.length + 1 ≤ 1000 by omega) (by decide)
        obtain ⟨i0, hi0, hz0, hz1, hz2⟩ := info_parts info3
        have PO := Lib.hid (pop_tt HD.out.tt)
        have ka := assert59 x.1 x.2
        go_wp2_with fail
        go_at_call 22
        refine PO.out.mono ?_
        rintro e w1 ⟨rfl, ht, hc⟩
        have b := below_alloc (below_alloc (Below.refl w1.heap.size w1) (.cells #[.int .i64 x.1, .int .i64 x.2] 59)) (.cells #[.int .i64 x.1] 3)
        have hr := rowk (rowk HD.out.row hc (fun k e hk => hk (.inr e))) (Chg.of_below b (fun _ => False)) (fun _ _ e => e)
        have hbase := Nat.le_trans HD.out.chg.size (Nat.le_trans hc.size b.size)
        have hnw := World.news_of_block (cs := #[.int .i64 x.1]) (t := 3) (fr := (0, 0)) (heap_alloc_new (w1.alloc (.cells #[.int .i64 x.1, .int .i64 x.2] 59)) (.cells #[.int .i64 x.1] 3))
        have HR := Lib.hid hr
        have HB := Lib.hid b
        have HN := Lib.hid hnw
        have HT := Lib.hid ht
        have HC := Lib.hid hc
        clear hr b hnw ht hc
        go_wp2_with (at_builtin; refine wpList_append_lies _ rfl _ _ _ rfl w.heap.size 3 i0 _ 1 8 Try.underlying22 hi0 hz0 hz1 hz2 rfl (by omega) u5 T.length (idv T) rfl HR.out ⟨w1.heap.size + 1, 0, none⟩ 1 1 [.int .i64 x.1] rfl rfl (by simpa using HN.out) (by simp [Value.oneCell']) (by omega) hml (by omega) hbase (w1.heap.size + 2) (by simp) ?_; intro g cap w2 hown2 hgrow hat2 hlt)
        go_roundg (gk - 1)
        case measure => have := HM.out; omega
        case rel =>
          have hm := HM.out
          simp only [List.length_cons] at hm
          exact ⟨T ++ [x], r, by omega, HD.out.next hx HT.out HC.out HB.out hown2 hgrow (by simpa using hat2) hlt⟩
      · go_wp2_with fail
        go_ret
        exact HD.out.done (fun y s e => by injection e with e1 e2; subst e1; omega)
end Go.Proofs.Ytphdmhjmaecddaa
