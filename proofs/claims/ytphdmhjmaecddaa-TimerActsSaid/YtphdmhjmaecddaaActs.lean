/-
The walk of the statement TimerActs: timers under any calls.
-/
import Derived.Test.YtphdmhjmaecddaaActs0
namespace Go.Proofs.Ytphdmhjmaecddaa
open Go.RowKit Go.Proofs.YtphdmhjmaecddaaW.PrintWords Go.Proofs.YtphdmhjmaecddaaW.PrintLast Go.Proofs.YtphdmhjmaecddaaW.PrintMore

theorem acts_start {w w1 : World} {A : Nat} (ht : TT w1 A [] (fun k => k < w.heap.size)) (hb : Below w.heap.size w w1) :
    ActsL w (w1.alloc (.cells #[.slice none 0 0] 39)) A w1.heap.size (.slice none 0 0) [] := by
  have b1 : Below w1.heap.size w1 (w1.alloc (.cells #[.slice none 0 0] 39)) := below_alloc (Below.refl _ _) _
  refine ⟨(ht.below b1).sub (fun k hk => ?_), ⟨heap_alloc_new w1 _, ⟨rfl, .inl ⟨rfl, rfl⟩⟩, hb.size⟩, below_step hb b1⟩
  rcases hk with hk | rfl | hk
  · exact .inl hk
  · exact .inr ⟨Nat.le_refl _, by simp⟩
  · cases hk

theorem num_same (a : Int) (w : World) : Calls Try.prog 14 #[.int .i64 a] w fun e w' => e = .returned (.int .i64 a) ∧ w' = w :=
  (num_walk a w).mono fun _ _ ⟨h, k⟩ => ⟨h, k.symm⟩

theorem tlen_same {w : World} {A n : Nat} {S : List Tm} {Q : Nat → Prop} (h : TT w A S Q) (hn : S.length = n) : Calls Try.prog 13 #[.pointer (some ⟨A, 0, none⟩)] w fun e w' => e = .returned (.int .i64 n) ∧ w' = w := by
  subst hn
  exact (tlen_walk h).mono fun _ _ ⟨h, k⟩ => ⟨h, k.symm⟩

set_option maxRecDepth 100000 in
set_option maxHeartbeats 4000000 in
theorem acts_walk (a0 : Option Addr) (len0 cap0 : Nat) (w : World) (h0 : IsActs w a0 len0) :
    Calls Try.prog 5 #[.slice a0 len0 cap0] w fun e w' => e = .returned (.bool true) ∧ Below w.heap.size w w' := by
  have HA := Lib.hid h0
  have s0 := h0.1
  clear h0
  go_enter Try.func5, Try.ntmps5
  go_wp2_with fail
  go_at_call 9
  refine (new_walk _).mono ?_
  rintro e w1 ⟨rfl, ht, hb⟩
  have T := Lib.hid (acts_start ht hb)
  clear ht hb
  generalize w.heap.size + 1 = A at T ⊢
  go_wp2_with fail
  generalize w1.alloc (.cells #[.slice none 0 0] 39) = w2 at T ⊢
  generalize w1.heap.size = R at T ⊢
  go_loopg [5] 301 (fun m v5 wr => ∃ (q : Nat) (S : List Tm) (v : Value), v5 = .int .i64 q ∧ q ≤ 300 ∧ 300 - q < m ∧ Aside (ActsL w wr A R v S))
  case atStart => exact ⟨0, [], _, rfl, by omega, by omega, T.out⟩
  case round =>
    obtain ⟨q, S, v, rfl, hq, hqm, hst⟩ := hrel
    have HS := Lib.hid (Aside.out hst)
    clear hst T
    have q0 : (0 : Int) ≤ (q : Int) := Int.natCast_nonneg _
    by_cases hgo : q < len0 ∧ q < 300
    · obtain ⟨c0, c2⟩ := hgo
      have d0 : (q : Int) < (len0 : Int) := by omega
      have d2 : (q : Int) < 300 := by omega
      obtain ⟨p0, kd, id, tm, e0, g0, g1, g2, o0, o1, o2⟩ := HA.out.2 q c0
      subst e0
      have i0 := (HS.out.below.cell (World.block_lt_of_cell? w _ g0)).trans g0
      have i1 := (HS.out.below.cell (World.block_lt_of_cell? w _ g1)).trans g1
      have i2 := (HS.out.below.cell (World.block_lt_of_cell? w _ g2)).trans g2
      have j1 : wr.cell? ⟨(p0.add (q * 3)).block, (p0.add (q * 3)).off + 1, none⟩ = some (.int .i64 id) := i1
      have j2 : wr.cell? ⟨(p0.add (q * 3)).block, (p0.add (q * 3)).off + 2, none⟩ = some (.int .i64 tm) := i2
      have O1 := Lib.hid o1
      have O2 := Lib.hid o2
      clear g0 g1 g2 o0 o1 o2 c0 c2
      have b0 : Below wr.heap.size wr (wr.alloc (.cells #[.int .i64 kd, .int .i64 id, .int .i64 tm] 41)) := below_alloc (Below.refl _ _) _
      have n1 : (wr.alloc (.cells #[.int .i64 kd, .int .i64 id, .int .i64 tm] 41)).cell? ⟨wr.heap.size, 1, none⟩ = some (.int .i64 id) := World.cell?_alloc_new wr _ _ 1
      have n2 : (wr.alloc (.cells #[.int .i64 kd, .int .i64 id, .int .i64 tm] 41)).cell? ⟨wr.heap.size, 2, none⟩ = some (.int .i64 tm) := World.cell?_alloc_new wr _ _ 2
      have nh : Held w wr (wr.alloc (.cells #[.int .i64 kd, .int .i64 id, .int .i64 tm] 41)) R v wr.heap.size := .inr ⟨Nat.le_refl _, by simp⟩
      have N1 := Lib.hid n1
      have N2 := Lib.hid n2
      have NH := Lib.hid nh
      have B0 := Lib.hid b0
      clear n1 n2 nh b0
      by_cases k6 : kd < 6
      · go_wp2_with fail
        refine (set_walk (HS.out.wide B0.out) id tm O1.out O2.out).mono ?_
        rintro e w3 ⟨rfl, ht, hc⟩
        have t1 := hc.cell N1.out (fun hn => hn NH.out)
        have t2 := hc.cell N2.out (fun hn => hn NH.out)
        have HT := Lib.hid ht
        have HC := Lib.hid hc
        have HR := Lib.hid (HS.out.mid B0.out hc)
        have hlt : wr.heap.size < w3.heap.size := World.block_lt_of_cell? w3 _ t1
        clear ht hc i0 i1 i2 j1 j2
        go_wp2_with fail
        go_still_tail 7, (by kernel_rfl)
        still_call (num_same _ _)
        repeat still_step
        refine wpStill_nil ?_
        change wpList _ _ _ _ _ w3.drew
        go_wp2_with fail
        have bd : Below w3.heap.size w3 w3.drew := below_drewN w3 1 _
        refine (rset_walk (HR.out.below bd) HS.out.tt.ids id tm HS.out.tt.few).mono ?_
        rintro e w4 ⟨v4, rfl, hs⟩
        have AL := Lib.hid (HS.out.after B0.out HT.out HC.out bd hs)
        clear bd hs HT HC HR HS B0 N1 N2 NH t1 t2
        generalize setS id tm S = S2 at AL
        go_wp2_with fail
        cases S2 with
        | nil =>
          refine (next_is AL.out.tt (V := .tuple #[.int .i64 0, .int .i64 0, .int .i64 1101]) (by rfl)).mono ?_
          rintro e w5 ⟨rfl, _, hb⟩
          have AL5 := Lib.hid (AL.out.quiet hb)
          obtain ⟨x2, y2, e2, _⟩ := AL5.out.rr.form
          have c5 := AL5.out.rr.cell
          rw [e2] at c5
          simp only [List.length_nil] at c5
          have E2 := Lib.hid e2
          clear hb AL e2
          go_wp2_with fail
          go_quiet ((first | (go_at_call 13; exact Calls.quiet_of_same (tlen_same (n := 0) (AL5.out.tt.same (below_drewN _ _ _)) rfl)) | (go_at_call 14; exact Calls.quiet_of_same (num_same _ _))))
          go_wp2_with fail
          go_roundg (gk - 1)
          case measure => omega
          case rel => exact ⟨q + 1, [], _, by go_num, by omega, by omega, AL5.out.quiet (below_drewN _ _ _)⟩
        | cons x r =>
          refine (next_is AL.out.tt (V := .tuple #[.int .i64 x.1, .int .i64 x.2, .int .i64 0]) (by rfl)).mono ?_
          rintro e w5 ⟨rfl, _, hb⟩
          have AL5 := Lib.hid (AL.out.quiet hb)
          obtain ⟨B, y2, e2, _, _, _, hcell⟩ := AL5.out.rr.lies (by simp)
          have c5 := AL5.out.rr.cell
          rw [e2] at c5
          obtain ⟨u1, u2⟩ := hcell 0 (by simp)
          simp only [List.getElem_cons_zero, Nat.zero_mul, Nat.zero_add] at u1 u2
          have E2 := Lib.hid e2
          have HL := Lib.hid (show ∃ n, (x :: r).length = n from ⟨_, rfl⟩)
          obtain ⟨n, hn⟩ := HL.out
          have n0 : (0 : Int) < (n : Int) := by rw [← hn]; simp only [List.length_cons]; omega
          have nn : 0 < n := by omega
          have n2 : ¬ (n : Int) = 0 := by omega
          rw [hn] at c5
          have HN := Lib.hid hn
          have HB := Lib.hid hb
          clear hb AL e2 hcell hn HL
          go_wp2_with fail
          go_quiet ((first | (go_at_call 13; exact Calls.quiet_of_same (tlen_same (S := x :: r) (n := n) (AL5.out.tt.same (below_drewN _ _ _)) HN.out)) | (go_at_call 14; exact Calls.quiet_of_same (num_same _ _))))
          go_wp2_with fail
          go_roundg (gk - 1)
          case measure => omega
          case rel => exact ⟨q + 1, x :: r, _, by go_num, by omega, by omega, AL5.out.quiet (below_drewN _ _ _)⟩
      · by_cases k8 : kd < 8
        · go_wp2_with fail
          refine (stop_walk (HS.out.wide B0.out) id O1.out).mono ?_
          rintro e w3 ⟨rfl, ht, hc⟩
          have t1 := hc.cell N1.out (fun hn => hn NH.out)
          have HT := Lib.hid ht
          have HC := Lib.hid hc
          have HR := Lib.hid (HS.out.mid B0.out hc)
          have hlt : wr.heap.size < w3.heap.size := World.block_lt_of_cell? w3 _ t1
          clear ht hc i0 i1 i2 j1 j2
          go_wp2_with fail
          go_still_tail 5, (by kernel_rfl)
          still_call (num_same _ _)
          repeat still_step
          refine wpStill_nil ?_
          change wpList _ _ _ _ _ w3.drew
          go_wp2_with fail
          have bd : Below w3.heap.size w3 w3.drew := below_drewN w3 1 _
          refine (rstop_walk (HR.out.below bd) HS.out.tt.ids id HS.out.tt.few).mono ?_
          rintro e w4 ⟨v4, rfl, hs⟩
          have AL := Lib.hid (HS.out.after B0.out HT.out HC.out bd hs)
          clear bd hs HT HC HR HS B0 N1 N2 NH t1
          generalize del id S = S2 at AL
          go_wp2_with fail
          cases S2 with
          | nil =>
            refine (next_is AL.out.tt (V := .tuple #[.int .i64 0, .int .i64 0, .int .i64 1101]) (by rfl)).mono ?_
            rintro e w5 ⟨rfl, _, hb⟩
            have AL5 := Lib.hid (AL.out.quiet hb)
            obtain ⟨x2, y2, e2, _⟩ := AL5.out.rr.form
            have c5 := AL5.out.rr.cell
            rw [e2] at c5
            simp only [List.length_nil] at c5
            have E2 := Lib.hid e2
            clear hb AL e2
            go_wp2_with fail
            go_quiet ((first | (go_at_call 13; exact Calls.quiet_of_same (tlen_same (n := 0) (AL5.out.tt.same (below_drewN _ _ _)) rfl)) | (go_at_call 14; exact Calls.quiet_of_same (num_same _ _))))
            go_wp2_with fail
            go_roundg (gk - 1)
            case measure => omega
            case rel => exact ⟨q + 1, [], _, by go_num, by omega, by omega, AL5.out.quiet (below_drewN _ _ _)⟩
          | cons x r =>
            refine (next_is AL.out.tt (V := .tuple #[.int .i64 x.1, .int .i64 x.2, .int .i64 0]) (by rfl)).mono ?_
            rintro e w5 ⟨rfl, _, hb⟩
            have AL5 := Lib.hid (AL.out.quiet hb)
            obtain ⟨B, y2, e2, _, _, _, hcell⟩ := AL5.out.rr.lies (by simp)
            have c5 := AL5.out.rr.cell
            rw [e2] at c5
            obtain ⟨u1, u2⟩ := hcell 0 (by simp)
            simp only [List.getElem_cons_zero, Nat.zero_mul, Nat.zero_add] at u1 u2
            have E2 := Lib.hid e2
            have HL := Lib.hid (show ∃ n, (x :: r).length = n from ⟨_, rfl⟩)
            obtain ⟨n, hn⟩ := HL.out
            have n0 : (0 : Int) < (n : Int) := by rw [← hn]; simp only [List.length_cons]; omega
            have nn : 0 < n := by omega
            have n2 : ¬ (n : Int) = 0 := by omega
            rw [hn] at c5
            have HN := Lib.hid hn
            have HB := Lib.hid hb
            clear hb AL e2 hcell hn HL
            go_wp2_with fail
            go_quiet ((first | (go_at_call 13; exact Calls.quiet_of_same (tlen_same (S := x :: r) (n := n) (AL5.out.tt.same (below_drewN _ _ _)) HN.out)) | (go_at_call 14; exact Calls.quiet_of_same (num_same _ _))))
            go_wp2_with fail
            go_roundg (gk - 1)
            case measure => omega
            case rel => exact ⟨q + 1, x :: r, _, by go_num, by omega, by omega, AL5.out.quiet (below_drewN _ _ _)⟩
        · go_wp2_with fail
          refine (due_is (T := dueT tm S) (L := dueL tm S) (HS.out.wide B0.out) tm rfl rfl).mono ?_
          rintro e w3 ⟨b3, c3, rfl, hr, ht, hc⟩
          have t2 := hc.cell N2.out (fun hn => hn NH.out)
          have HT := Lib.hid (ht.sub (fun k hk => .inl hk))
          have HC := Lib.hid hc
          have HR := Lib.hid (HS.out.mid B0.out hc)
          have HW := Lib.hid hr
          have hlt : wr.heap.size < w3.heap.size := World.block_lt_of_cell? w3 _ t2
          clear ht hc hr i0 i1 i2 j1 j2
          go_wp2_with fail
          refine (rdue_walk HR.out tm HS.out.tt.few).mono ?_
          rintro e w4 ⟨u4, v4, rfl, hu, hs⟩
          rw [List.length_map] at hu
          obtain ⟨b4, c4, e4⟩ := row_form hu
          subst e4
          have AL0 := HS.out.after B0.out HT.out HC.out (Below.refl _ _) hs
          have hw := rowk HW.out hs.chg (fun k hk e => by
            have h1 := (row_base HW.out hk).1
            have h2 := HS.out.rr.lt
            have h3 := B0.out.size
            omega)
          have SA := Lib.hid (same_walk (v0 := .slice b3 (dueT tm S).length c3) (v1 := .slice b4 (dueT tm S).length c4) (xs := (dueT tm S).map (·.1)) (ys := (dueT tm S).map (·.1)) (by rw [List.length_map]; exact hw) (by rw [List.length_map]; exact hu) (by
            have h1 : (dueT tm S).length ≤ S.length := (List.takeWhile_sublist _).length_le
            have h2 := HS.out.tt.few
            rw [List.length_map]
            omega))
          rw [decide_eq_true rfl] at SA
          have HAL := Lib.hid AL0
          clear hu hs hw AL0 HT HC HR HW HS B0 N1 N2 NH t2
          go_wp2_with fail
          go_at_call 12
          refine SA.out.mono ?_
          rintro e w6 ⟨rfl, hb6⟩
          have AL := Lib.hid (HAL.out.quiet hb6)
          clear hb6 HAL SA
          generalize dueL tm S = S2 at AL
          go_wp2_with fail
          cases S2 with
          | nil =>
            refine (next_is AL.out.tt (V := .tuple #[.int .i64 0, .int .i64 0, .int .i64 1101]) (by rfl)).mono ?_
            rintro e w5 ⟨rfl, _, hb⟩
            have AL5 := Lib.hid (AL.out.quiet hb)
            obtain ⟨x2, y2, e2, _⟩ := AL5.out.rr.form
            have c5 := AL5.out.rr.cell
            rw [e2] at c5
            simp only [List.length_nil] at c5
            have E2 := Lib.hid e2
            clear hb AL e2
            go_wp2_with fail
            go_quiet ((first | (go_at_call 13; exact Calls.quiet_of_same (tlen_same (n := 0) (AL5.out.tt.same (below_drewN _ _ _)) rfl)) | (go_at_call 14; exact Calls.quiet_of_same (num_same _ _))))
            go_wp2_with fail
            go_roundg (gk - 1)
            case measure => omega
            case rel => exact ⟨q + 1, [], _, by go_num, by omega, by omega, AL5.out.quiet (below_drewN _ _ _)⟩
          | cons x r =>
            refine (next_is AL.out.tt (V := .tuple #[.int .i64 x.1, .int .i64 x.2, .int .i64 0]) (by rfl)).mono ?_
            rintro e w5 ⟨rfl, _, hb⟩
            have AL5 := Lib.hid (AL.out.quiet hb)
            obtain ⟨B, y2, e2, _, _, _, hcell⟩ := AL5.out.rr.lies (by simp)
            have c5 := AL5.out.rr.cell
            rw [e2] at c5
            obtain ⟨u1, u2⟩ := hcell 0 (by simp)
            simp only [List.getElem_cons_zero, Nat.zero_mul, Nat.zero_add] at u1 u2
            have E2 := Lib.hid e2
            have HL := Lib.hid (show ∃ n, (x :: r).length = n from ⟨_, rfl⟩)
            obtain ⟨n, hn⟩ := HL.out
            have n0 : (0 : Int) < (n : Int) := by rw [← hn]; simp only [List.length_cons]; omega
            have nn : 0 < n := by omega
            have n2 : ¬ (n : Int) = 0 := by omega
            rw [hn] at c5
            have HN := Lib.hid hn
            have HB := Lib.hid hb
            clear hb AL e2 hcell hn HL
            go_wp2_with fail
            go_quiet ((first | (go_at_call 13; exact Calls.quiet_of_same (tlen_same (S := x :: r) (n := n) (AL5.out.tt.same (below_drewN _ _ _)) HN.out)) | (go_at_call 14; exact Calls.quiet_of_same (num_same _ _))))
            go_wp2_with fail
            go_roundg (gk - 1)
            case measure => omega
            case rel => exact ⟨q + 1, x :: r, _, by go_num, by omega, by omega, AL5.out.quiet (below_drewN _ _ _)⟩
    · have HG : (¬ q < len0) ∨ (q < len0 ∧ ¬ q < 300) := by omega
      clear hgo
      rcases HG with c0 | ⟨c0, c2⟩
      all_goals
        go_wp2_with fail
        go_at_call 8
        refine (awake_walk _).mono ?_
        rintro e w4 ⟨rfl, hb⟩
        have BB := Lib.hid (below_step HS.out.below hb)
        clear hb HS
        go_wp2_with fail
        go_ret
        exact ⟨rfl, BB.out⟩
end Go.Proofs.Ytphdmhjmaecddaa
