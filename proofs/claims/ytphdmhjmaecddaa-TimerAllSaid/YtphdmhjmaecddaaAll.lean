/-
The walk of the statement TimerAll: all that was set falls due, once.
-/
import Derived.Test.YtphdmhjmaecddaaAll1
namespace Go.Proofs.Ytphdmhjmaecddaa
open Go.RowKit Go.Proofs.YtphdmhjmaecddaaW.PrintWords Go.Proofs.YtphdmhjmaecddaaW.PrintLast Go.Proofs.YtphdmhjmaecddaaW.PrintMore

set_option maxRecDepth 100000 in
set_option maxHeartbeats 4000000 in
theorem all_walk (a0 : Option Addr) (len0 cap0 : Nat) (z0 : List Int) (a1 : Option Addr) (len1 cap1 : Nat) (z1 : List Int) (w : World) (h0 : IsRow .i64 w a0 len0 cap0 z0) (h1 : IsRow .i64 w a1 len1 cap1 z1) :
    Calls Try.prog 6 #[.slice a0 len0 cap0, .slice a1 len1 cap1] w fun e w' => e = .returned (.bool true) ∧ Below w.heap.size w w' := by
  have HR0 := Lib.hid h0
  have HR1 := Lib.hid h1
  have s0 := h0.small
  have s1 := h1.small
  have mk1 := make_la
  have mk2 := make_ha
  clear h0 h1
  go_enter Try.func6, Try.ntmps6
  go_wp2_with fail
  go_at_call 8
  refine (awake_walk _).mono ?_
  rintro e w0 ⟨rfl, hb0⟩
  have HB0 := Lib.hid hb0
  clear hb0
  go_wp2_with fail
  go_at_call 9
  refine (new_walk _).mono ?_
  rintro e w1 ⟨rfl, ht, hb⟩
  have T := Lib.hid (AllL.start (ht.sub (Q' := fun k => k < w.heap.size) (fun k hk => Nat.lt_of_lt_of_le hk HB0.out.size)) (below_step HB0.out hb))
  clear ht hb HB0
  generalize w0.heap.size + 1 = A at T ⊢
  go_wp2_with fail
  clear mk1 mk2
  generalize (w1.alloc (.cells (arr la0) 3)).alloc (.cells (arb ha0) 4) = w2 at T ⊢
  generalize w1.heap.size + 1 = g2 at T ⊢
  generalize w1.heap.size = g1 at T ⊢
  go_loopg [8] 101 (fun m v8 wr => ∃ (q : Nat) (S : List Tm) (la : List Int) (ha : List Bool), v8 = .int .i64 q ∧ q ≤ 100 ∧ 100 - q < m ∧ Aside (AllL w wr A g1 g2 S la ha))
  case atStart => exact ⟨0, [], la0, ha0, rfl, by omega, by omega, T.out⟩
  case round =>
    obtain ⟨q, S, la, ha, rfl, hq, hqm, hst⟩ := hrel
    have HS := Lib.hid (Aside.out hst)
    clear hst T
    have q0 : (0 : Int) ≤ (q : Int) := Int.natCast_nonneg _
    by_cases hgo : q < len0 ∧ q < len1 ∧ q < 100
    · obtain ⟨c0, c1, c2⟩ := hgo
      have d0 : (q : Int) < (len0 : Int) := by omega
      have d1 : (q : Int) < (len1 : Int) := by omega
      have d2 : (q : Int) < 100 := by omega
      obtain ⟨p0, m0, e0, g0, o0⟩ := HR0.out.at_ q c0
      obtain ⟨p1, m1, e1, g1', o1⟩ := HR1.out.at_ q c1
      subst e0 e1
      obtain ⟨k, ek, k0, k1⟩ := and63 m0
      obtain ⟨v, ev, v0, v1⟩ := and1023 m1
      obtain ⟨kn, rfl⟩ := Int.eq_ofNat_of_zero_le k0
      have okk : ok64 (kn : Int) := by rw [ok64_iff]; omega
      have okv : ok64 v := by rw [ok64_iff]; omega
      have i0 := (HS.out.below.cell (World.block_lt_of_cell? w _ g0)).trans g0
      have i1 := (HS.out.below.cell (World.block_lt_of_cell? w _ g1')).trans g1'
      clear g0 g1' c0 c1 c2
      go_wp2_with fail
      go_quiet (fail)
      go_wp2_with fail
      go_at_call 10
      have b0 := below_drewN wr nq wr.heap.size
      refine (set_is (S' := setS (kn : Int) v S) (E := 0) (HS.out.tt.same b0) (kn : Int) v okk okv (HS.out.tells.setE kn v v0) rfl).mono ?_
      rintro e w3 ⟨rfl, ht, hc⟩
      have hc' := (Chg.of_below b0 (fun j => ¬ (j < w.heap.size ∨ j = g1 ∨ j = g2))).then hc
      have T3 := Lib.hid (HS.out.next kn v (by omega) v0 (by omega) ht hc')
      have hr := HS.out.rows.keep hc' (fun hn => hn (.inr (.inl rfl))) (fun hn => hn (.inr (.inr rfl)))
      have hl1 := HS.out.tells.l1
      have hl2 := HS.out.tells.l2
      have hne := HS.out.ne
      have x1 : w3.cell? ⟨g1, kn, none⟩ = some (.int .i64 (la.getD kn 0)) := by rw [cell_of_row w3 g1 kn _ 3 _ hr.r1, arr_at la kn (by omega)]
      have f1 := frozen_of_row w3 g1 kn _ 3 hr.r1
      have hr2 : (w3.setCell ⟨g1, kn, none⟩ (.int .i64 v)).heap[g2]? = some (.cells (arb ha) 4 (0, 0)) := by
        rw [heap_setCell_other _ ⟨g1, kn, none⟩ g2 _ (fun e => hne e.symm)]
        exact hr.r2
      have x2 : (w3.setCell ⟨g1, kn, none⟩ (.int .i64 v)).cell? ⟨g2, kn, none⟩ = some (.bool (ha.getD kn false)) := by rw [cell_of_row _ g2 kn _ 4 _ hr2, arb_at ha kn (by omega)]
      have f2 := frozen_of_row _ g2 kn _ 4 hr2
      have kl : (kn : Int) < 64 := by omega
      clear ht hc hc' hr hr2 hl1 hl2 b0 i0 i1 HS hne ek ev o0 o1
      go_wp2_with (go_at_call 14; refine (num_walk _ _).mono ?_; rintro e w' ⟨rfl, rfl⟩)
      go_roundg (gk - 1)
      case measure => omega
      case rel => exact ⟨q + 1, _, _, _, by go_num, by omega, by omega, T3.out⟩
    · have HG : (¬ q < len0) ∨ (q < len0 ∧ ¬ q < len1) ∨ (q < len0 ∧ q < len1 ∧ ¬ q < 100) := by omega
      clear hgo
      have TL := Lib.hid HS.out.tells.all
      have SM := HS.out.tells.few
      have L2 := Lib.hid HS.out.tells.l2
      rcases HG with c0 | ⟨c0, c1⟩ | ⟨c0, c1, c2⟩
      all_goals
        go_wp2_with fail
        refine (due_is HS.out.tt 1023 (T := S) (L := []) TL.out.1 TL.out.2).mono ?_
        rintro e w3 ⟨b3, c3, rfl, hr, ht, hc⟩
        have D := Lib.hid (HS.out.fallen hr ht hc)
        clear hr ht hc HS
        go_wp2_with fail
        go_loopg [13, 14] 65 (fun m v13 v14 wr => ∃ (j c : Nat), v13 = .int .i64 c ∧ v14 = .int .i64 j ∧ j ≤ 64 ∧ c ≤ j ∧ 64 - j < m ∧ wr = w3 ∧ Aside (c = (ha.take j).count true))
        case atStart => exact ⟨0, 0, rfl, rfl, by omega, by omega, by omega, rfl, rfl⟩
        case round =>
          obtain ⟨j, c, rfl, rfl, hj, hcj, hjm, rfl, hcnt⟩ := hrel
          have HC := Lib.hid (Aside.out hcnt)
          clear hcnt
          have j0 : (0 : Int) ≤ (j : Int) := Int.natCast_nonneg _
          by_cases hlt : j < 64
          · have d : (j : Int) < 64 := by omega
            have x := D.out.cell2 j hlt
            have HN := Lib.hid (count_next L2.out j hlt)
            clear hlt
            generalize ha.getD j false = b at x HN
            cases b with
            | true =>
              go_wp2_with fail
              go_roundg (gk - 1)
              case measure => omega
              case rel => exact ⟨j + 1, c + 1, by go_num, by go_num, by omega, by omega, by omega, rfl, by have h1 := HC.out; have h2 := HN.out; simp only [if_true] at h2; show c + 1 = _; omega⟩
            | false =>
              go_wp2_with fail
              go_roundg (gk - 1)
              case measure => omega
              case rel => exact ⟨j + 1, c, by go_num, by go_num, by omega, by omega, by omega, rfl, by have h1 := HC.out; have h2 := HN.out; simp only [Bool.false_eq_true, if_false, Nat.add_zero] at h2; show c = _; omega⟩
          · obtain rfl : j = 64 := by omega
            have ec : c = S.length := by
              have h1 := HC.out
              rw [List.take_of_length_le (by rw [L2.out]; omega), D.out.tells.cnt] at h1
              exact h1
            subst ec
            clear hlt j0 hj hcj hjm HC
            go_wp2_with fail
            go_loopg [15] (S.length + 2) (fun m v15 wq => ∃ (p d : Nat), v15 = .int .i64 ((p : Int) + 1) ∧ p ≤ S.length ∧ S.length + 1 - p < m ∧ wq = World.drewN _ d)
            case atStart => exact ⟨0, 0, by first | rfl | go_num, by omega, by omega, rfl⟩
            case round =>
              obtain ⟨p, d, rfl, hp, hpm, rfl⟩ := hrel
              have p0 : (0 : Int) ≤ (p : Int) := Int.natCast_nonneg _
              by_cases hlt : p + 1 < S.length
              · obtain ⟨g3, an, bn, xa, ya, e3, t1, t2, t3, t4, a64, b64, hd⟩ := D.out.round p hlt
                subst e3
                have u1 : (p : Int) + 1 < (S.length : Int) := by omega
                have u2 : (p : Int) < (S.length : Int) := by omega
                have u3 : (0 : Int) ≤ (an : Int) := Int.natCast_nonneg _
                have u4 : (0 : Int) ≤ (bn : Int) := Int.natCast_nonneg _
                have u5 : (an : Int) < 64 := by omega
                have u6 : (bn : Int) < 64 := by omega
                rcases hd with hd | ⟨rfl, hd⟩
                · have y1 : decide ((an : Int) < 0) = false := decide_eq_false (by omega)
                  have y2 : decide ((bn : Int) < 0) = false := decide_eq_false (by omega)
                  have y3 : decide ((63 : Int) < (an : Int)) = false := decide_eq_false (by omega)
                  have y4 : decide ((63 : Int) < (bn : Int)) = false := decide_eq_false (by omega)
                  have y5 : decide (ya < xa) = false := decide_eq_false (by omega)
                  have y6 : (xa == ya) = false := by simp; omega
                  clear a64 b64
                  go_wp2_with fail
                  go_quiet (fail)
                  go_wp2_with fail
                  go_quiet (fail)
                  go_wp2_with fail
                  go_roundg (gk - 1)
                  case measure => omega
                  case rel => exact ⟨p + 1, _, by go_num, by omega, by omega, rfl⟩
                · have y1 : decide ((an : Int) < 0) = false := decide_eq_false (by omega)
                  have y2 : decide ((bn : Int) < 0) = false := decide_eq_false (by omega)
                  have y3 : decide ((63 : Int) < (an : Int)) = false := decide_eq_false (by omega)
                  have y4 : decide ((63 : Int) < (bn : Int)) = false := decide_eq_false (by omega)
                  have y6 : decide ((bn : Int) ≤ (an : Int)) = false := decide_eq_false (by omega)
                  have y7 : decide (bn ≤ an) = false := decide_eq_false (by omega)
                  clear a64 b64
                  go_wp2_with fail
                  go_quiet (fail)
                  go_wp2_with fail
                  go_quiet (fail)
                  go_wp2_with fail
                  go_roundg (gk - 1)
                  case measure => omega
                  case rel => exact ⟨p + 1, _, by go_num, by omega, by omega, rfl⟩
              · have u1 : ¬ (p : Int) + 1 < (S.length : Int) := by omega
                go_wp2_with fail
                refine (tlen_walk (D.out.tt.same (below_drewN _ d _))).mono ?_
                rintro e w5 ⟨rfl, rfl⟩
                simp only [List.length_nil]
                go_wp2_with fail
                refine (due_is (T := []) (L := []) (D.out.tt.same (below_drewN _ d _)) 5000 (by rfl) (by rfl)).mono ?_
                rintro e w6 ⟨b6, c6, rfl, hr, ht, hc⟩
                have B6 := Lib.hid (below_chg (below_step D.out.below (below_drewN _ d _)) hc (fun _ h => h))
                clear hr ht hc
                simp only [List.length_nil]
                go_wp2_with fail
                go_ret
                exact ⟨rfl, B6.out⟩
end Go.Proofs.Ytphdmhjmaecddaa
