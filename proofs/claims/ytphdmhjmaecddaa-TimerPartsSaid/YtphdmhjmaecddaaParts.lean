/-
The walk of the statement TimerParts: what falls due in two parts.
-/
import Derived.Test.YtphdmhjmaecddaaArgs
namespace Go.Proofs.Ytphdmhjmaecddaa
open Go.RowKit Go.Proofs.YtphdmhjmaecddaaW.PrintWords Go.Proofs.YtphdmhjmaecddaaW.PrintLast Go.Proofs.YtphdmhjmaecddaaW.PrintMore

theorem parts_plain {mn mx : Int} (h : mn ≤ mx) : ∀ S : List Tm, dueT mn S ++ dueT mx (dueL mn S) = dueT mx S ∧ dueL mx (dueL mn S) = dueL mx S
  | [] => ⟨rfl, rfl⟩
  | x :: r => by
    have ih := parts_plain h r
    unfold dueT dueL at *
    by_cases e : x.2 ≤ mn
    · have e2 : x.2 ≤ mx := by omega
      simp only [List.takeWhile_cons, List.dropWhile_cons, e, e2, decide_true, if_true, List.cons_append]
      exact ⟨by rw [ih.1], ih.2⟩
    · simp only [List.takeWhile_cons, List.dropWhile_cons, e, decide_false, Bool.false_eq_true, if_false, List.nil_append]
      exact ⟨trivial, trivial⟩

/-- What the law's loop keeps. -/
structure PartsL (w wr : World) (A B : Nat) (S : List Tm) : Prop where
  two : Two wr A B S S (fun k => k < w.heap.size)
  below : Below w.heap.size w wr

theorem rowm {w : World} {base : Nat} {v : Value} {T : List Tm} (h : w.ownsRow base 3 1 v T.length (iv (T.map (·.1)))) : w.ownsRow base 3 1 v (T.map (·.1)).length (iv (T.map (·.1))) := by
  rw [List.length_map]
  exact h
theorem dueT_le (now : Int) (S : List Tm) : (dueT now S).length ≤ S.length := (List.takeWhile_sublist _).length_le
theorem dueL_le (now : Int) (S : List Tm) : (dueL now S).length ≤ S.length := (List.dropWhile_sublist _).length_le
theorem parts_small {S : List Tm} {mn mx : Int} (h : S.length ≤ 256) : ((dueT mn S).map (·.1)).length + ((dueT mx (dueL mn S)).map (·.1)).length ≤ 1000000 := by
  have h1 := dueT_le mn S
  have h2 := dueT_le mx (dueL mn S)
  have h3 := dueL_le mn S
  rw [List.length_map, List.length_map]
  omega
theorem parts_small2 {S : List Tm} {mn mx : Int} (h : S.length ≤ 256) : ((dueT mn S).map (·.1) ++ (dueT mx (dueL mn S)).map (·.1)).length ≤ 1000000 := by
  rw [List.length_append]
  exact parts_small h
theorem parts_same {mn mx : Int} (h : mn ≤ mx) (S : List Tm) : (dueT mn S).map (·.1) ++ (dueT mx (dueL mn S)).map (·.1) = (dueT mx S).map (·.1) := by
  rw [← List.map_append, (parts_plain h S).1]

theorem parts_append {w wr w4 w5 : World} {A B : Nat} {Sa Sb : List Tm} {v3 v5 : Value} {xs zs : List Int} {R : Nat → Prop} (hb : Below w.heap.size w wr)
    (h3 : w4.ownsRow wr.heap.size 3 1 v3 xs.length (iv xs)) (h4 : Two w4 A B Sa Sb (fun k => (k < w.heap.size ∨ v3.ownBlock = some k) ∨ R k)) (hb4 : Below w.heap.size w w4)
    (h5 : w5.ownsRow wr.heap.size 3 1 v5 zs.length (iv zs)) (hg : w4.grownBy w5 v3.ownBlock) (hat : v5.ownBlock = v3.ownBlock ∨ v5.ownBlock = some w4.heap.size) :
    Two w5 A B Sa Sb (fun k => k < w.heap.size ∨ v5.ownBlock = some k) ∧ w5.ownsRow wr.heap.size 3 1 v5 zs.length (iv zs) ∧ Below w.heap.size w w5 := by
  have hc : Chg w4 w5 (fun k => v3.ownBlock = some k) := Chg.grown hg (fun k hk => hk)
  refine ⟨(h4.keep hc (fun k hk => .inl (.inr hk))).sub (fun k hk => ?_), h5, below_chg hb4 (Q := fun k => k < w.heap.size) (hc.mono (fun k _ hk hq => ?_)) (fun _ h => h)⟩
  · rcases hk with hk | hk
    · exact .inl (.inl (.inl hk))
    · rcases hat with hat | hat
      · exact .inl (.inl (.inr (hat ▸ hk)))
      · have := (row_base h5 hk).2
        rw [hat] at hk
        injection hk with hk
        exact .inr ⟨by omega, by omega⟩
  · have := (row_base h3 hk).1
    have := hb.size
    omega

set_option maxRecDepth 100000 in
set_option maxHeartbeats 4000000 in
theorem parts_walk (a0 : Option Addr) (len0 cap0 : Nat) (z0 : List Int) (a1 : Option Addr) (len1 cap1 : Nat) (z1 : List Int) (a2 a3 : Int) (w : World) (h0 : IsRow .i64 w a0 len0 cap0 z0) (h1 : IsRow .i64 w a1 len1 cap1 z1) :
    Calls Try.prog 3 #[.slice a0 len0 cap0, .slice a1 len1 cap1, .int .i64 a2, .int .i64 a3] w fun e w' => e = .returned (.bool true) ∧ Below w.heap.size w w' := by
  obtain ⟨x, ex, x0, x1⟩ := and255 a2
  obtain ⟨y, ey, y0, y1⟩ := and255 a3
  have HR0 := Lib.hid h0
  have HR1 := Lib.hid h1
  have s0 := h0.small
  have s1 := h1.small
  clear h0 h1
  go_enter Try.func3, Try.ntmps3
  go_wp2_with fail
  go_at_call 8
  refine (awake_walk _).mono ?_
  rintro e w0 ⟨rfl, hb0⟩
  have HB0 := Lib.hid hb0
  clear hb0
  go_wp2_with fail
  go_at_call 9
  refine (new_walk _).mono ?_
  rintro e w1 ⟨rfl, ht, hb⟩
  have T1 := Lib.hid (ht.sub (Q' := fun k => k < w.heap.size) (fun k hk => Nat.lt_of_lt_of_le hk HB0.out.size))
  have B1 := Lib.hid (below_step HB0.out hb)
  clear ht hb HB0
  generalize w0.heap.size + 1 = A at T1 ⊢
  go_wp2_with fail
  go_at_call 9
  refine (new_walk _).mono ?_
  rintro e w2 ⟨rfl, ht, hb⟩
  have T := Lib.hid (show PartsL w w2 A (w1.heap.size + 1) [] from ⟨Two.made T1.out hb ht, below_step B1.out hb⟩)
  clear ht hb T1 B1
  generalize w1.heap.size + 1 = B at T ⊢
  go_wp2_with fail
  go_loopg [11] 61 (fun m v11 wr => ∃ (q : Nat) (S : List Tm), v11 = .int .i64 q ∧ q ≤ 60 ∧ 60 - q < m ∧ Aside (PartsL w wr A B S))
  case atStart => exact ⟨0, [], rfl, by omega, by omega, T.out⟩
  case round =>
    obtain ⟨q, S, rfl, hq, hqm, hst⟩ := hrel
    have HS := Lib.hid (Aside.out hst)
    clear hst T
    have q0 : (0 : Int) ≤ (q : Int) := Int.natCast_nonneg _
    by_cases hgo : q < len0 ∧ q < len1 ∧ q < 60
    · obtain ⟨c0, c1, c2⟩ := hgo
      have d0 : (q : Int) < (len0 : Int) := by omega
      have d1 : (q : Int) < (len1 : Int) := by omega
      have d2 : (q : Int) < 60 := by omega
      obtain ⟨p0, m0, e0, g0, o0⟩ := HR0.out.at_ q c0
      obtain ⟨p1, m1, e1, g1, o1⟩ := HR1.out.at_ q c1
      subst e0 e1
      obtain ⟨k, ek, k0, k1⟩ := and63 m0
      obtain ⟨v, ev, v0, v1⟩ := and255 m1
      have okk : ok64 k := by rw [ok64_iff]; omega
      have okv : ok64 v := by rw [ok64_iff]; omega
      have l0 := World.block_lt_of_cell? w _ g0
      have l1 := World.block_lt_of_cell? w _ g1
      have i0 := (HS.out.below.cell l0).trans g0
      have i1 := (HS.out.below.cell l1).trans g1
      have g0' := Lib.hid g0
      have g1' := Lib.hid g1
      clear g0 g1 c0 c1 c2 o0 o1
      go_wp2_with fail
      go_still_tail 11, (by kernel_rfl)
      go_wp2_with fail
      refine (Two.step (Sa' := setS k v S) (E := fun e _ => e = .returned (.int .i64 (setE k v S))) (HS.out.two.quiet (below_drewN wr 1 wr.heap.size)) (fun R hR => set_walk hR k v okk okv)).mono ?_
      rintro e w3 ⟨rfl, ht, hc⟩
      have T3 := Lib.hid ht
      have B3 := Lib.hid (below_chg (below_step HS.out.below (below_drewN wr 1 wr.heap.size)) hc (fun _ h => h))
      clear ht hc i0 i1
      have i0 := (B3.out.cell l0).trans g0'.out
      have i1 := (B3.out.cell l1).trans g1'.out
      clear HS
      go_wp2_with fail
      go_still_tail 11, (by kernel_rfl)
      go_wp2_with fail
      refine (Two.step (Sa' := setS k v S) (E := fun e _ => e = .returned (.int .i64 (setE k v S))) (T3.out.swap.quiet (below_drewN w3 1 w3.heap.size)) (fun R hR => set_walk hR k v okk okv)).mono ?_
      rintro e w4 ⟨rfl, ht, hc⟩
      have T4 := Lib.hid (show PartsL w w4 A B (setS k v S) from ⟨ht.swap, below_chg (below_step B3.out (below_drewN w3 1 w3.heap.size)) hc (fun _ h => h)⟩)
      clear ht hc i0 i1 T3 B3
      go_wp2_with fail
      go_roundg (gk - 1)
      case measure => omega
      case rel => exact ⟨q + 1, setS k v S, by go_num, by omega, by omega, T4.out⟩
    · have HG : (¬ q < len0) ∨ (q < len0 ∧ ¬ q < len1) ∨ (q < len0 ∧ q < len1 ∧ ¬ q < 60) := by omega
      clear hgo
      have HF := Lib.hid HS.out.two.left.few
      by_cases e : x = y
      · subst e
        have HLE := Lib.hid (Int.le_refl x)
        rcases HG with c0 | ⟨c0, c1⟩ | ⟨c0, c1, c2⟩
        all_goals
          go_wp2_with fail
          refine (HS.out.two.due (T := dueT x S) (L := dueL x S) x rfl rfl).mono ?_
          rintro e w3 ⟨b3, c3, rfl, hr, ht, hc⟩
          have R3 := Lib.hid (rowm hr)
          have T3 := Lib.hid ht
          have B3 := Lib.hid (below_chg HS.out.below hc (fun _ h => h))
          have Z3 := Lib.hid hc.size
          clear ht hc hr
          go_wp2_with fail
          refine (T3.out.due (T := dueT x (dueL x S)) (L := dueL x S) x rfl (parts_plain HLE.out S).2).mono ?_
          rintro e w4 ⟨b4, c4, rfl, hr, ht, hc⟩
          have R4 := Lib.hid (rowm hr)
          have R3' := Lib.hid (rowk R3.out hc (fun k hk hn => hn (.inr hk)))
          have T4 := Lib.hid ht
          have B4 := Lib.hid (below_chg B3.out hc (fun _ h => .inl h))
          have Z4 := Lib.hid (Nat.le_trans Z3.out hc.size)
          clear ht hc hr T3 B3 R3 Z3
          go_wp2_with (at_builtin; refine wpList_append_row rfl _ _ rfl rfl rfl R3'.out R4.out (parts_small HF.out) Z4.out ?_; intro v5 w5 hr5 hg5 hat5)
          obtain ⟨b5, c5, rfl⟩ := row_form hr5
          have P5 := Lib.hid (parts_append HS.out.below R3'.out T4.out B4.out hr5 hg5 hat5)
          clear hr5 hg5 hat5 T4 B4 R3' R4 Z4
          generalize hn5 : ((dueT x S).map (·.1) ++ (dueT x (dueL x S)).map (·.1)).length = n5 at P5 ⊢
          have HN5 := Lib.hid hn5
          clear hn5
          go_wp2_with fail
          refine (P5.out.1.swap.due (T := dueT x S) (L := dueL x S) x rfl rfl).mono ?_
          rintro e w6 ⟨b6, c6, rfl, hr, ht, hc⟩
          have R6 := Lib.hid (rowm hr)
          have R5 := Lib.hid (rowk P5.out.2.1 hc (fun k hk hn => hn (.inr hk)))
          have T6 := Lib.hid ht.swap
          have B6 := Lib.hid (below_chg P5.out.2.2 hc (fun _ h => .inl h))
          clear hr ht hc P5
          go_wp2_with fail
          go_at_call 12
          refine (same_walk (w := w6) (v0 := .slice b5 n5 c5) (xs := (dueT x S).map (·.1) ++ (dueT x (dueL x S)).map (·.1)) (by rw [HN5.out]; exact R5.out) R6.out (parts_small2 HF.out)).mono ?_
          rintro e w7 ⟨rfl, hb7⟩
          rw [decide_eq_true (parts_same HLE.out S)]
          have T7 := Lib.hid (T6.out.quiet hb7)
          have B7 := Lib.hid (below_step B6.out hb7)
          clear hb7 R5 R6 T6 B6
          go_wp2_with fail
          refine (tlen_walk T7.out.left).mono ?_
          rintro e w8 ⟨rfl, rfl⟩
          go_wp2_with fail
          refine (tlen_walk T7.out.right).mono ?_
          rintro e w8 ⟨rfl, rfl⟩
          go_wp2_with (go_at_call 14; refine (num_walk _ _).mono ?_; rintro e w' ⟨rfl, rfl⟩)
          go_ret
          exact ⟨rfl, B7.out⟩
      · obtain ⟨mn, mx, hm, hle⟩ : ∃ mn mx : Int, ((mn = x ∧ mx = y ∧ x < y) ∨ (mn = y ∧ mx = x ∧ y < x)) ∧ mn ≤ mx := by
          by_cases e2 : x < y
          · exact ⟨x, y, .inl ⟨rfl, rfl, e2⟩, by omega⟩
          · exact ⟨y, x, .inr ⟨rfl, rfl, by omega⟩, by omega⟩
        have HLE := Lib.hid hle
        clear hle e
        rcases HG with c0 | ⟨c0, c1⟩ | ⟨c0, c1, c2⟩ <;> rcases hm with ⟨e1, e2, hxy⟩ | ⟨e1, e2, hxy⟩
        all_goals
          subst e1 e2
          go_wp2_with fail
          refine (HS.out.two.due (T := dueT mn S) (L := dueL mn S) mn rfl rfl).mono ?_
          rintro e w3 ⟨b3, c3, rfl, hr, ht, hc⟩
          have R3 := Lib.hid (rowm hr)
          have T3 := Lib.hid ht
          have B3 := Lib.hid (below_chg HS.out.below hc (fun _ h => h))
          have Z3 := Lib.hid hc.size
          clear ht hc hr
          go_wp2_with fail
          refine (T3.out.due (T := dueT mx (dueL mn S)) (L := dueL mx S) mx rfl (parts_plain HLE.out S).2).mono ?_
          rintro e w4 ⟨b4, c4, rfl, hr, ht, hc⟩
          have R4 := Lib.hid (rowm hr)
          have R3' := Lib.hid (rowk R3.out hc (fun k hk hn => hn (.inr hk)))
          have T4 := Lib.hid ht
          have B4 := Lib.hid (below_chg B3.out hc (fun _ h => .inl h))
          have Z4 := Lib.hid (Nat.le_trans Z3.out hc.size)
          clear ht hc hr T3 B3 R3 Z3
          go_wp2_with (at_builtin; refine wpList_append_row rfl _ _ rfl rfl rfl R3'.out R4.out (parts_small HF.out) Z4.out ?_; intro v5 w5 hr5 hg5 hat5)
          obtain ⟨b5, c5, rfl⟩ := row_form hr5
          have P5 := Lib.hid (parts_append HS.out.below R3'.out T4.out B4.out hr5 hg5 hat5)
          clear hr5 hg5 hat5 T4 B4 R3' R4 Z4
          generalize hn5 : ((dueT mn S).map (·.1) ++ (dueT mx (dueL mn S)).map (·.1)).length = n5 at P5 ⊢
          have HN5 := Lib.hid hn5
          clear hn5
          go_wp2_with fail
          refine (P5.out.1.swap.due (T := dueT mx S) (L := dueL mx S) mx rfl rfl).mono ?_
          rintro e w6 ⟨b6, c6, rfl, hr, ht, hc⟩
          have R6 := Lib.hid (rowm hr)
          have R5 := Lib.hid (rowk P5.out.2.1 hc (fun k hk hn => hn (.inr hk)))
          have T6 := Lib.hid ht.swap
          have B6 := Lib.hid (below_chg P5.out.2.2 hc (fun _ h => .inl h))
          clear hr ht hc P5
          go_wp2_with fail
          go_at_call 12
          refine (same_walk (w := w6) (v0 := .slice b5 n5 c5) (xs := (dueT mn S).map (·.1) ++ (dueT mx (dueL mn S)).map (·.1)) (by rw [HN5.out]; exact R5.out) R6.out (parts_small2 HF.out)).mono ?_
          rintro e w7 ⟨rfl, hb7⟩
          rw [decide_eq_true (parts_same HLE.out S)]
          have T7 := Lib.hid (T6.out.quiet hb7)
          have B7 := Lib.hid (below_step B6.out hb7)
          clear hb7 R5 R6 T6 B6
          go_wp2_with fail
          refine (tlen_walk T7.out.left).mono ?_
          rintro e w8 ⟨rfl, rfl⟩
          go_wp2_with fail
          refine (tlen_walk T7.out.right).mono ?_
          rintro e w8 ⟨rfl, rfl⟩
          go_wp2_with (go_at_call 14; refine (num_walk _ _).mono ?_; rintro e w' ⟨rfl, rfl⟩)
          go_ret
          exact ⟨rfl, B7.out⟩
end Go.Proofs.Ytphdmhjmaecddaa
