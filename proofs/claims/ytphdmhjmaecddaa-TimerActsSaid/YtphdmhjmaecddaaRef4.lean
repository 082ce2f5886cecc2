/-
The document's own timers: Set, walked.
-/
import Derived.Test.YtphdmhjmaecddaaRef3
namespace Go.Proofs.Ytphdmhjmaecddaa
open Go.RowKit Go.Proofs.YtphdmhjmaecddaaW.PrintWords Go.Proofs.YtphdmhjmaecddaaW.PrintLast Go.Proofs.YtphdmhjmaecddaaW.PrintMore

set_option maxRecDepth 100000 in
set_option maxHeartbeats 4000000 in
theorem rset_old {w : World} {b R : Nat} {v : Value} {S : List Tm} (h : RR w b R v S) (hids : Ids S) (k a : Int) (hm : S.length ≤ 256) (k0 : 0 ≤ k) (a0 : 0 ≤ a) (hh : has k S = true) :
    Calls Try.prog 16 #[.pointer (some ⟨R, 0, none⟩), .int .i64 k, .int .i64 a] w (RSetDone k a S w b R v) := by
  have PL := Lib.hid (place_walk h k (by omega))
  have SP := Lib.hid (rstop_walk h hids k hm)
  have hE : setE k a S = 0 := by unfold setE; rw [if_neg (by omega), if_pos (.inl hh)]
  have hS : setS k a S = ins (k, a) (del k S) := by unfold setS; rw [if_neg (by omega), if_pos (.inl hh)]
  have HE := Lib.hid hE
  have HSS := Lib.hid hS
  have hm1 : (del k S).length ≤ 256 := Nat.le_trans (List.length_filter_le _ _) hm
  have k1 : ¬ k < 0 := by omega
  have a1 : ¬ a < 0 := by omega
  have HH := Lib.hid hh
  clear h hids hE hS hm hh
  go_enter Try.func16, Try.ntmps16
  go_wp2_with fail
  go_at_call 24
  refine PL.out.mono ?_
  rintro e w1 ⟨p, rfl, hp, rfl⟩
  rcases hp with ⟨hh, rfl⟩ | ⟨i, hi, hk, rfl⟩
  · rw [HH.out] at hh
    cases hh
  have i0 : (0 : Int) ≤ (i : Int) := Int.natCast_nonneg _
  clear hi hk
  go_wp2_with fail
  go_at_call 17
  refine SP.out.mono ?_
  rintro e w1 ⟨v1, rfl, hs⟩
  have ST := Lib.hid hs
  clear hs PL SP
  obtain ⟨aa, cc, e1, hcc⟩ := ST.out.rr.form
  subst e1
  have c0 := ST.out.rr.cell
  have ltR : (⟨R, 0, none⟩ : Addr).block < w1.heap.size := ST.out.rr.lt
  have HM := Lib.hid hm1
  have KEY := Lib.hid (show ∀ (i : Nat) (hi : i < (del k S).length), ∃ B, aa = some ⟨B, 0, none⟩ ∧ B < w1.heap.size ∧ w1.cell? ⟨B, i * 2, none⟩ = some (.int .i64 ((del k S)[i]).1) ∧ w1.cell? ⟨B, i * 2 + 1, none⟩ = some (.int .i64 ((del k S)[i]).2) from fun i hi => by
    obtain ⟨B, c', e, _, hB, _, hcell⟩ := ST.out.rr.lies (by omega)
    injection e with e1 e2 e3
    exact ⟨B, e1, hB, (hcell i hi).1, (hcell i hi).2⟩)
  have LS := Lib.hid (RSetL.start w1 k a (del k S))
  generalize hS1 : del k S = S1 at *
  have HS1 := Lib.hid hS1
  clear hS1 hm1
  go_wp2_with fail
  go_loopg [7, 8, 9] (S1.length + 1) (fun m v7 v8 v9 wr => ∃ (q : Nat) (dn : Bool) (O : List Tm), v9 = .int .i64 q ∧ v8 = .bool dn ∧ q ≤ S1.length ∧ S1.length - q < m ∧ Aside (RSetL w1 wr k a S1 q dn O v7))
  case atStart => exact ⟨0, false, [], rfl, rfl, Nat.zero_le _, by omega, LS.out⟩
  case round =>
    obtain ⟨q, dn, O, rfl, rfl, hq, hqm, hl⟩ := hrel
    have L := Lib.hid (Aside.out hl)
    clear hl LS
    have q0 : (0 : Int) ≤ (q : Int) := Int.natCast_nonneg _
    have cR := (L.out.below.cell ltR).trans c0
    by_cases hlt : q < S1.length
    · obtain ⟨B, e, hB, g1, g2⟩ := KEY.out q hlt
      subst e
      have q1 : (q : Int) < (S1.length : Int) := by omega
      have q2 : (q : Int) < 256 := by have := HM.out; omega
      have i1 := (L.out.below.cell (p := ⟨B, q * 2, none⟩) hB).trans g1
      have i2 := (L.out.below.cell (p := ⟨B, q * 2 + 1, none⟩) hB).trans g2
      have HX := Lib.hid (show ∃ y : Tm, S1[q] = y from ⟨_, rfl⟩)
      obtain ⟨y, hy⟩ := HX.out
      rw [hy] at i1 i2
      have OV := Lib.hid (fun (w' : World) (v' : Value) hn hr hb => L.out.over (w' := w') (v' := v') hlt hn hr hb)
      have IN := Lib.hid (fun (w' : World) (v' : Value) (L' : RSetL w1 wr k a S1 q false O u7) hn hr hb => L'.into (w' := w') (v' := v') hlt hn hr hb L'.few)
      rw [hy] at OV IN
      clear hy HX g1 g2
      have b1 : Below wr.heap.size wr (wr.alloc (.cells #[.int .i64 y.1, .int .i64 y.2] 47)) := below_alloc (Below.refl _ _) _
      have R1 := Lib.hid (rowk L.out.row (Chg.of_below b1 (fun _ => False)) (fun _ _ e => e))
      have Z1 := Lib.hid (Nat.le_trans L.out.below.size b1.size)
      have BB := Lib.hid (below_trans' L.out.below (b1.mono L.out.below.size))
      have HO := Lib.hid (show O.length ≤ 1000 by have := L.out.len; have := HM.out; omega)
      clear b1
      by_cases hn : dn = true ∨ lt (k, a) y = false
      · have HN := Lib.hid hn
        have HC : dn = true ∨ (dn = false ∧ (y.2 < a ∨ (a = y.2 ∧ y.1 ≤ k))) := by
          rcases hn with e | e
          · exact .inl e
          · cases dn with
            | true => exact .inl rfl
            | false => rw [lt_not] at e; simp only at e; exact .inr ⟨rfl, by omega⟩
        clear hn
        rcases HC with rfl | ⟨rfl, e1 | ⟨e1, e2⟩⟩
        all_goals
          first
          | (subst e1; skip)
          | skip
          go_wp2_with (at_builtin; refine wpList_append_one rfl _ _ rfl (wr.heap.size + 1) (by simp) rfl rfl R1.out HO.out Z1.out ?_; intro v3 w3 hr3 hb3 hk3; clear hk3; have L3 := Lib.hid (OV.out w3 v3 HN.out hr3 (below_trans' BB.out hb3)); clear hr3 hb3)
          go_roundg (gk - 1)
          case measure => omega
          case rel => exact ⟨q + 1, _, _, by go_num, rfl, by omega, by omega, L3.out⟩
      · obtain rfl : dn = false := by
          cases dn with
          | true => exact absurd (.inl rfl) hn
          | false => rfl
        have hlt2 : lt (k, a) y = true := by
          cases e : lt (k, a) y with
          | true => rfl
          | false => exact absurd (.inr e) hn
        have HN := Lib.hid hlt2
        have HC : a < y.2 ∨ (a = y.2 ∧ k < y.1) := by rw [lt_iff] at hlt2; exact hlt2
        have HF := Lib.hid L.out.few
        have NB := Lib.hid (show ∀ j, u7.ownBlock = some j → j < wr.heap.size from fun j hj => (row_base L.out.row hj).2)
        clear hn hlt2
        rcases HC with e1 | ⟨e1, e2⟩
        all_goals
          first
          | (subst e1; skip)
          | skip
          go_wp2_with (first
            | (at_builtin; refine wpList_append_one (y := (k, _)) rfl _ _ rfl (wr.heap.size + 1) (by simp) rfl rfl R1.out HO.out Z1.out ?_; intro v3 w3 hr3 hb3 hk3; have R3 := Lib.hid hr3; have BB3 := Lib.hid (below_trans' BB.out hb3); have z1 := hk3 ⟨wr.heap.size, 0, none⟩ _ (World.cell?_alloc_new wr _ _ 0) (fun e => Nat.lt_irrefl _ (NB.out _ e)); have z2 := hk3 ⟨wr.heap.size, 1, none⟩ _ (World.cell?_alloc_new wr _ _ 1) (fun e => Nat.lt_irrefl _ (NB.out _ e)); have Z3 := Lib.hid (Nat.le_trans Z1.out hb3.size); clear hr3 hb3 hk3)
            | (at_builtin; refine wpList_append_one (X := w3) (y := y) rfl _ _ rfl w3.heap.size rfl rfl rfl R3.out (by have := HF.out; have := HM.out; simp; omega) Z3.out ?_; intro v4 w4 hr4 hb4 hk4; clear hk4; have L4 := Lib.hid (IN.out w4 v4 L.out HN.out hr4 (below_trans' BB3.out hb4)); clear hr4 hb4))
          go_roundg (gk - 1)
          case measure => omega
          case rel => exact ⟨q + 1, _, _, by go_num, rfl, by omega, by omega, L4.out⟩
    · obtain rfl : q = S1.length := by omega
      have q2 : (S1.length : Int) ≤ 256 := by have := HM.out; omega
      cases dn with
      | true =>
        have e := L.out.done
        subst e
        obtain ⟨a7, c7, e7⟩ := row_form L.out.row
        subst e7
        have fR := (L.out.below.frozen ltR).trans ST.out.rr.frozen
        have S2 := Lib.hid (ST.out.trans (ST.out.rr.stored L.out.below L.out.row))
        go_wp2_with fail
        go_ret
        exact ⟨_, by rw [HE.out]; rfl, by rw [HSS.out]; exact S2.out⟩
      | false =>
        have HL := Lib.hid L.out.last
        have HF := Lib.hid L.out.few
        go_wp2_with (at_builtin; refine wpList_append_one (X := wr) (y := (k, a)) rfl _ _ rfl wr.heap.size rfl rfl rfl L.out.row (by have := HF.out; have := HM.out; omega) L.out.below.size ?_; intro v3 w3 hr3 hb3 hk3; clear hk3; have bb := below_trans' L.out.below hb3; have cR3 := (bb.cell ltR).trans ST.out.rr.cell; have fR3 := (bb.frozen ltR).trans ST.out.rr.frozen; rw [HL.out] at hr3; obtain ⟨a3, c3, e3⟩ := row_form hr3; subst e3; have S2 := Lib.hid (ST.out.trans (ST.out.rr.stored bb hr3)); clear hr3 hb3 bb)
        go_ret
        exact ⟨_, by rw [HE.out]; rfl, by rw [HSS.out]; exact S2.out⟩
end Go.Proofs.Ytphdmhjmaecddaa
