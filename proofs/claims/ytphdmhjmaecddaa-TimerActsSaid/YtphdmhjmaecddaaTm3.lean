/-
Set of timers, walked.
-/
import Derived.Test.YtphdmhjmaecddaaTm2
namespace Go.Proofs.Ytphdmhjmaecddaa
open Go.RowKit Go.Proofs.YtphdmhjmaecddaaW.PrintWords Go.Proofs.YtphdmhjmaecddaaW.PrintLast Go.Proofs.YtphdmhjmaecddaaW.PrintMore

set_option maxRecDepth 100000 in
set_option maxHeartbeats 2000000 in
theorem set_form {w : World} {A : Nat} {S : List Tm} {Q : Nat → Prop} (h : TT w A S Q) (k a : Int) (hk : ok64 k) (hf : k < 0 ∨ a < 0) :
    Calls Try.prog 10 #[.pointer (some ⟨A, 0, none⟩), .int .i64 k, .int .i64 a] w fun e w' => e = .returned (.int .i64 1100) ∧ w = w' := by
  obtain ⟨⟨M, v, xs, h1, h2, h3⟩, h4⟩ := h
  obtain ⟨f, hm, hp⟩ := h1.map
  have c1 := h1.cell1
  have hlook := hm.look hk
  generalize (f k).getD 0 = c at hlook
  generalize (f k).isSome = b at hlook
  clear h1 h2 h3 h4 hm hp
  by_cases h0 : k < 0
  · clear hf
    go_enter Try.func10, Try.ntmps10
    go_wp2_with fail
    go_ret
    exact ⟨rfl, rfl⟩
  · have h1 : a < 0 := by omega
    clear hf
    go_enter Try.func10, Try.ntmps10
    go_wp2_with fail
    go_ret
    exact ⟨rfl, rfl⟩

set_option maxRecDepth 100000 in
set_option maxHeartbeats 2000000 in
theorem set_old {w : World} {A : Nat} {S : List Tm} {Q : Nat → Prop} (h : TT w A S Q) (k a : Int) (hk : ok64 k) (ha : ok64 a) (k0 : 0 ≤ k) (a0 : 0 ≤ a) (hh : has k S = true) :
    Calls Try.prog 10 #[.pointer (some ⟨A, 0, none⟩), .int .i64 k, .int .i64 a] w fun e w' => e = .returned (.int .i64 0) ∧ TT w' A (ins (k, a) (del k S)) Q ∧ Chg w w' (fun k => ¬ Q k) := by
  obtain ⟨⟨M, v, xs, h1, h2, h3⟩, h4⟩ := h
  obtain ⟨f, hm, hp⟩ := h1.map
  have c1 := h1.cell1
  have hlook := hm.look hk
  have hsome := hp.has h2 k
  rw [hh] at hsome
  obtain ⟨c, hc⟩ := Option.isSome_iff_exists.1 hsome
  obtain ⟨i, hi, hik, rfl⟩ := hp.some_ hc
  rw [hc] at hlook
  simp only [Option.getD_some, Option.isSome_some] at hlook
  obtain ⟨B, cc, cur, rfl, hB, hnc, hcm, hcur, htk⟩ := h1.lies (by omega)
  have c0 := h1.cell0
  obtain ⟨hx1, hx2⟩ := row_cells hB htk i hi
  have hfr := frozen_of_row w B (i * 2 + 1) _ 59 hB
  have hst := h1.turned hi ha
  have hsd := stands_turn h2 hp.ids hi a
  rw [hik] at hst hsd
  have hl : (xs.set i (k, a)).length = xs.length := by simp
  have FX := Lib.hid (fix_walk hst.pile i (by rw [hl]; exact hi))
  have HSD := Lib.hid hsd
  have HST := Lib.hid hst
  have HL := Lib.hid hl
  have H3 := Lib.hid h3
  have H4 := Lib.hid h4
  have i0 : (0 : Int) ≤ (i : Int) := Int.natCast_nonneg _
  have i1 : (i : Int) < (xs.length : Int) := by omega
  have k1 : ¬ k < 0 := by omega
  have a1 : ¬ a < 0 := by omega
  clear h1 h2 h3 h4 hm hp hh hc hsome hik hB hnc hcm hcur htk hst hsd hl hx1
  go_enter Try.func10, Try.ntmps10
  go_wp2_with fail
  go_at_call 20
  refine FX.out.mono ?_
  rintro e w1 ⟨rfl, hs⟩
  have hs2 := HST.out.trans hs
  rw [HL.out] at hs2
  have HF := Lib.hid (TT.of_step hs2 HSD.out H3.out H4.out)
  clear hs hs2
  go_wp2_with fail
  go_ret
  exact ⟨rfl, HF.out.1, HF.out.2⟩

set_option maxRecDepth 100000 in
set_option maxHeartbeats 2000000 in
theorem set_full {w : World} {A : Nat} {S : List Tm} {Q : Nat → Prop} (h : TT w A S Q) (k a : Int) (hk : ok64 k) (k0 : 0 ≤ k) (a0 : 0 ≤ a) (hh : has k S = false) (hl : ¬ S.length < 256) :
    Calls Try.prog 10 #[.pointer (some ⟨A, 0, none⟩), .int .i64 k, .int .i64 a] w fun e w' => e = .returned (.int .i64 1102) ∧ w = w' := by
  obtain ⟨⟨M, v, xs, h1, h2, h3⟩, h4⟩ := h
  obtain ⟨f, hm, hp⟩ := h1.map
  have c1 := h1.cell1
  have c0 := h1.cell0
  have hlook := hm.look hk
  have hsome := hp.has h2 k
  rw [hh] at hsome
  have hn : f k = none := by simpa using hsome
  rw [hn] at hlook
  simp only [Option.getD_none, Option.isSome_none] at hlook
  obtain ⟨ad, c, hv⟩ := h1.slice
  rw [hv] at c0
  have hxl : (256 : Int) ≤ (xs.length : Int) := by rw [h2.perm.length_eq]; omega
  have k1 : ¬ k < 0 := by omega
  have a1 : ¬ a < 0 := by omega
  clear h1 h2 h3 h4 hm hp hh hl hn hsome hv
  go_enter Try.func10, Try.ntmps10
  go_wp2_with fail
  go_ret
  exact ⟨rfl, rfl⟩

set_option maxRecDepth 100000 in
set_option maxHeartbeats 2000000 in
theorem set_new {w : World} {A : Nat} {S : List Tm} {Q : Nat → Prop} (h : TT w A S Q) (k a : Int) (hk : ok64 k) (ha : ok64 a) (k0 : 0 ≤ k) (a0 : 0 ≤ a) (hh : has k S = false) (hl : S.length < 256) :
    Calls Try.prog 10 #[.pointer (some ⟨A, 0, none⟩), .int .i64 k, .int .i64 a] w fun e w' => e = .returned (.int .i64 0) ∧ TT w' A (ins (k, a) S) Q ∧ Chg w w' (fun k => ¬ Q k) := by
  obtain ⟨⟨M, v, xs, h1, h2, h3⟩, h4⟩ := h
  obtain ⟨f, hm, hp⟩ := h1.map
  have c1 := h1.cell1
  have c0 := h1.cell0
  have hlook := hm.look hk
  have hsome := hp.has h2 k
  rw [hh] at hsome
  have hn : f k = none := by simpa using hsome
  rw [hn] at hlook
  simp only [Option.getD_none, Option.isSome_none] at hlook
  have hxl : xs.length < 256 := by rw [h2.perm.length_eq]; exact hl
  have PU := Lib.hid (hpush_walk h1 (k, a) (hp.none_ hn) hk ha hxl)
  have HSD := Lib.hid (stands_push (x := (k, a)) h2 (hp.none_ hn))
  have H3 := Lib.hid h3
  have H4 := Lib.hid h4
  obtain ⟨ad, c, hv⟩ := h1.slice
  rw [hv] at c0
  have hxl : ¬ (256 : Int) ≤ (xs.length : Int) := by omega
  have k1 : ¬ k < 0 := by omega
  have a1 : ¬ a < 0 := by omega
  clear h1 h2 h3 h4 hm hp hh hl hn hsome hv
  go_enter Try.func10, Try.ntmps10
  go_wp2_with fail
  go_at_call 21
  refine PU.out.mono ?_
  rintro e w1 ⟨rfl, v', hs⟩
  have HF := Lib.hid (TT.of_step hs HSD.out H3.out H4.out)
  clear hs
  go_wp2_with fail
  go_ret
  exact ⟨rfl, HF.out.1, HF.out.2⟩

theorem set_walk {w : World} {A : Nat} {S : List Tm} {Q : Nat → Prop} (h : TT w A S Q) (k a : Int) (hk : ok64 k) (ha : ok64 a) :
    Calls Try.prog 10 #[.pointer (some ⟨A, 0, none⟩), .int .i64 k, .int .i64 a] w fun e w' => e = .returned (.int .i64 (setE k a S)) ∧ TT w' A (setS k a S) Q ∧ Chg w w' (fun k => ¬ Q k) := by
  unfold setE setS
  by_cases h0 : k < 0 ∨ a < 0
  · rw [if_pos h0, if_pos h0]
    refine (set_form h k a hk h0).mono ?_
    rintro e w' ⟨rfl, rfl⟩
    exact ⟨rfl, h, Chg.refl _ _⟩
  · rw [if_neg h0, if_neg h0]
    cases hh : has k S with
    | true =>
      rw [if_pos (.inl rfl), if_pos (.inl rfl)]
      exact set_old h k a hk ha (by omega) (by omega) hh
    | false =>
      by_cases hl : S.length < 256
      · rw [if_pos (.inr hl), if_pos (.inr hl), del_none hh]
        exact set_new h k a hk ha (by omega) (by omega) hh hl
      · rw [if_neg (by simp; omega), if_neg (by simp; omega)]
        refine (set_full h k a hk (by omega) (by omega) hh hl).mono ?_
        rintro e w' ⟨rfl, rfl⟩
        exact ⟨rfl, h, Chg.refl _ _⟩
end Go.Proofs.Ytphdmhjmaecddaa
