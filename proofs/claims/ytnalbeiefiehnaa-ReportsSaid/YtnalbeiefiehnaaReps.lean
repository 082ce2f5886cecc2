/-
The walk of the statement Reports.
-/
import Derived.Test.YtnalbeiefiehnaaUnrep
namespace Go.Proofs.Ytnalbeiefiehnaa.Rep
open Go.RowKit Go.Proofs.Ytnalbeiefiehnaa.PReports Go.Proofs.Ytnalbeiefiehnaa.Pure Go.Proofs.YtnalbeiefiehnaaW.PrintWords Go.Proofs.YtnalbeiefiehnaaW.PrintLast Go.Proofs.YtnalbeiefiehnaaW.PrintMore

theorem lend_calls (A : Option Addr) (c : Nat) (xs : List Int) (hc : xs.length ≤ c) (hn : xs.length + 2 < 17592186044416) (w : World) (hr : ReadsInt w .i64 A xs.length xs) :
    Calls Try.prog 6 #[.slice A xs.length c] w fun e w' => ∃ (B : Option Addr) (d : Nat), e = .returned (.slice B xs.length d) ∧ xs.length + 2 ≤ d ∧ ReadsInt w' .i64 B (xs.length + 2) (xs ++ [-7777, -8888]) ∧ Below w.heap.size w w' := by
  obtain ⟨r, hq⟩ := lend_is hn
  exact withylaw0_LendInts.calls A c xs r w (Kd.C_of_reads (d := (0 : Int)) (h1 := fun _ => rfl) hr) hc hq

theorem reads_R {w : World} {b : Nat} {P : Nat → Prop} {A : Option Addr} {c : Nat} {xs : List Int} (h : Kd.R (Kd.int .i64) 3 w b P (.slice A xs.length c) xs) : ReadsInt w .i64 A xs.length xs ∧ xs.length ≤ c :=
  ⟨Kd.reads_of_C (enc := Value.int .i64) (d := (0 : Int)) (h1 := fun _ => rfl) (Kd.R_reads' h).2.2, (Kd.R_reads' h).2.1⟩

theorem reads_head {w : World} {A : Option Addr} {xs : List Int} (h : ReadsInt w .i64 A (xs.length + 2) (xs ++ [-7777, -8888])) : ReadsInt w .i64 A xs.length xs := by
  have := h.take_ xs.length (by omega)
  rwa [List.take_left] at this

set_option maxRecDepth 100000 in
set_option maxHeartbeats 2000000 in
theorem reports_any (A : Option Addr) (c : Nat) (ns : List Int) (s : ByteArray) (hc : ns.length ≤ c) (hn : ns.length + 2 < 17592186044416) (w : World) (hr : ReadsInt w .i64 A ns.length ns) :
    Calls Try.prog 3 #[.slice A ns.length c, .string s] w fun e w' => e = .returned (.bool true) ∧ Below w.heap.size w w' := by
  have HR := Lib.hid hr
  have HC := Lib.hid hc
  have HN := Lib.hid hn
  clear hr hc hn
  go_enter Try.func3, Try.ntmps3
  go_wp2_with fail
  refine (lend_calls A c ns HC.out HN.out _ HR.out).mono ?_
  rintro e w1 ⟨X, cx, rfl, hcx, hx, hb1⟩
  have HCX := Lib.hid hcx
  have HX := Lib.hid hx
  have B1 := Lib.hid hb1
  clear hcx hx hb1
  go_wp2_with fail
  refine (put_calls' X cx ns (by have := HCX.out; omega) _ (reads_head HX.out)).mono ?_
  rintro e w2 ⟨rfl, hb2⟩
  have X2 := Lib.hid (HX.out.below hb2)
  have B2 := Lib.hid (below_step B1.out hb2)
  clear hb2 HX B1
  have R2 := Lib.hid (HR.out.below B2.out)
  go_wp2_with fail
  refine (report_calls' A c ns _ R2.out).mono ?_
  rintro e w3 ⟨rfl, hb3⟩
  have X3 := Lib.hid (X2.out.below hb3)
  have B3 := Lib.hid (below_step B2.out hb3)
  clear hb3 X2 B2 R2
  go_wp2_with fail
  refine (get_calls' s _).mono ?_
  rintro e w4 ⟨C, cc, rfl, hC, hb4⟩
  have C4 := Lib.hid hC
  have X4 := Lib.hid (X3.out.below hb4)
  have B4 := Lib.hid (below_step B3.out hb4)
  have G34 := Lib.hid hb4
  clear hb4 X3 hC
  go_wp2_with fail
  refine (get_calls' s _).mono ?_
  rintro e w5 ⟨D, cd, rfl, hD, hb5⟩
  have D5 := Lib.hid hD
  have B45 := Lib.hid hb5
  have X5 := Lib.hid (X4.out.below hb5)
  have B5 := Lib.hid (below_step B4.out hb5)
  clear hb5 X4 hD
  go_wp2_with fail
  refine (unrep_calls s _).mono ?_
  rintro e w6 ⟨O, co, rfl, hO, hb6⟩
  have O6 := Lib.hid hO
  have B56 := Lib.hid hb6
  have X6 := Lib.hid (X5.out.below hb6)
  have B6 := Lib.hid (below_step B5.out hb6)
  clear hb6 X5 hO
  have R6 := Lib.hid (HR.out.below B6.out)
  have C46 := Lib.hid (below_step B45.out (B56.out))
  have C6 := Lib.hid ((reads_R C4.out).1.below C46.out)
  have hg := getAll_short s
  have HG := Lib.hid hg
  clear hg
  have S1 := Lib.hid (same_calls C O cc co (getAll s).1 (by have := HG.out; omega) (reads_R C4.out).2 (reads_R O6.out).2 w6 C6.out (reads_R O6.out).1)
  generalize (putAll ns).1 = p1 at *
  generalize (putAll ns).2 = p2 at *
  have K1 := Lib.hid (kept_calls X A cx c ns HN.out HCX.out HC.out)
  go_wp2_with (first | (go_at_call 11; refine (Back.num_calls _ _).mono ?_; rintro e w8 ⟨rfl, rfl⟩) | (go_at_call 12; refine S1.out.mono ?_; rintro e w7 ⟨rfl, n7, rfl⟩) | (go_at_call 13; refine (K1.out _ (X6.out.drewN _) (R6.out.drewN _)).mono ?_; rintro e w8 ⟨rfl, n8, rfl⟩) | fail)
  have hCs := Kd.R_below (Kd.R_mono (ok' := fun k => k < w4.heap.size) (Kd.R_bound C4.out) (fun k hk => hk.2.2.1)) (w1 := w6.drewN (n7 + n8)) (pw_below_drewN C46.out _)
  have b36 : Below w3.heap.size w3 (w6.drewN (n7 + n8)) := pw_below_drewN (below_step (below_step G34.out B45.out) B56.out) _
  refine (spoil_calls C cc (getAll s).1 (by have := HG.out; omega) w3 _ b36 (fun k => k < w4.heap.size) hCs).mono ?_
  rintro e w9 ⟨rfl, hb9, hk9⟩
  have D9 := Lib.hid (Kd.R_step (w1 := w9) (Kd.R_below (w1 := w6.drewN (n7 + n8)) (Kd.R_mono (ok' := fun k => w4.heap.size ≤ k) (Kd.R_bound D5.out) (fun k hk => hk.2.1)) (pw_below_drewN B56.out _)) (fun k hk hlt => hk9.2 k hlt (by omega)))
  have O9 := Lib.hid (Kd.R_step (w1 := w9) (Kd.R_below (w1 := w6.drewN (n7 + n8)) (Kd.R_mono (ok' := fun k => w4.heap.size ≤ k) (Kd.R_bound O6.out) (fun k hk => Nat.le_trans B45.out.size hk.2.1)) (pw_below_drewN (Below.refl _ _) _)) (fun k hk hlt => hk9.2 k hlt (by omega)))
  have B9 := Lib.hid (below_step B3.out hb9)
  clear hCs b36 hb9 hk9
  have S2 := Lib.hid (same_calls D O cd co (getAll s).1 (by have := HG.out; omega) (reads_R D9.out).2 (reads_R O9.out).2 w9 (reads_R D9.out).1 (reads_R O9.out).1)
  go_wp2_with (first | (go_at_call 12; refine S2.out.mono ?_; rintro e w10 ⟨rfl, n10, rfl⟩) | (go_at_call 15; refine (Back.awake_calls _).mono ?_; rintro e w11 ⟨rfl, hb11⟩) | fail)
  go_ret
  exact ⟨rfl, below_step (pw_below_drewN B9.out n10) hb11⟩

theorem reports_walk (a0 : Option Addr) (len0 cap0 : Nat) (z0 : List Int) (a1 : ByteArray) (w : World) (hz : len0 * 8 ≤ 140737488351232)
    (w0 : (a0 = none ∧ len0 = 0 ∧ cap0 = 0 ∧ z0 = []) ∨ ∃ x, a0 = some x ∧ len0 ≤ cap0 ∧ cap0 ≤ maxLen ∧ z0.length = cap0 ∧ (∀ i, i < z0.length → w.cell? (x.add i) = some (.int .i64 (z0.getD i 0))) ∧ ∀ n ∈ z0, (Lit.int .i64 n).wf = true) :
    Calls Try.prog 3 #[.slice a0 len0 cap0, .string a1] w fun e w' => e = .returned (.bool true) ∧ Below w.heap.size w w' := by
  obtain ⟨l0, rfl, hr0, _, _, hc0⟩ := ReadsInt.ofRowC w0
  exact reports_any a0 cap0 l0 a1 hc0 (by omega) w hr0
#print axioms reports_walk
end Go.Proofs.Ytnalbeiefiehnaa.Rep
