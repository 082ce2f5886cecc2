/-
Stop of timers, walked.
-/
import Derived.Test.YtphdmhjmaecddaaTm1
import Derived.Test.YtphdmhjmaecddaaRem
namespace Go.Proofs.Ytphdmhjmaecddaa
open Go.RowKit Go.Proofs.YtphdmhjmaecddaaW.PrintWords Go.Proofs.YtphdmhjmaecddaaW.PrintLast Go.Proofs.YtphdmhjmaecddaaW.PrintMore

theorem Pl.has {xs S : List Tm} {f : Int → Option Int} (hp : Pl xs f) (hs : Stands xs S) (k : Int) : (f k).isSome = has k S := by
  cases hf : f k with
  | none =>
    symm
    rw [has_false.2 (fun x hx => hp.none_ hf x (hs.perm.mem_iff.2 hx))]
    rfl
  | some c =>
    obtain ⟨i, hi, h1, _⟩ := hp.some_ hf
    symm
    rw [has_iff.2 ⟨xs[i], hs.perm.mem_iff.1 (List.getElem_mem hi), h1⟩]
    rfl

set_option maxRecDepth 100000 in
set_option maxHeartbeats 2000000 in
theorem stop_walk {w : World} {A : Nat} {S : List Tm} {Q : Nat → Prop} (h : TT w A S Q) (k : Int) (hk : ok64 k) :
    Calls Try.prog 15 #[.pointer (some ⟨A, 0, none⟩), .int .i64 k] w fun e w' => e = .returned (.int .i64 (stopE k S)) ∧ TT w' A (del k S) Q ∧ Chg w w' (fun k => ¬ Q k) := by
  have H := Lib.hid h
  obtain ⟨⟨M, v, xs, h1, h2, h3⟩, h4⟩ := h
  obtain ⟨f, hm, hp⟩ := h1.map
  have c1 := h1.cell1
  have hlook := hm.look hk
  have hh := hp.has h2 k
  cases hf : f k with
  | none =>
    rw [hf] at hh hlook
    have hh : has k S = false := hh.symm
    have e1 : stopE k S = 1101 := by unfold stopE; rw [hh]; rfl
    rw [e1, del_none hh]
    simp only [Option.getD_none, Option.isSome_none] at hlook
    clear h1 h2 h3 h4 hm hp hh hf e1
    go_enter Try.func15, Try.ntmps15
    go_wp2_with fail
    go_ret
    exact ⟨rfl, H.out, Chg.refl _ _⟩
  | some c =>
    rw [hf] at hh hlook
    have hh : has k S = true := hh.symm
    have e1 : stopE k S = 0 := by unfold stopE; rw [hh]; rfl
    rw [e1]
    obtain ⟨i, hi, hik, rfl⟩ := hp.some_ hf
    simp only [Option.getD_some, Option.isSome_some] at hlook
    have RM := Lib.hid (remove_walk h1 i (xs.length - 1) (by omega) (by omega))
    have ST := Lib.hid (fun ys x hz => stands_rem (ys := ys) (x := x) (i := i) (n := xs.length - 1) h2 (by omega) (by omega) hz)
    have hik' : (at' xs i).1 = k := by rw [at_eq hi]; exact hik
    have HIK := Lib.hid hik'
    have H3 := Lib.hid h3
    have H4 := Lib.hid h4
    clear h1 h2 h3 h4 hm hp hh hf e1 hik hik' hi
    go_enter Try.func15, Try.ntmps15
    go_wp2_with fail
    go_at_call 23
    refine RM.out.mono ?_
    rintro e w1 ⟨ys, x, v', hz, rfl, hs⟩
    obtain ⟨hx, hst⟩ := ST.out ys x hz
    rw [hx, HIK.out] at hst
    have HF := Lib.hid (TT.of_step hs hst H3.out H4.out)
    clear hs hst hx hz
    go_wp2_with fail
    go_ret
    exact ⟨rfl, HF.out.1, HF.out.2⟩
end Go.Proofs.Ytphdmhjmaecddaa
