/-
What every program answers that is one: awake, walked.
-/
import Derived.Test.YtphdmhjmaecddaaTm6
import Derived.Test.YtphdmhjmaecddaaTm3
namespace Go.Proofs.Ytphdmhjmaecddaa
open Go.RowKit Go.Proofs.YtphdmhjmaecddaaW.PrintWords Go.Proofs.YtphdmhjmaecddaaW.PrintLast Go.Proofs.YtphdmhjmaecddaaW.PrintMore

theorem below_chg {w0 w w' : World} {Q : Nat → Prop} (hb : Below w0.heap.size w0 w) (hc : Chg w w' (fun k => ¬ Q k)) (hq : ∀ k, k < w0.heap.size → Q k) : Below w0.heap.size w0 w' :=
  ⟨hc.os.trans hb.os, hc.tape.trans hb.tape, hc.output.trans hb.output, Nat.le_trans hb.size hc.size, fun k hk => (hc.block k (Nat.lt_of_lt_of_le hk hb.size) (fun h => h (hq k hk))).trans (hb.block k hk)⟩

theorem set_is {w : World} {A : Nat} {S S' : List Tm} {Q : Nat → Prop} {E : Int} (h : TT w A S Q) (k a : Int) (hk : ok64 k) (ha : ok64 a) (hE : setE k a S = E) (hS : setS k a S = S') :
    Calls Try.prog 10 #[.pointer (some ⟨A, 0, none⟩), .int .i64 k, .int .i64 a] w fun e w' => e = .returned (.int .i64 E) ∧ TT w' A S' Q ∧ Chg w w' (fun k => ¬ Q k) := by
  subst hE hS
  exact set_walk h k a hk ha
theorem stop_is {w : World} {A : Nat} {S S' : List Tm} {Q : Nat → Prop} {E : Int} (h : TT w A S Q) (k : Int) (hk : ok64 k) (hE : stopE k S = E) (hS : del k S = S') :
    Calls Try.prog 15 #[.pointer (some ⟨A, 0, none⟩), .int .i64 k] w fun e w' => e = .returned (.int .i64 E) ∧ TT w' A S' Q ∧ Chg w w' (fun k => ¬ Q k) := by
  subst hE hS
  exact stop_walk h k hk
theorem next_is {w : World} {A : Nat} {S : List Tm} {Q : Nat → Prop} {V : Value} (h : TT w A S Q) (hV : nextV S = V) :
    Calls Try.prog 19 #[.pointer (some ⟨A, 0, none⟩)] w fun e w' => e = .returned V ∧ TT w' A S Q ∧ Below w.heap.size w w' := by
  subst hV
  refine (next_walk h).mono ?_
  rintro e w' ⟨rfl, hb⟩
  exact ⟨rfl, h.same hb, hb⟩

/-- A row that was laid of numbers written out. -/
theorem lit_row {w : World} {xs : List Int} {cs : Array Value} {n : Nat} (hc : cs = (iv xs).toArray) (hn : xs.length = n) (hm : n ≤ maxLen) : (w.alloc (.cells cs 3)).ownsRow w.heap.size 3 1 (.slice (some ⟨w.heap.size, 0, none⟩) n n) xs.length (iv xs) := by
  subst hc hn
  refine ⟨by simp [iv], .inr ⟨w.heap.size, _, _, rfl, Nat.le_refl _, heap_alloc_new w _, Nat.le_refl _, hm, by simp [iv], ?_⟩⟩
  rw [List.take_of_length_le (by simp [iv])]

set_option maxRecDepth 100000 in
set_option maxHeartbeats 4000000 in
theorem awake_walk (w : World) : Calls Try.prog 8 #[] w fun e w' => e = .returned (.bool true) ∧ Below w.heap.size w w' := by
  have NQ : ∀ k, k < w.heap.size → k < w.heap.size := fun _ h => h
  go_enter Try.func8, Try.ntmps8
  go_wp2_with fail
  go_at_call 9
  refine (new_walk _).mono ?_
  rintro e w1 ⟨rfl, ht, hb⟩
  have T := Lib.hid ht
  have B := Lib.hid hb
  clear ht hb
  generalize w.heap.size + 1 = A at T ⊢
  go_wp2_with fail
  go_at_call 10
  refine (set_is (S' := [(5, 10)]) (E := 0) T.out 5 10 (by rfl) (by rfl) (by rfl) (by rfl)).mono ?_
  rintro e w2 ⟨rfl, ht, hc⟩
  have T2 := Lib.hid ht
  have B2 := Lib.hid (below_chg B.out hc NQ)
  clear ht hc T B
  go_wp2_with fail
  go_at_call 10
  refine (set_is (S' := [(3, 10), (5, 10)]) (E := 0) T2.out 3 10 (by rfl) (by rfl) (by rfl) (by rfl)).mono ?_
  rintro e w3 ⟨rfl, ht, hc⟩
  have T3 := Lib.hid ht
  have B3 := Lib.hid (below_chg B2.out hc NQ)
  clear ht hc T2 B2
  go_wp2_with fail
  go_at_call 19
  refine (next_is T3.out (V := .tuple #[.int .i64 3, .int .i64 10, .int .i64 0]) (by rfl)).mono ?_
  rintro e w4 ⟨rfl, ht, hb⟩
  have T4 := Lib.hid ht
  have B4 := Lib.hid (below_step B3.out hb)
  clear ht hb T3 B3
  go_wp2_with fail
  go_at_call 11
  refine (due_is (T := []) (L := [(3, 10), (5, 10)]) T4.out 9 (by rfl) (by rfl)).mono ?_
  rintro e w5 ⟨a5, c5, rfl, hr, ht, hc⟩
  have T5 := Lib.hid (ht.sub (fun k hk => .inl hk))
  have B5 := Lib.hid (below_chg B4.out hc NQ)
  clear ht hc hr T4 B4
  simp only [List.length_nil]
  go_wp2_with fail
  go_at_call 11
  refine (due_is (T := [(3, 10), (5, 10)]) (L := []) T5.out 10 (by rfl) (by rfl)).mono ?_
  rintro e w6 ⟨a6, c6, rfl, hr, ht, hc⟩
  simp only [List.length_cons, List.length_nil, List.map_cons, List.map_nil, Nat.zero_add] at hr ht ⊢
  have R6 := Lib.hid hr
  have T6 := Lib.hid ht
  have B6 := Lib.hid (below_chg B5.out hc NQ)
  clear ht hc hr T5 B5
  go_wp2_with fail
  go_at_call 15
  refine (stop_is (S' := []) (E := 1101) T6.out 5 (by rfl) (by rfl) (by rfl)).mono ?_
  rintro e w7 ⟨rfl, ht, hc⟩
  have T7 := Lib.hid ht
  have R7 := Lib.hid (rowk R6.out hc (fun k hk hn => hn (.inr hk)))
  have B7 := Lib.hid (below_chg B6.out hc (fun k hk => .inl hk))
  clear ht hc T6 B6 R6
  go_wp2_with fail
  go_at_call 19
  refine (next_is T7.out (V := .tuple #[.int .i64 0, .int .i64 0, .int .i64 1101]) (by rfl)).mono ?_
  rintro e w8 ⟨rfl, ht, hb⟩
  have B8 := Lib.hid (below_step B7.out hb)
  have R8 := Lib.hid (rowk R7.out (Chg.of_below hb (fun _ => False)) (fun _ _ e => e))
  clear ht hb T7 B7 R7
  have bb := below_alloc (Below.refl w8.heap.size w8) (.cells #[.int .i64 3, .int .i64 5] 3)
  have SA := Lib.hid (same_walk (rowk R8.out (Chg.of_below bb (fun _ => False)) (fun _ _ e => e)) (lit_row (w := w8) (xs := [3, 5]) (cs := #[.int .i64 3, .int .i64 5]) (n := 2) (by rfl) (by rfl) (by decide)) (by decide))
  have B9 := Lib.hid (below_step B8.out bb)
  clear bb
  go_wp2_with (first | (go_at_call 14; refine (num_walk _ _).mono ?_; rintro e w' ⟨rfl, rfl⟩) | (go_at_call 12; refine SA.out.mono ?_; rintro e w9 ⟨rfl, hb9⟩))
  go_ret
  exact ⟨by rfl, below_step B9.out hb9⟩
end Go.Proofs.Ytphdmhjmaecddaa
