/-
The walk of the statement TimerTurns: a time that is turned counts alone.
-/
import Derived.Test.YtphdmhjmaecddaaTm7
import Derived.Laws.BitsLemmas
namespace Go.Proofs.Ytphdmhjmaecddaa
open Go.RowKit Go.Proofs.YtphdmhjmaecddaaW.PrintWords Go.Proofs.YtphdmhjmaecddaaW.PrintLast Go.Proofs.YtphdmhjmaecddaaW.PrintMore

/-- A number's last bits. -/
theorem and_low (i : Nat) (m : Int) (hm : (BitVec.ofInt 64 m).toNat = 2 ^ i - 1) (hi : i ≤ 10) (n : Int) : bits .and .i64 n m = n % ((2 ^ i : Nat) : Int) := by
  have key : (BitVec.ofInt 64 n &&& BitVec.ofInt 64 m).toNat = (n % ((2 ^ 64 : Nat) : Int)).toNat % 2 ^ i := by
    rw [BitVec.toNat_and, BitVec.toNat_ofInt, hm, Nat.and_two_pow_sub_one_eq_mod]
  show IntKind.i64.wrap ((BitVec.ofInt 64 n &&& BitVec.ofInt 64 m).toNat : Nat) = _
  rw [key, IntKind.wrap_i64]
  have hc : i = 0 ∨ i = 1 ∨ i = 2 ∨ i = 3 ∨ i = 4 ∨ i = 5 ∨ i = 6 ∨ i = 7 ∨ i = 8 ∨ i = 9 ∨ i = 10 := by omega
  rcases hc with rfl | rfl | rfl | rfl | rfl | rfl | rfl | rfl | rfl | rfl | rfl <;> omega
theorem and1023 (n : Int) : ∃ k, bits .and .i64 n 1023 = k ∧ 0 ≤ k ∧ k < 1024 := ⟨_, and_low 10 1023 (by decide) (by omega) n, by omega, by omega⟩
theorem and511 (n : Int) : ∃ k, bits .and .i64 n 511 = k ∧ 0 ≤ k ∧ k < 512 := ⟨_, and_low 9 511 (by decide) (by omega) n, by omega, by omega⟩
theorem and255 (n : Int) : ∃ k, bits .and .i64 n 255 = k ∧ 0 ≤ k ∧ k < 256 := ⟨_, and_low 8 255 (by decide) (by omega) n, by omega, by omega⟩
theorem and63 (n : Int) : ∃ k, bits .and .i64 n 63 = k ∧ 0 ≤ k ∧ k < 64 := ⟨_, and_low 6 63 (by decide) (by omega) n, by omega, by omega⟩

theorem setE_new (k a : Int) (hk : 0 ≤ k) (ha : 0 ≤ a) : setE k a [] = 0 := by
  unfold setE
  rw [if_neg (by omega), if_pos (.inr (by decide))]
theorem setS_new (k a : Int) (hk : 0 ≤ k) (ha : 0 ≤ a) : setS k a [] = [(k, a)] := by
  unfold setS
  rw [if_neg (by omega), if_pos (.inr (by decide))]
  rfl
theorem setE_one (k a b : Int) (hk : 0 ≤ k) (hb : 0 ≤ b) : setE k b [(k, a)] = 0 := by
  unfold setE
  rw [if_neg (by omega), if_pos (.inr (by simp))]
theorem setS_one (k a b : Int) (hk : 0 ≤ k) (hb : 0 ≤ b) : setS k b [(k, a)] = [(k, b)] := by
  unfold setS
  rw [if_neg (by omega), if_pos (.inr (by simp))]
  simp [del, ins]
theorem dueT_no (k a now : Int) (h : now < a) : dueT now [(k, a)] = [] := by
  unfold dueT
  rw [List.takeWhile_cons_of_neg (by simpa using h)]
theorem dueL_no (k a now : Int) (h : now < a) : dueL now [(k, a)] = [(k, a)] := by
  unfold dueL
  rw [List.dropWhile_cons_of_neg (by simpa using h)]

set_option maxRecDepth 100000 in
set_option maxHeartbeats 4000000 in
theorem turns_walk (a0 a1 a2 : Int) (a3 : Bool) (w : World) : Calls Try.prog 4 #[.int .i64 a0, .int .i64 a1, .int .i64 a2, .bool a3] w fun e w' => e = .returned (.bool true) ∧ Below w.heap.size w w' := by
  obtain ⟨k, ek, k0, k1⟩ := and1023 a0
  obtain ⟨a, ea, a0', a1'⟩ := and1023 a1
  obtain ⟨b, eb, b0, b1⟩ := and1023 a2
  have okk : ok64 k := by rw [ok64_iff]; omega
  have oka : ok64 a := by rw [ok64_iff]; omega
  have okb : ok64 b := by rw [ok64_iff]; omega
  cases a3 with
  | true =>
    go_enter Try.func4, Try.ntmps4
    go_wp2_with fail
    go_at_call 8
    refine (awake_walk _).mono ?_
    rintro e w0 ⟨rfl, hb0⟩
    have HB0 := Lib.hid hb0
    clear hb0
    go_wp2_with fail
    go_at_call 9
    refine (new_walk _).mono ?_
    rintro e w1 ⟨rfl, ht, hb⟩
    have T := Lib.hid (ht.sub (Q' := fun k => k < w.heap.size) (fun k hk => Nat.lt_of_lt_of_le hk HB0.out.size))
    have B := Lib.hid (below_step HB0.out hb)
    clear ht hb HB0
    generalize w0.heap.size + 1 = A at T ⊢
    go_wp2_with fail
    go_at_call 10
    refine (set_is (S' := [(k, a)]) (E := 0) T.out k a okk oka (setE_new k a k0 a0') (setS_new k a k0 a0')).mono ?_
    rintro e w2 ⟨rfl, ht, hc⟩
    have T2 := Lib.hid ht
    have B2 := Lib.hid (below_chg B.out hc (fun _ h => h))
    clear ht hc T B
    go_wp2_with fail
    go_at_call 10
    refine (set_is (S' := [(k, b)]) (E := 0) T2.out k b okk okb (setE_one k a b k0 b0) (setS_one k a b k0 b0)).mono ?_
    rintro e w3 ⟨rfl, ht, hc⟩
    have T3 := Lib.hid ht
    have B3 := Lib.hid (below_chg B2.out hc (fun _ h => h))
    clear ht hc T2 B2
    go_wp2_with fail
    go_at_call 15
    refine (stop_is (S' := []) (E := 0) T3.out k okk (by simp [stopE, has]) (by simp [del])).mono ?_
    rintro e w4 ⟨rfl, ht, hc⟩
    have T4 := Lib.hid ht
    have B4 := Lib.hid (below_chg B3.out hc (fun _ h => h))
    clear ht hc T3 B3
    go_wp2_with (go_at_call 14; refine (num_walk _ _).mono ?_; rintro e w' ⟨rfl, rfl⟩)
    go_at_call 11
    refine (due_is (T := []) (L := []) T4.out 2000 (by rfl) (by rfl)).mono ?_
    rintro e w5 ⟨a5, c5, rfl, hr, ht, hc⟩
    have T5 := Lib.hid (ht.sub (fun k hk => .inl hk))
    have B5 := Lib.hid (below_chg B4.out hc (fun _ h => h))
    clear ht hc hr T4 B4
    simp only [List.length_nil]
    go_wp2_with fail
    go_at_call 13
    refine (tlen_walk T5.out).mono ?_
    rintro e w6 ⟨rfl, rfl⟩
    simp only [List.length_nil]
    go_wp2_with fail
    go_ret
    exact ⟨rfl, B5.out⟩
  | false =>
    go_enter Try.func4, Try.ntmps4
    go_wp2_with fail
    go_at_call 8
    refine (awake_walk _).mono ?_
    rintro e w0 ⟨rfl, hb0⟩
    have HB0 := Lib.hid hb0
    clear hb0
    go_wp2_with fail
    go_at_call 9
    refine (new_walk _).mono ?_
    rintro e w1 ⟨rfl, ht, hb⟩
    have T := Lib.hid (ht.sub (Q' := fun k => k < w.heap.size) (fun k hk => Nat.lt_of_lt_of_le hk HB0.out.size))
    have B := Lib.hid (below_step HB0.out hb)
    clear ht hb HB0
    generalize w0.heap.size + 1 = A at T ⊢
    go_wp2_with fail
    go_at_call 10
    refine (set_is (S' := [(k, a)]) (E := 0) T.out k a okk oka (setE_new k a k0 a0') (setS_new k a k0 a0')).mono ?_
    rintro e w2 ⟨rfl, ht, hc⟩
    have T2 := Lib.hid ht
    have B2 := Lib.hid (below_chg B.out hc (fun _ h => h))
    clear ht hc T B
    go_wp2_with fail
    go_at_call 10
    refine (set_is (S' := [(k, b)]) (E := 0) T2.out k b okk okb (setE_one k a b k0 b0) (setS_one k a b k0 b0)).mono ?_
    rintro e w3 ⟨rfl, ht, hc⟩
    have T3 := Lib.hid ht
    have B3 := Lib.hid (below_chg B2.out hc (fun _ h => h))
    clear ht hc T2 B2
    go_wp2_with fail
    go_at_call 11
    refine (due_is (T := []) (L := [(k, b)]) T3.out (b - 1) (dueT_no k b (b - 1) (by omega)) (dueL_no k b (b - 1) (by omega))).mono ?_
    rintro e w5 ⟨a5, c5, rfl, hr, ht, hc⟩
    have T5 := Lib.hid (ht.sub (fun k hk => .inl hk))
    have B5 := Lib.hid (below_chg B3.out hc (fun _ h => h))
    clear ht hc hr T3 B3
    simp only [List.length_nil]
    go_wp2_with fail
    go_at_call 11
    refine (due_is (T := [(k, b)]) (L := []) T5.out b (by simp [dueT]) (by simp [dueL])).mono ?_
    rintro e w6 ⟨a6, c6, rfl, hr, ht, hc⟩
    simp only [List.length_cons, List.length_nil, List.map_cons, List.map_nil, Nat.zero_add] at hr ⊢
    have R6 := Lib.hid hr
    have B6 := Lib.hid (below_chg B5.out hc (fun _ h => h))
    clear ht hc hr T5 B5
    have bb := below_alloc (Below.refl w6.heap.size w6) (.cells #[.int .i64 k] 3)
    have SA := Lib.hid (same_walk (rowk R6.out (Chg.of_below bb (fun _ => False)) (fun _ _ e => e)) (lit_row (w := w6) (xs := [k]) (cs := #[.int .i64 k]) (n := 1) (by rfl) (by rfl) (by decide)) (by simp))
    have B7 := Lib.hid (below_step B6.out bb)
    clear bb
    go_wp2_with (first | (go_at_call 14; refine (num_walk _ _).mono ?_; rintro e w' ⟨rfl, rfl⟩) | (go_at_call 12; refine SA.out.mono ?_; rintro e w9 ⟨rfl, hb9⟩))
    go_ret
    exact ⟨by simp, below_step B7.out hb9⟩
end Go.Proofs.Ytphdmhjmaecddaa
