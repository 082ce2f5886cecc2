/-
The walk of the statement TimerFull: MaxTimers timers, not one more.
-/
import Derived.Test.YtphdmhjmaecddaaTurns
namespace Go.Proofs.Ytphdmhjmaecddaa
open Go.RowKit Go.Proofs.YtphdmhjmaecddaaW.PrintWords Go.Proofs.YtphdmhjmaecddaaW.PrintLast Go.Proofs.YtphdmhjmaecddaaW.PrintMore

theorem ins_last {x : Tm} : ∀ {S : List Tm}, (∀ y ∈ S, lt x y = false) → ins x S = S ++ [x]
  | [], _ => rfl
  | y :: r, h => by
    rw [ins, if_neg (by rw [h y (by simp)]; simp), ins_last (fun z hz => h z (by simp [hz]))]
    rfl
theorem ins_first {x : Tm} : ∀ {S : List Tm}, (∀ y ∈ S, lt x y = true) → ins x S = x :: S
  | [], _ => rfl
  | y :: r, h => by rw [ins, if_pos (h y (by simp))]
theorem ins_length (x : Tm) (S : List Tm) : (ins x S).length = S.length + 1 := by rw [(ins_perm x S).length_eq]; rfl
theorem del_length {k : Int} : ∀ {S : List Tm}, Ids S → has k S = true → (del k S).length + 1 = S.length
  | [], _, h => by simp [has] at h
  | y :: r, hi, h => by
    obtain ⟨h1, h2⟩ := List.pairwise_cons.1 hi
    by_cases e : y.1 = k
    · have hn : has k r = false := has_false.2 (fun x hx => by rw [← e]; exact (h1 x hx).symm)
      have e2 : del k (y :: r) = del k r := by unfold del; rw [List.filter_cons_of_neg (by simpa using e)]
      rw [e2, del_none hn]
      rfl
    · have h3 : has k r = true := by
        obtain ⟨x, hx, hxk⟩ := has_iff.1 h
        rcases List.mem_cons.1 hx with rfl | hx
        · exact absurd hxk e
        · exact has_iff.2 ⟨x, hx, hxk⟩
      have := del_length h2 h3
      have e2 : del k (y :: r) = y :: del k r := by unfold del; rw [List.filter_cons_of_pos (by simpa using e)]
      rw [e2]
      simp only [List.length_cons]
      omega

/-- So many timers as the law sets. -/
def ups (n : Nat) : List Tm := (List.range n).map (fun j : Nat => ((j : Int), 1000 + (j : Int)))
theorem ups_length (n : Nat) : (ups n).length = n := by simp [ups]
theorem mem_ups {n : Nat} {x : Tm} : x ∈ ups n ↔ ∃ j, j < n ∧ x = ((j : Int), 1000 + (j : Int)) := by
  simp only [ups, List.mem_map, List.mem_range]
  constructor
  · rintro ⟨j, hj, rfl⟩; exact ⟨j, hj, rfl⟩
  · rintro ⟨j, hj, rfl⟩; exact ⟨j, hj, rfl⟩
theorem ups_succ (n : Nat) : ups (n + 1) = ups n ++ [((n : Int), 1000 + (n : Int))] := by simp [ups, List.range_succ]
theorem ups_has_no {n : Nat} {k : Int} (h : (n : Int) ≤ k) : has k (ups n) = false := has_false.2 (fun x hx => by
  obtain ⟨j, hj, rfl⟩ := mem_ups.1 hx
  show (j : Int) ≠ k
  omega)
theorem ups_has {n : Nat} {k : Int} (h0 : 0 ≤ k) (h : k < (n : Int)) : has k (ups n) = true := has_iff.2 ⟨(k, 1000 + k), mem_ups.2 ⟨k.toNat, by omega, by rw [Int.toNat_of_nonneg h0]⟩, rfl⟩
theorem ups_setE (n : Nat) (h : n < 256) : setE (n : Int) (1000 + (n : Int)) (ups n) = 0 := by
  unfold setE
  rw [if_neg (by omega), if_pos (.inr (by rw [ups_length]; exact h))]
theorem ups_setS (n : Nat) (h : n < 256) : setS (n : Int) (1000 + (n : Int)) (ups n) = ups (n + 1) := by
  unfold setS
  rw [if_neg (by omega), if_pos (.inr (by rw [ups_length]; exact h)), del_none (ups_has_no (Int.le_refl _)), ups_succ]
  refine ins_last fun y hy => ?_
  obtain ⟨j, hj, rfl⟩ := mem_ups.1 hy
  rw [lt_not]
  simp only
  omega
theorem full_setE (k : Int) (h0 : 256 ≤ k) : setE k 5 (ups 256) = 1102 := by
  unfold setE
  rw [if_neg (by omega), if_neg (by rw [ups_has_no (by omega), ups_length]; simp)]
theorem full_setS (k : Int) (h0 : 256 ≤ k) : setS k 5 (ups 256) = ups 256 := by
  unfold setS
  rw [if_neg (by omega), if_neg (by rw [ups_has_no (by omega), ups_length]; simp)]
theorem turn_setE (k a : Int) (h0 : 0 ≤ k) (h1 : k < 256) (ha : 0 ≤ a) : setE k a (ups 256) = 0 := by
  unfold setE
  rw [if_neg (by omega), if_pos (.inl (ups_has h0 (by omega)))]
theorem turn_setS (k a : Int) (h0 : 0 ≤ k) (h1 : k < 256) (ha : 0 ≤ a) (ha2 : a < 512) : setS k a (ups 256) = (k, a) :: del k (ups 256) := by
  unfold setS
  rw [if_neg (by omega), if_pos (.inl (ups_has h0 (by omega)))]
  refine ins_first fun y hy => ?_
  obtain ⟨j, hj, rfl⟩ := mem_ups.1 (mem_del.1 hy).1
  rw [lt_iff]
  simp only
  omega

/-- What the law's loop keeps. -/
structure FullL (w wr : World) (A q : Nat) : Prop where
  tt : TT wr A (ups q) (fun k => k < w.heap.size)
  below : Below w.heap.size w wr

set_option maxRecDepth 100000 in
set_option maxHeartbeats 4000000 in
theorem full_walk (a0 a1 : Int) (w : World) : Calls Try.prog 7 #[.int .i64 a0, .int .i64 a1] w fun e w' => e = .returned (.bool true) ∧ Below w.heap.size w w' := by
  obtain ⟨k, ek, k0, k1⟩ := and255 a0
  obtain ⟨p, ep, p0, p1⟩ := and511 a1
  have okk : ok64 k := by rw [ok64_iff]; omega
  have okk2 : ok64 (256 + k) := by rw [ok64_iff]; omega
  have okp : ok64 p := by rw [ok64_iff]; omega
  go_enter Try.func7, Try.ntmps7
  go_wp2_with fail
  go_at_call 8
  refine (awake_walk _).mono ?_
  rintro e w0 ⟨rfl, hb0⟩
  have HB0 := Lib.hid hb0
  clear hb0
  go_wp2_with fail
  go_at_call 9
  refine (new_walk _).mono ?_
  rintro e w1 ⟨rfl, ht, hb⟩
  have T := Lib.hid (show FullL w w1 (w0.heap.size + 1) 0 from ⟨ht.sub (Q' := fun k => k < w.heap.size) (fun k hk => Nat.lt_of_lt_of_le hk HB0.out.size), below_step HB0.out hb⟩)
  clear ht hb HB0
  generalize w0.heap.size + 1 = A at T ⊢
  go_wp2_with fail
  go_loopg [6] 257 (fun m v6 wr => ∃ q : Nat, v6 = .int .i64 q ∧ q ≤ 256 ∧ 256 - q < m ∧ Aside (FullL w wr A q))
  case atStart => exact ⟨0, rfl, by omega, by omega, T.out⟩
  case round =>
    obtain ⟨q, rfl, hq, hqm, hst⟩ := hrel
    have HS := Lib.hid (Aside.out hst)
    clear hst T
    by_cases hlt : q < 256
    · have q1 : (q : Int) < 256 := by omega
      have q0 : (0 : Int) ≤ (q : Int) := Int.natCast_nonneg _
      go_wp2_with fail
      go_at_call 10
      refine (set_is (S' := ups (q + 1)) (E := 0) HS.out.tt (q : Int) (1000 + (q : Int)) (by rw [ok64_iff]; omega) (by rw [ok64_iff]; omega) (ups_setE q hlt) (ups_setS q hlt)).mono ?_
      rintro e w2 ⟨rfl, ht, hc⟩
      have T2 := Lib.hid (show FullL w w2 A (q + 1) from ⟨ht, below_chg HS.out.below hc (fun _ h => h)⟩)
      clear ht hc HS
      go_wp2_with (go_at_call 14; refine (num_walk _ _).mono ?_; rintro e w' ⟨rfl, rfl⟩)
      go_roundg (gk - 1)
      case measure => omega
      case rel => exact ⟨q + 1, by go_num, by omega, by omega, T2.out⟩
    · obtain rfl : q = 256 := by omega
      go_wp2_with fail
      go_at_call 10
      refine (set_is (S' := ups 256) (E := 1102) HS.out.tt (256 + k) 5 okk2 (by rfl) (full_setE (256 + k) (by omega)) (full_setS (256 + k) (by omega))).mono ?_
      rintro e w2 ⟨rfl, ht, hc⟩
      have T2 := Lib.hid (show FullL w w2 A 256 from ⟨ht, below_chg HS.out.below hc (fun _ h => h)⟩)
      clear ht hc HS
      go_wp2_with fail
      go_at_call 10
      refine (set_is (S' := (k, p) :: del k (ups 256)) (E := 0) T2.out.tt k p okk okp (turn_setE k p k0 k1 p0) (turn_setS k p k0 k1 p0 p1)).mono ?_
      rintro e w3 ⟨rfl, ht, hc⟩
      have T3 := Lib.hid ht
      have B3 := Lib.hid (below_chg T2.out.below hc (fun _ h => h))
      have hlen : ((k, p) :: del k (ups 256)).length = 256 := by
        have := del_length T2.out.tt.ids (ups_has k0 (n := 256) (by omega))
        rw [ups_length] at this
        simp only [List.length_cons]
        omega
      have HL := Lib.hid hlen
      clear ht hc T2 hlen
      go_wp2_with fail
      go_at_call 19
      refine (next_is T3.out (V := .tuple #[.int .i64 k, .int .i64 p, .int .i64 0]) rfl).mono ?_
      rintro e w4 ⟨rfl, ht, hb⟩
      have T4 := Lib.hid ht
      have B4 := Lib.hid (below_step B3.out hb)
      have LE := Lib.hid (tlen_walk ht)
      rw [HL.out] at LE
      clear ht hb T3 B3
      go_wp2_with (first | (go_at_call 14; refine (num_walk _ _).mono ?_; rintro e w' ⟨rfl, rfl⟩) | (go_at_call 13; refine LE.out.mono ?_; rintro e w' ⟨rfl, rfl⟩))
      go_ret
      exact ⟨rfl, B4.out⟩
end Go.Proofs.Ytphdmhjmaecddaa
