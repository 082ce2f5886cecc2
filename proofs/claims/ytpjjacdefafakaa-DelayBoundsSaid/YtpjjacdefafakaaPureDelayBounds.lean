/-
The statement DelayBounds: a delay lies between three quarters and the whole of the doubled base, and does not fall as tries grow; no condition beyond the statement's own.
-/
import Derived.Test.YtpjjacdefafakaaPDelayBoundsx1
namespace Go.Proofs.Ytpjjacdefafakaa.Pure
open Go.RowKit Go.Proofs.Ytpjjacdefafakaa.PDelayBounds Go.Proofs.YtpjjacdefafakaaW.PrintWords Go.Proofs.YtpjjacdefafakaaW.PrintLast Go.Proofs.YtpjjacdefafakaaW.PrintMore

theorem wr {x : Int} (h0 : -9223372036854775808 ≤ x) (h1 : x ≤ 9223372036854775807) : wrap64 x = x := by
  unfold wrap64
  omega

/-- The delay out of the doubled and capped number. -/
def ans (d j : Int) : Int := d - j % (d / 4 + 1)

theorem ans_bounds {d j : Int} (h0 : 0 ≤ d) : 0 ≤ j % (d / 4 + 1) ∧ j % (d / 4 + 1) ≤ d / 4 := by
  have h1 := Int.emod_nonneg j (show d / 4 + 1 ≠ 0 by omega)
  have h2 := Int.emod_lt_of_pos j (show 0 < d / 4 + 1 by omega)
  omega

theorem end_is {d j : Int} (h0 : 0 ≤ d) (h1 : d ≤ 100000) (hj : 0 ≤ j) :
    (if (wrap64 ((wrap64 (Int.tdiv d 4)) + 1)) = 0 then (none : Option (Int × Int)) else (some (wrap64 (d - (Int.tmod j (wrap64 ((wrap64 (Int.tdiv d 4)) + 1)))), 0))) = some (ans d j, 0) := by
  have e1 : Int.tdiv d 4 = d / 4 := Int.tdiv_eq_ediv_of_nonneg h0
  rw [e1, wr (x := d / 4) (by omega) (by omega), wr (x := d / 4 + 1) (by omega) (by omega), if_neg (by omega)]
  rw [Int.tmod_eq_emod_of_nonneg hj]
  obtain ⟨b1, b2⟩ := ans_bounds (j := j) h0
  rw [wr (x := d - j % (d / 4 + 1)) (by omega) (by omega)]
  rfl

/-- The number after n doublings, at most m. -/
def cap (n : Nat) (d m : Int) : Int := if d * 2 ^ n ≤ m then d * 2 ^ n else m

theorem pow_pos2 (n : Nat) : (1 : Int) ≤ 2 ^ n := by
  have : 0 < (2 : Int) ^ n := Int.pow_pos (by decide)
  omega

theorem pow_le_cast (n c : Nat) (h : 2 ^ n ≤ c) : (2 : Int) ^ n ≤ (c : Int) := by exact_mod_cast h
theorem pow_ge_cast (n c : Nat) (h : c ≤ 2 ^ n) : (c : Int) ≤ (2 : Int) ^ n := by exact_mod_cast h

theorem mul_ge (d : Int) (hd : 0 ≤ d) (n : Nat) : d ≤ d * 2 ^ n := by
  have h := pow_pos2 n
  have := Int.mul_le_mul_of_nonneg_left h hd
  omega

theorem cap_zero {d m : Int} (h : d ≤ m) : cap 0 d m = d := by simp [cap, h]

theorem cap_le (n : Nat) {d m : Int} : cap n d m ≤ m := by unfold cap; split <;> omega
theorem cap_ge (n : Nat) {d m : Int} (hd : 0 ≤ d) (h : d ≤ m) : d ≤ cap n d m := by
  have := mul_ge d hd n
  unfold cap; split <;> omega

theorem cap_succ (n : Nat) (d m : Int) : cap (n + 1) d m = cap n (2 * d) m := by
  unfold cap
  have : d * 2 ^ (n + 1) = 2 * d * 2 ^ n := by rw [Int.pow_succ, Int.mul_comm (2 ^ n) 2, ← Int.mul_assoc, Int.mul_comm d 2]
  rw [this]

theorem cap_more (n : Nat) {d m : Int} (hd : 0 ≤ d) (h : m < d * 2) : cap (n + 1) d m = m := by
  rw [cap_succ]
  have := mul_ge (2 * d) (by omega) n
  unfold cap
  rw [if_neg (by omega)]

theorem loop_is (n : Nat) : ∀ (k : Nat) (d m j t i : Int), 1 ≤ d → d ≤ m → m ≤ 4096 → 0 ≤ j → 0 ≤ i → t ≤ 62 → t - i = n → n < k →
    backoff_Delay.l0 k m j d t i = some (ans (cap n d m) j, 0) := by
  induction n with
  | zero =>
    intro k d m j t i h1 h2 h3 h4 h5 h6 h7 h8
    obtain ⟨k, rfl⟩ : ∃ q, k = q + 1 := ⟨k - 1, by omega⟩
    simp only [backoff_Delay.l0]
    rw [if_neg (by omega), end_is (by omega) (by omega) h4, cap_zero h2]
  | succ n ih =>
    intro k d m j t i h1 h2 h3 h4 h5 h6 h7 h8
    obtain ⟨k, rfl⟩ : ∃ q, k = q + 1 := ⟨k - 1, by omega⟩
    simp only [backoff_Delay.l0]
    have e1 : Int.tdiv m 2 = m / 2 := Int.tdiv_eq_ediv_of_nonneg (by omega)
    rw [if_pos (by omega), e1, wr (x := m / 2) (by omega) (by omega)]
    by_cases hd : d > m / 2
    · rw [if_pos hd, end_is (by omega) (by omega) h4, cap_more n (by omega) (by omega)]
    · rw [if_neg hd, wr (x := d * 2) (by omega) (by omega), wr (x := i + 1) (by omega) (by omega),
        ih k (d * 2) m j t (i + 1) (by omega) (by omega) h3 h4 (by omega) h6 (by omega) (by omega), cap_succ, Int.mul_comm d 2]

def fine (t b m j : Int) : Prop := 0 ≤ t ∧ t ≤ 62 ∧ 1 ≤ b ∧ b ≤ m ∧ m ≤ 4096 ∧ 0 ≤ j

theorem delay_fine (k : Nat) (hk : 64 < k) {t b m j : Int} (h : fine t b m j) :
    backoff_Delay.f k t b m j = some (ans (cap t.toNat b m) j, 0) := by
  obtain ⟨h1, h2, h3, h4, h5, h6⟩ := h
  unfold backoff_Delay.f
  rw [if_neg (by omega), if_neg (by omega), if_neg (by omega), if_neg (by omega), if_neg (by omega), if_neg (by omega)]
  obtain ⟨k, rfl⟩ : ∃ q, k = q + 1 := ⟨k - 1, by omega⟩
  simp only [backoff_Delay.j0]
  rw [if_neg (by simp; omega)]
  exact loop_is t.toNat k b m j t 0 h3 h4 h5 h6 (by omega) h2 (by omega) (by omega)

theorem delay_not (k : Nat) (hk : 0 < k) {t b m j : Int} (h : ¬ fine t b m j) :
    backoff_Delay.f k t b m j = some (0, 1200) := by
  unfold fine at h
  obtain ⟨k, rfl⟩ : ∃ q, k = q + 1 := ⟨k - 1, by omega⟩
  have e : ∀ c : Bool, c = true → backoff_Delay.j0 (k + 1) t b m j c = some (0, 1200) := fun c hc => by
    simp only [backoff_Delay.j0]; rw [if_pos hc]
  unfold backoff_Delay.f
  (repeat' split) <;> first | exact e _ rfl | exact e _ (by simp; omega)

theorem awake_is (k : Nat) (hk : 64 < k) : withylaw12_awake.f k = some true := by
  unfold withylaw12_awake.f
  rw [delay_fine k hk (t := 3) (b := 2) (m := 10) (j := 0) (by unfold fine; decide),
    delay_fine k hk (t := 1) (b := 2) (m := 10) (j := 1) (by unfold fine; decide), delay_not k (by omega) (t := -1) (b := 2) (m := 10) (j := 0) (by unfold fine; decide)]
  rfl

theorem u_range (x c : Int) (hc : 0 < c) (hc1 : c ≤ 9223372036854775807) : ∃ r, wrap64 (Int.tmod (IntKind.u64.wrap x) c) = r ∧ 0 ≤ r ∧ r < c := by
  have h0 : 0 ≤ IntKind.u64.wrap x := by
    simp [IntKind.wrap, IntKind.bits, IntKind.signed]
    exact Int.emod_nonneg _ (by decide)
  rw [Int.tmod_eq_emod_of_nonneg h0]
  have h1 := Int.emod_nonneg (IntKind.u64.wrap x) (show c ≠ 0 by omega)
  have h2 := Int.emod_lt_of_pos (IntKind.u64.wrap x) hc
  refine ⟨_, wr (by omega) (by omega), h1, h2⟩

theorem cap_next (n : Nat) {d m : Int} (hd : 0 ≤ d) (h : d ≤ m) : cap n d m ≤ cap (n + 1) d m ∧ cap (n + 1) d m ≤ 2 * cap n d m := by
  have e : d * 2 ^ (n + 1) = 2 * (d * 2 ^ n) := by rw [Int.pow_succ, Int.mul_comm (2 ^ n) 2, ← Int.mul_assoc, Int.mul_comm d 2, Int.mul_assoc]
  have hp := mul_ge d hd n
  unfold cap
  rw [e]
  generalize d * 2 ^ n = p at *
  split <;> split <;> omega

theorem DelayBounds : withylaw12_DelayBounds.Pure := by
  intro a0 a1 a2 a3 _ _ _ _
  refine ⟨100, ?_⟩
  obtain ⟨t, et, t0, t1⟩ := u_range a0 62 (by decide) (by decide)
  obtain ⟨b, eb, b0, b1⟩ := u_range a1 200 (by decide) (by decide)
  obtain ⟨m, em, m0, m1⟩ := u_range a2 3000 (by decide) (by decide)
  obtain ⟨j, ej, j0, j1⟩ := u_range a3 1000000 (by decide) (by decide)
  unfold withylaw12_DelayBounds.f
  rw [et, eb, em, ej, wr (x := 1 + b) (by omega) (by omega), wr (x := 1 + b + m) (by omega) (by omega), wr (x := t + 1) (by omega) (by omega)]
  rw [awake_is 100 (by omega), delay_fine 100 (by omega) (t := t) (b := 1 + b) (m := 1 + b + m) (j := j) (by unfold fine; omega),
    delay_fine 100 (by omega) (t := t) (b := 1 + b) (m := 1 + b + m) (j := 0) (by unfold fine; omega),
    delay_fine 100 (by omega) (t := t + 1) (b := 1 + b) (m := 1 + b + m) (j := 0) (by unfold fine; omega)]
  have e0 : (t + 1).toNat = t.toNat + 1 := by omega
  rw [e0]
  obtain ⟨n1, n2⟩ := cap_next t.toNat (d := 1 + b) (m := 1 + b + m) (by omega) (by omega)
  have n3 := cap_ge t.toNat (d := 1 + b) (m := 1 + b + m) (by omega) (by omega)
  have n4 := cap_le (t.toNat + 1) (d := 1 + b) (m := 1 + b + m)
  have a1 : ∀ d, ans d 0 = d := fun d => by simp [ans]
  simp only [Option.bind_some, a1, withylaw0_Num.f, if_true]
  generalize cap t.toNat (1 + b) (1 + b + m) = w at *
  generalize cap (t.toNat + 1) (1 + b) (1 + b + m) = x at *
  obtain ⟨s0, s1⟩ := ans_bounds (d := w) (j := j) (by omega)
  have s2 : ans w j = w - j % (w / 4 + 1) := rfl
  rw [s2]
  generalize j % (w / 4 + 1) = q at *
  rw [if_pos (by omega), wr (x := 4 * (w - q)) (by omega) (by omega), wr (x := 3 * w) (by omega) (by omega), wr (x := 2 * w) (by omega) (by omega), if_pos (by omega), if_pos (by omega), if_pos (by omega), if_pos (by omega)]
  simp
  omega

end Go.Proofs.Ytpjjacdefafakaa.Pure
