/-
The statement DelayCaps: a higher cap gives no shorter delay, a higher base neither; no condition beyond the statement's own.
-/
import Derived.Test.YtpjjacdefafakaaPDelayCapsx1
namespace Go.Proofs.Ytpjjacdefafakaa.Pure
open Go.RowKit Go.Proofs.Ytpjjacdefafakaa.PDelayCaps Go.Proofs.YtpjjacdefafakaaW.PrintWords Go.Proofs.YtpjjacdefafakaaW.PrintLast Go.Proofs.YtpjjacdefafakaaW.PrintMore

theorem wr {x : Int} (h0 : -9223372036854775808 ≤ x) (h1 : x ≤ 9223372036854775807) : wrap64 x = x := by
  unfold wrap64
  omega

/-- The delay out of the doubled and capped number. -/
def ans (d j : Int) : Int := d - j % (d / 4 + 1)

theorem ans_bounds {d j : Int} (h0 : 0 ≤ d) : 0 ≤ j % (d / 4 + 1) ∧ j % (d / 4 + 1) ≤ d / 4 := by
  have h1 := Int.emod_nonneg j (show d / 4 + 1 ≠ 0 by omega)
  have h2 := Int.emod_lt_of_pos j (show 0 < d / 4 + 1 by omega)
  omega

theorem end_is {d j : Int} (h0 : 0 ≤ d) (h1 : d ≤ 100000) (hj : 0 ≤ j) :
    (if (wrap64 ((wrap64 (Int.tdiv d 4)) + 1)) = 0 then (none : Option (Int × Int)) else (some (wrap64 (d - (Int.tmod j (wrap64 ((wrap64 (Int.tdiv d 4)) + 1)))), 0))) = some (ans d j, 0) := by
  have e1 : Int.tdiv d 4 = d / 4 := Int.tdiv_eq_ediv_of_nonneg h0
  rw [e1, wr (x := d / 4) (by omega) (by omega), wr (x := d / 4 + 1) (by omega) (by omega), if_neg (by omega)]
  rw [Int.tmod_eq_emod_of_nonneg hj]
  obtain ⟨b1, b2⟩ := ans_bounds (j := j) h0
  rw [wr (x := d - j % (d / 4 + 1)) (by omega) (by omega)]
  rfl

/-- The number after n doublings, at most m. -/
def cap (n : Nat) (d m : Int) : Int := if d * 2 ^ n ≤ m then d * 2 ^ n else m

theorem pow_pos2 (n : Nat) : (1 : Int) ≤ 2 ^ n := by
  have : 0 < (2 : Int) ^ n := Int.pow_pos (by decide)
  omega

theorem pow_le_cast (n c : Nat) (h : 2 ^ n ≤ c) : (2 : Int) ^ n ≤ (c : Int) := by exact_mod_cast h
theorem pow_ge_cast (n c : Nat) (h : c ≤ 2 ^ n) : (c : Int) ≤ (2 : Int) ^ n := by exact_mod_cast h

theorem mul_ge (d : Int) (hd : 0 ≤ d) (n : Nat) : d ≤ d * 2 ^ n := by
  have h := pow_pos2 n
  have := Int.mul_le_mul_of_nonneg_left h hd
  omega

theorem cap_zero {d m : Int} (h : d ≤ m) : cap 0 d m = d := by simp [cap, h]

theorem cap_le (n : Nat) {d m : Int} : cap n d m ≤ m := by unfold cap; split <;> omega
theorem cap_ge (n : Nat) {d m : Int} (hd : 0 ≤ d) (h : d ≤ m) : d ≤ cap n d m := by
  have := mul_ge d hd n
  unfold cap; split <;> omega

theorem cap_succ (n : Nat) (d m : Int) : cap (n + 1) d m = cap n (2 * d) m := by
  unfold cap
  have : d * 2 ^ (n + 1) = 2 * d * 2 ^ n := by rw [Int.pow_succ, Int.mul_comm (2 ^ n) 2, ← Int.mul_assoc, Int.mul_comm d 2]
  rw [this]

theorem cap_more (n : Nat) {d m : Int} (hd : 0 ≤ d) (h : m < d * 2) : cap (n + 1) d m = m := by
  rw [cap_succ]
  have := mul_ge (2 * d) (by omega) n
  unfold cap
  rw [if_neg (by omega)]

theorem loop_is (n : Nat) : ∀ (k : Nat) (d m j t i : Int), 1 ≤ d → d ≤ m → m ≤ 4096 → 0 ≤ j → 0 ≤ i → t ≤ 62 → t - i = n → n < k →
    backoff_Delay.l0 k m j d t i = some (ans (cap n d m) j, 0) := by
  induction n with
  | zero =>
    intro k d m j t i h1 h2 h3 h4 h5 h6 h7 h8
    obtain ⟨k, rfl⟩ : ∃ q, k = q + 1 := ⟨k - 1, by omega⟩
    simp only [backoff_Delay.l0]
    rw [if_neg (by omega), end_is (by omega) (by omega) h4, cap_zero h2]
  | succ n ih =>
    intro k d m j t i h1 h2 h3 h4 h5 h6 h7 h8
    obtain ⟨k, rfl⟩ : ∃ q, k = q + 1 := ⟨k - 1, by omega⟩
    simp only [backoff_Delay.l0]
    have e1 : Int.tdiv m 2 = m / 2 := Int.tdiv_eq_ediv_of_nonneg (by omega)
    rw [if_pos (by omega), e1, wr (x := m / 2) (by omega) (by omega)]
    by_cases hd : d > m / 2
    · rw [if_pos hd, end_is (by omega) (by omega) h4, cap_more n (by omega) (by omega)]
    · rw [if_neg hd, wr (x := d * 2) (by omega) (by omega), wr (x := i + 1) (by omega) (by omega),
        ih k (d * 2) m j t (i + 1) (by omega) (by omega) h3 h4 (by omega) h6 (by omega) (by omega), cap_succ, Int.mul_comm d 2]

def fine (t b m j : Int) : Prop := 0 ≤ t ∧ t ≤ 62 ∧ 1 ≤ b ∧ b ≤ m ∧ m ≤ 4096 ∧ 0 ≤ j

theorem delay_fine (k : Nat) (hk : 64 < k) {t b m j : Int} (h : fine t b m j) :
    backoff_Delay.f k t b m j = some (ans (cap t.toNat b m) j, 0) := by
  obtain ⟨h1, h2, h3, h4, h5, h6⟩ := h
  unfold backoff_Delay.f
  rw [if_neg (by omega), if_neg (by omega), if_neg (by omega), if_neg (by omega), if_neg (by omega), if_neg (by omega)]
  obtain ⟨k, rfl⟩ : ∃ q, k = q + 1 := ⟨k - 1, by omega⟩
  simp only [backoff_Delay.j0]
  rw [if_neg (by simp; omega)]
  exact loop_is t.toNat k b m j t 0 h3 h4 h5 h6 (by omega) h2 (by omega) (by omega)

theorem delay_not (k : Nat) (hk : 0 < k) {t b m j : Int} (h : ¬ fine t b m j) :
    backoff_Delay.f k t b m j = some (0, 1200) := by
  unfold fine at h
  obtain ⟨k, rfl⟩ : ∃ q, k = q + 1 := ⟨k - 1, by omega⟩
  have e : ∀ c : Bool, c = true → backoff_Delay.j0 (k + 1) t b m j c = some (0, 1200) := fun c hc => by
    simp only [backoff_Delay.j0]; rw [if_pos hc]
  unfold backoff_Delay.f
  (repeat' split) <;> first | exact e _ rfl | exact e _ (by simp; omega)

theorem awake_is (k : Nat) (hk : 64 < k) : withylaw12_awake.f k = some true := by
  unfold withylaw12_awake.f
  rw [delay_fine k hk (t := 3) (b := 2) (m := 10) (j := 0) (by unfold fine; decide),
    delay_fine k hk (t := 1) (b := 2) (m := 10) (j := 1) (by unfold fine; decide), delay_not k (by omega) (t := -1) (b := 2) (m := 10) (j := 0) (by unfold fine; decide)]
  rfl

theorem u_range (x c : Int) (hc : 0 < c) (hc1 : c ≤ 9223372036854775807) : ∃ r, wrap64 (Int.tmod (IntKind.u64.wrap x) c) = r ∧ 0 ≤ r ∧ r < c := by
  have h0 : 0 ≤ IntKind.u64.wrap x := by
    simp [IntKind.wrap, IntKind.bits, IntKind.signed]
    exact Int.emod_nonneg _ (by decide)
  rw [Int.tmod_eq_emod_of_nonneg h0]
  have h1 := Int.emod_nonneg (IntKind.u64.wrap x) (show c ≠ 0 by omega)
  have h2 := Int.emod_lt_of_pos (IntKind.u64.wrap x) hc
  refine ⟨_, wr (by omega) (by omega), h1, h2⟩

theorem shl_is {b t : Int} (h0 : 0 ≤ b) (h1 : b ≤ 256) (t0 : 0 ≤ t) (t1 : t < 20) : shl .i64 b t = b * 2 ^ t.toNat ∧ b * 2 ^ t.toNat ≤ 134217728 := by
  have e : min t.toNat (IntKind.i64.bits) = t.toNat := Nat.min_eq_left (by simp [IntKind.bits]; omega)
  unfold shl
  rw [e]
  have hp : (2 : Int) ^ t.toNat ≤ 524288 := by
    have : (2 : Nat) ^ t.toNat ≤ 2 ^ 19 := Nat.pow_le_pow_right (by decide) (by omega)
    have := pow_le_cast t.toNat 524288 (by omega)
    omega
  have hq := pow_pos2 t.toNat
  have h2 : b * 2 ^ t.toNat ≤ 256 * 524288 := Int.le_trans (Int.mul_le_mul_of_nonneg_left hp h0) (Int.mul_le_mul_of_nonneg_right h1 (by omega))
  have h3 := mul_ge b h0 t.toNat
  refine ⟨?_, by omega⟩
  rw [IntKind.wrap_i64]
  omega

theorem and_mask (i : Nat) (hi : i ≤ 62) (n c : Int) (hc : c = 2 ^ i - 1) : bits .and .i64 n c = n % 2 ^ i := by
  have hp : 2 ^ i ≤ 2 ^ 62 := Nat.pow_le_pow_right (by decide) hi
  have hc2 : c = ((2 ^ i - 1 : Nat) : Int) := by rw [hc, Int.natCast_sub (Nat.two_pow_pos i)]; simp
  have h1 : (BitVec.ofInt 64 c).toNat = 2 ^ i - 1 := by
    rw [hc2, BitVec.ofInt_natCast, BitVec.toNat_ofNat]
    omega
  have key : (BitVec.ofInt 64 n &&& BitVec.ofInt 64 c).toNat = (n % ((2 ^ 64 : Nat) : Int)).toNat % 2 ^ i := by
    rw [BitVec.toNat_and, BitVec.toNat_ofInt, h1, Nat.and_two_pow_sub_one_eq_mod]
  show IntKind.i64.wrap ((BitVec.ofInt 64 n &&& BitVec.ofInt 64 c).toNat : Nat) = n % 2 ^ i
  rw [key, IntKind.wrap_i64]
  have hd : ((2 ^ i : Nat) : Int) ∣ ((2 ^ 64 : Nat) : Int) := by
    exact_mod_cast Nat.pow_dvd_pow 2 (by omega : i ≤ 64)
  have e2 : (((n % ((2 ^ 64 : Nat) : Int)).toNat % 2 ^ i : Nat) : Int) = n % 2 ^ i := by
    rw [Int.natCast_emod, Int.toNat_of_nonneg (Int.emod_nonneg _ (by decide)), Int.emod_emod_of_dvd n hd]
    simp
  rw [e2]
  have h3 : 0 ≤ n % 2 ^ i := Int.emod_nonneg _ (by have := pow_pos2 i; omega)
  have h4 : n % 2 ^ i < 2 ^ i := Int.emod_lt_of_pos _ (by have := pow_pos2 i; omega)
  have h5 : (2 : Int) ^ i ≤ 4611686018427387904 := by
    have := pow_le_cast i 4611686018427387904 (by omega)
    omega
  omega

theorem cap_cap (n : Nat) {d m m' : Int} (hm : m ≤ m') : cap n d m ≤ cap n d m' := by
  unfold cap
  split <;> split <;> omega

theorem cap_base (n : Nat) {d d' m : Int} (hd : d ≤ d') : cap n d m ≤ cap n d' m := by
  have h := Int.mul_le_mul_of_nonneg_right hd (show 0 ≤ (2 : Int) ^ n by have := pow_pos2 n; omega)
  unfold cap
  split <;> split <;> omega

theorem cap_late {n : Nat} (hn : 20 ≤ n) {d m : Int} (hd : 1 ≤ d) (hm : m ≤ 4096) : cap n d m = m := by
  have h1 : (2 : Nat) ^ 20 ≤ 2 ^ n := Nat.pow_le_pow_right (by decide) hn
  have h2 : (1048576 : Int) ≤ 2 ^ n := by
    have := pow_ge_cast n 1048576 (by omega)
    omega
  have h3 := Int.mul_le_mul_of_nonneg_right hd (show 0 ≤ (2 : Int) ^ n by omega)
  unfold cap
  rw [if_neg (by omega)]

theorem DelayCaps : withylaw12_DelayCaps.Pure := by
  intro a0 a1 a2 a3 _ _ _ _
  refine ⟨100, ?_⟩
  obtain ⟨t, et, t0, t1⟩ := u_range a0 63 (by decide) (by decide)
  unfold withylaw12_DelayCaps.f
  rw [et, and_mask 8 (by decide) a1 255 (by decide), and_mask 10 (by decide) a2 1023 (by decide), and_mask 9 (by decide) a3 511 (by decide)]
  have b0 := Int.emod_nonneg a1 (show (2 : Int) ^ 8 ≠ 0 by decide)
  have b1 := Int.emod_lt_of_pos a1 (show (0 : Int) < 2 ^ 8 by decide)
  have m0 := Int.emod_nonneg a2 (show (2 : Int) ^ 10 ≠ 0 by decide)
  have m1 := Int.emod_lt_of_pos a2 (show (0 : Int) < 2 ^ 10 by decide)
  have k0 := Int.emod_nonneg a3 (show (2 : Int) ^ 9 ≠ 0 by decide)
  have k1 := Int.emod_lt_of_pos a3 (show (0 : Int) < 2 ^ 9 by decide)
  generalize a1 % 2 ^ 8 = b at *
  generalize a2 % 2 ^ 10 = m at *
  generalize a3 % 2 ^ 9 = k at *
  have b1' : b < 256 := b1
  have m1' : m < 1024 := m1
  have k1' : k < 512 := k1
  clear b1 m1 k1
  rw [wr (x := 1 + b) (by omega) (by omega), wr (x := 1 + b + m) (by omega) (by omega), wr (x := 1 + b + m + k) (by omega) (by omega), wr (x := 1 + b + k) (by omega) (by omega)]
  have hmn : 1 + b ≤ mn (1 + b + m) (1 + b + k) ∧ mn (1 + b + m) (1 + b + k) ≤ 1 + b + m := by unfold mn; split <;> omega
  generalize mn (1 + b + m) (1 + b + k) = c at *
  rw [awake_is 100 (by omega), delay_fine 100 (by omega) (t := t) (b := 1 + b) (m := 1 + b + m) (j := 0) (by unfold fine; omega),
    delay_fine 100 (by omega) (t := t) (b := 1 + b) (m := 1 + b + m + k) (j := 0) (by unfold fine; omega),
    delay_fine 100 (by omega) (t := t) (b := c) (m := 1 + b + m) (j := 0) (by unfold fine; omega)]
  have a1 : ∀ d, ans d 0 = d := fun d => by simp [ans]
  simp only [Option.bind_some, a1, withylaw0_Num.f, if_true]
  rw [if_pos (cap_cap t.toNat (by omega)), if_pos (cap_base t.toNat (by omega))]
  by_cases hx : cap t.toNat (1 + b) (1 + b + m) = 1 + b + m
  · rw [if_pos hx]
  · rw [if_neg hx]
    have ht : t < 20 := by
      by_cases h : t < 20
      · exact h
      · exact absurd (cap_late (n := t.toNat) (by omega) (d := 1 + b) (m := 1 + b + m) (by omega) (by omega)) hx
    rw [if_pos ht, if_pos t0, (shl_is (b := 1 + b) (t := t) (by omega) (by omega) t0 ht).1]
    have : cap t.toNat (1 + b) (1 + b + m) = (1 + b) * 2 ^ t.toNat := by
      revert hx; unfold cap; split <;> simp
    rw [this]; simp

end Go.Proofs.Ytpjjacdefafakaa.Pure
