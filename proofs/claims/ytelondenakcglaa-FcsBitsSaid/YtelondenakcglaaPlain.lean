/-
Plain facts on the sum of chapter 1: numbers alone, no program.
-/
namespace Go.Proofs.Ytelondenakcglaa.Crc

/-- One step of the rule. -/
def st (n : Nat) : Nat := if n % 2 = 1 then (n / 2) ^^^ 33800 else n / 2
def stN : Nat → Nat → Nat
  | 0, n => n
  | k + 1, n => stN k (st n)

theorem xor_lt {a b : Nat} (ha : a < 65536) (hb : b < 65536) : a ^^^ b < 65536 := Nat.xor_lt_two_pow (n := 16) ha hb

theorem st_lt {n : Nat} (h : n < 65536) : st n < 65536 := by
  unfold st
  split
  · exact xor_lt (by omega) (by omega)
  · omega

theorem stN_lt : ∀ (k : Nat) {n : Nat}, n < 65536 → stN k n < 65536
  | 0, _, h => h
  | k + 1, _, h => stN_lt k (st_lt h)

theorem stN_add : ∀ (j k n : Nat), stN (j + k) n = stN k (stN j n)
  | 0, k, n => by rw [Nat.zero_add]; rfl
  | j + 1, k, n => by
    rw [show j + 1 + k = (j + k) + 1 by omega]
    exact stN_add j k (st n)

theorem xor_div (a b : Nat) : (a ^^^ b) / 2 = a / 2 ^^^ b / 2 := by
  apply Nat.eq_of_testBit_eq
  intro i
  simp [Nat.testBit_div_two]

theorem xor_mod (a b : Nat) : (a ^^^ b) % 2 = (a % 2 + b % 2) % 2 := by
  have h := Nat.testBit_xor a b 0
  simp only [Nat.testBit_zero] at h
  have ha := Nat.mod_two_eq_zero_or_one a
  have hb := Nat.mod_two_eq_zero_or_one b
  have hc := Nat.mod_two_eq_zero_or_one (a ^^^ b)
  rcases ha with ha | ha <;> rcases hb with hb | hb <;> rcases hc with hc | hc <;> simp_all

theorem xor_self_mid (a b c : Nat) : (a ^^^ c) ^^^ (b ^^^ c) = a ^^^ b := by
  apply Nat.eq_of_testBit_eq
  intro i
  simp only [Nat.testBit_xor]
  cases a.testBit i <;> cases b.testBit i <;> cases c.testBit i <;> rfl

theorem xor_right (a b c : Nat) : a ^^^ (b ^^^ c) = (a ^^^ b) ^^^ c := (Nat.xor_assoc a b c).symm
theorem xor_mid (a b c : Nat) : (a ^^^ c) ^^^ b = (a ^^^ b) ^^^ c := by
  rw [Nat.xor_assoc, Nat.xor_comm c b, ← Nat.xor_assoc]

theorem st_xor (a b : Nat) : st (a ^^^ b) = st a ^^^ st b := by
  have ha := Nat.mod_two_eq_zero_or_one a
  have hb := Nat.mod_two_eq_zero_or_one b
  have hm := xor_mod a b
  unfold st
  rcases ha with ha | ha <;> rcases hb with hb | hb <;> rw [ha, hb] at hm
  · rw [if_neg (by omega), if_neg (by omega), if_neg (by omega), xor_div]
  · rw [if_pos (by omega), if_neg (by omega), if_pos (by omega), xor_div, xor_right]
  · rw [if_pos (by omega), if_pos (by omega), if_neg (by omega), xor_div, xor_mid]
  · rw [if_neg (by omega), if_pos (by omega), if_pos (by omega), xor_div, xor_self_mid]

theorem stN_xor : ∀ (k a b : Nat), stN k (a ^^^ b) = stN k a ^^^ stN k b
  | 0, _, _ => rfl
  | k + 1, a, b => by
    show stN k (st (a ^^^ b)) = stN k (st a) ^^^ stN k (st b)
    rw [st_xor, stN_xor k]

theorem stN_high : ∀ (k n : Nat), stN k (n * 2 ^ k) = n
  | 0, n => by simp [stN]
  | k + 1, n => by
    show stN k (st (n * 2 ^ (k + 1))) = n
    have e : n * 2 ^ (k + 1) = 2 * (n * 2 ^ k) := by rw [Nat.pow_succ, ← Nat.mul_assoc, Nat.mul_comm]
    have h : st (n * 2 ^ (k + 1)) = n * 2 ^ k := by
      unfold st
      rw [e, if_neg (by omega)]
      omega
    rw [h]
    exact stN_high k n

/-- The entry of the table. -/
def T (j : Nat) : Nat := stN 8 j
theorem T_lt {j : Nat} (h : j < 256) : T j < 65536 := stN_lt 8 (by omega)

theorem mod_xor (x : Nat) : x = (x / 256 * 2 ^ 8) ^^^ (x % 256) := by
  have h := Nat.two_pow_add_eq_or_of_lt (i := 8) (b := x % 256) (by omega) (x / 256)
  have e : x / 256 * 2 ^ 8 = 2 ^ 8 * (x / 256) := Nat.mul_comm _ _
  have hx : 2 ^ 8 * (x / 256) + x % 256 = x := by omega
  rw [e]
  have hand : (2 ^ 8 * (x / 256)) &&& (x % 256) = 0 := by
    apply Nat.eq_of_testBit_eq
    intro i
    simp only [Nat.testBit_and, Nat.testBit_two_pow_mul, Nat.zero_testBit]
    by_cases hi : 8 ≤ i
    · have : (x % 256).testBit i = false := Nat.testBit_lt_two_pow (Nat.lt_of_lt_of_le (show x % 256 < 2 ^ 8 by omega) (Nat.pow_le_pow_right (by decide) hi))
      rw [this]; simp
    · simp [hi]
  apply Nat.eq_of_testBit_eq
  intro i
  have h2 := congrArg (·.testBit i) h
  rw [hx] at h2
  have h3 := congrArg (·.testBit i) hand
  simp only [Nat.testBit_or, Nat.testBit_and, Nat.zero_testBit] at h2 h3
  rw [h2, Nat.testBit_xor]
  generalize (2 ^ 8 * (x / 256)).testBit i = p at *
  generalize (x % 256).testBit i = q at *
  revert h3
  cases p <;> cases q <;> decide

/-- A byte more: by the table, and bit by bit. -/
def next (x c : Nat) : Nat := stN 8 (x ^^^ c)
theorem next_lt {x c : Nat} (hx : x < 65536) (hc : c < 256) : next x c < 65536 := stN_lt 8 (xor_lt hx (by omega))
theorem next_table (x c : Nat) : next x c = (x / 256) ^^^ T ((x % 256) ^^^ c) := by
  unfold next T
  have e : x ^^^ c = (x / 256 * 2 ^ 8) ^^^ ((x % 256) ^^^ c) := by
    rw [← Nat.xor_assoc, ← mod_xor]
  rw [e, stN_xor, stN_high]

def run (x : Nat) (l : List UInt8) : Nat := l.foldl (fun x c => next x c.toNat) x
theorem run_lt : ∀ (l : List UInt8) {x : Nat}, x < 65536 → run x l < 65536
  | [], _, h => h
  | c :: l, _, h => run_lt l (next_lt h c.toNat_lt)
theorem run_append (x : Nat) (l m : List UInt8) : run x (l ++ m) = run (run x l) m := List.foldl_append ..
theorem run_take_succ (s : ByteArray) (k : Nat) (h : k < s.size) : run 65535 (s.data.toList.take (k + 1)) = next (run 65535 (s.data.toList.take k)) s[k].toNat := by
  rw [List.take_succ_eq_append_getElem (by simpa using h), run_append]
  rfl

/-- The sum. -/
def fcs (s : ByteArray) : Nat := run 65535 s.data.toList ^^^ 65535
theorem fcs_lt (s : ByteArray) : fcs s < 65536 := xor_lt (run_lt _ (by decide)) (by decide)

theorem not16 {x : Nat} (h : x < 65536) : x ^^^ 65535 = 65535 - x := by
  have e : ∀ x : Nat, x < 2 ^ 16 → x ^^^ (2 ^ 16 - 1) = 2 ^ 16 - 1 - x := by
    intro x hx
    have h1 := BitVec.toNat_not (x := BitVec.ofNat 16 x)
    rw [BitVec.not_def, BitVec.toNat_xor, BitVec.toNat_ofNat, BitVec.toNat_allOnes, Nat.mod_eq_of_lt hx, Nat.xor_comm] at h1
    exact h1
  exact e x h

#print axioms next_table
#print axioms not16
end Go.Proofs.Ytelondenakcglaa.Crc
