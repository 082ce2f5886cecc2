/-
The plain side of FcsBits: up to three turned bits among at most 1502 bytes never leave the sum as it was, but where they undo each other.
-/
import Derived.Test.YtelondenakcglaaBits
namespace Go.Proofs.Ytelondenakcglaa.Bits
open Go.RowKit Go.Proofs.Ytelondenakcglaa.Pure Go.Proofs.Ytelondenakcglaa.Crc

/-! ### the rule, turned round -/
theorem st_zero {z : Nat} (hz : z < 65536) (h : st z = 0) : z = 0 := by
  unfold st at h
  split at h
  · rename_i ho
    have : z / 2 = 33800 := by
      have := congrArg (· ^^^ 33800) h
      simp only [Nat.xor_assoc, Nat.xor_self, Nat.xor_zero, Nat.zero_xor] at this
      exact this
    omega
  · omega
theorem stN_zero : ∀ (k : Nat) {z : Nat}, z < 65536 → stN k z = 0 → z = 0
  | 0, _, _, h => h
  | k + 1, _, hz, h => st_zero hz (stN_zero k (st_lt hz) h)
theorem xor_zero_eq {a b : Nat} (h : a ^^^ b = 0) : a = b := by
  have := congrArg (· ^^^ b) h
  simp only [Nat.xor_assoc, Nat.xor_self, Nat.xor_zero, Nat.zero_xor] at this
  exact this

/-! ### the parity -/
def par : Nat → Nat → Bool
  | 0, _ => false
  | k + 1, x => Bool.xor (decide (x % 2 = 1)) (par k (x / 2))
theorem par_xor : ∀ (k a b : Nat), par k (a ^^^ b) = Bool.xor (par k a) (par k b)
  | 0, _, _ => rfl
  | k + 1, a, b => by
    have hm := xor_mod a b
    have ha := Nat.mod_two_eq_zero_or_one a
    have hb := Nat.mod_two_eq_zero_or_one b
    simp only [par]
    rw [xor_div, par_xor k]
    have e : decide ((a ^^^ b) % 2 = 1) = Bool.xor (decide (a % 2 = 1)) (decide (b % 2 = 1)) := by
      rw [hm]
      rcases ha with ha | ha <;> rcases hb with hb | hb <;> rw [ha, hb] <;> decide
    rw [e]
    generalize decide (a % 2 = 1) = p
    generalize decide (b % 2 = 1) = q
    generalize par k (a / 2) = u
    generalize par k (b / 2) = v
    cases p <;> cases q <;> cases u <;> cases v <;> rfl
theorem par_small : ∀ (k y : Nat), y < 2 ^ k → par (k + 1) y = par k y
  | 0, y, h => by
    have : y = 0 := by omega
    subst this
    rfl
  | k + 1, y, h => by
    have := par_small k (y / 2) (by rw [Nat.pow_succ] at h; omega)
    show Bool.xor (decide (y % 2 = 1)) (par (k + 1) (y / 2)) = Bool.xor (decide (y % 2 = 1)) (par k (y / 2))
    rw [this]
theorem par_st {x : Nat} (hx : x < 65536) : par 16 (st x) = par 16 x := by
  have h1 : par 16 (x / 2) = par 15 (x / 2) := par_small 15 _ (by omega)
  have h2 : par 16 x = Bool.xor (decide (x % 2 = 1)) (par 15 (x / 2)) := rfl
  unfold st
  split
  · rename_i ho
    rw [par_xor, h1, h2, show par 16 33800 = true from by decide, decide_eq_true ho]
    cases par 15 (x / 2) <;> rfl
  · rename_i ho
    rw [h1, h2, decide_eq_false ho]
    cases par 15 (x / 2) <;> rfl
theorem par_stN : ∀ (k : Nat) {x : Nat}, x < 65536 → par 16 (stN k x) = par 16 x
  | 0, _, _ => rfl
  | k + 1, _, hx => by
    show par 16 (stN k (st _)) = _
    rw [par_stN k (st_lt hx), par_st hx]

/-! ### one turned bit, so many steps from the end -/
def far (m : Nat) : Nat := stN m 1
theorem far_lt (m : Nat) : far m < 65536 := stN_lt m (by decide)
theorem far_par (m : Nat) : par 16 (far m) = true := par_stN m (by decide)

def chk : Nat → Nat → Bool
  | 0, _ => true
  | n + 1, x => if x = 1 then false else chk n (st x)
theorem chk_out : ∀ (n x d : Nat), chk n x = true → d < n → stN d x ≠ 1
  | 0, _, _, _, h => absurd h (Nat.not_lt_zero _)
  | n + 1, x, d, h, hd => by
    unfold chk at h
    split at h
    · cases h
    · rename_i hx
      cases d with
      | zero => exact hx
      | succ d => exact chk_out n (st x) d h (by omega)
theorem chk_all : chk 12015 (st 1) = true := by decide +kernel

theorem far_once {m1 m2 : Nat} (h0 : m1 < m2) (h : m2 - m1 ≤ 12015) : far m1 ≠ far m2 := by
  intro e
  have e2 : far m2 = stN m1 (stN (m2 - m1) 1) := by
    unfold far
    rw [← stN_add]
    congr 1
    omega
  have h3 : stN m1 (1 ^^^ stN (m2 - m1) 1) = 0 := by
    rw [stN_xor, ← e2, ← e]
    exact Nat.xor_self _
  have h4 := xor_zero_eq (stN_zero m1 (xor_lt (by decide) (stN_lt _ (by decide))) h3)
  have h5 : stN (m2 - m1) 1 = stN (m2 - m1 - 1) (st 1) := by
    rw [show m2 - m1 = (m2 - m1 - 1) + 1 by omega]
    rfl
  rw [h5] at h4
  exact chk_out 12015 (st 1) (m2 - m1 - 1) chk_all (by omega) h4.symm

/-! ### lists of bytes -/
def runN (x : Nat) (l : List Nat) : Nat := l.foldl next x
theorem runN_list (x : Nat) (s : ByteArray) : runN x (listOf s) = run x s.data.toList := by
  unfold runN run listOf
  rw [List.foldl_map]
theorem next_xor (x z c : Nat) : next (x ^^^ z) c = next x c ^^^ stN 8 z := by
  unfold next
  rw [← stN_xor]
  congr 1
  exact xor_mid' x z c
where xor_mid' (x z c : Nat) : (x ^^^ z) ^^^ c = (x ^^^ c) ^^^ z := by
        rw [Nat.xor_assoc, Nat.xor_comm z c, ← Nat.xor_assoc]
theorem runN_xor : ∀ (l : List Nat) (x z : Nat), runN (x ^^^ z) l = runN x l ^^^ stN (8 * l.length) z
  | [], _, _ => rfl
  | c :: l, x, z => by
    show runN (next (x ^^^ z) c) l = runN (next x c) l ^^^ stN (8 * (l.length + 1)) z
    rw [next_xor, runN_xor l, ← stN_add, show 8 + 8 * l.length = 8 * (l.length + 1) by omega]

theorem pow_steps {k : Nat} (hk : k < 8) : stN 8 (2 ^ k) = far (8 - k) := by
  have h := stN_high k 1
  rw [Nat.one_mul] at h
  have : stN 8 (2 ^ k) = stN (8 - k) (stN k (2 ^ k)) := by
    rw [← stN_add]
    congr 1
    omega
  rw [this, h]
  rfl

theorem runN_tog : ∀ (l : List Nat) (x k : Nat), k < 8 * l.length → runN x (tog l k) = runN x l ^^^ far (8 * l.length - k)
  | [], _, _, h => by simp at h
  | b :: l, x, k, h => by
    by_cases hk : k < 8
    · have e : tog (b :: l) k = (b ^^^ 2 ^ k) :: l := by
        unfold tog
        rw [Nat.div_eq_of_lt hk, Nat.mod_eq_of_lt hk]
        rfl
      rw [e]
      show runN (next x (b ^^^ 2 ^ k)) l = runN (next x b) l ^^^ far (8 * (l.length + 1) - k)
      have e2 : next x (b ^^^ 2 ^ k) = next x b ^^^ far (8 - k) := by
        unfold next
        rw [← Nat.xor_assoc, stN_xor, pow_steps hk]
      rw [e2, runN_xor]
      congr 1
      unfold far
      rw [← stN_add]
      congr 1
      omega
    · have e : tog (b :: l) k = b :: tog l (k - 8) := by
        unfold tog
        have h1 : k / 8 = (k - 8) / 8 + 1 := by omega
        have h2 : k % 8 = (k - 8) % 8 := by omega
        rw [h1, h2]
        rfl
      rw [e]
      show runN (next x b) (tog l (k - 8)) = runN (next x b) l ^^^ far (8 * (l.length + 1) - k)
      rw [runN_tog l _ _ (by simp only [List.length_cons] at h; omega)]
      congr 2
      omega

theorem tog_twice (l : List Nat) (k : Nat) (h : k < 8 * l.length) : tog (tog l k) k = l := by
  unfold tog
  have hq : k / 8 < l.length := by omega
  refine List.ext_getElem (by simp) fun j h1 h2 => ?_
  by_cases e : k / 8 = j
  · subst e
    simp [List.getD_eq_getElem?_getD, hq, Nat.xor_assoc]
  · simp [List.getElem_set_ne e]

theorem str_list (s : ByteArray) : strOfNums (ints (listOf s)) = s := by
  unfold strOfNums ints listOf
  rw [List.map_map, List.map_map]
  have : (fun n : Int => UInt8.ofNat n.toNat) ∘ (fun x : Nat => (x : Int)) ∘ (fun c : UInt8 => c.toNat) = id := by
    funext c
    simp
  have e : s.data.toList.map ((fun n : Int => UInt8.ofNat n.toNat) ∘ (fun x : Nat => (x : Int)) ∘ (fun c : UInt8 => c.toNat)) = s.data.toList := by
    rw [this, List.map_id]
  rw [show ((fun n : Int => UInt8.ofNat n.toNat) ∘ fun x : Nat => (x : Int)) ∘ (fun c : UInt8 => c.toNat) = (fun n : Int => UInt8.ofNat n.toNat) ∘ (fun x : Nat => (x : Int)) ∘ (fun c : UInt8 => c.toNat) from rfl, e]

theorem list_str (l : List Nat) (h : ∀ x ∈ l, x < 256) : listOf (strOfNums (ints l)) = l := by
  unfold strOfNums ints listOf
  simp only [List.map_map]
  have : ∀ x ∈ l, (fun c : UInt8 => c.toNat) (UInt8.ofNat ((x : Int)).toNat) = x := fun x hx => by
    have := h x hx
    simp only [Int.toNat_natCast]
    rw [UInt8.toNat_ofNat']
    omega
  calc _ = l.map (fun x => x) := List.map_congr_left (fun x hx => this x hx)
    _ = l := List.map_id' l

#print axioms runN_tog
#print axioms far_once
end Go.Proofs.Ytelondenakcglaa.Bits
