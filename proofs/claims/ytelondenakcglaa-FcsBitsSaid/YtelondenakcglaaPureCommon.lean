/-
What Put, Check, Of and the document's own functions come to, in plain words; used by the five statements on sums.
-/
import Derived.Test.YtelondenakcglaaPFx1
namespace Go.Proofs.Ytelondenakcglaa.Pure
open Go.RowKit Go.Proofs.Ytelondenakcglaa.PF Go.Proofs.YtelondenakcglaaW.PrintWords Go.Proofs.YtelondenakcglaaW.PrintLast Go.Proofs.YtelondenakcglaaW.PrintMore Go.Proofs.Ytelondenakcglaa.Crc

theorem wr {x : Int} (h0 : -9223372036854775808 ≤ x) (h1 : x ≤ 9223372036854775807) : wrap64 x = x := by
  unfold wrap64
  omega

/-- The text with its sum behind it. -/
def putS (s : ByteArray) : ByteArray := s ++ strOfNums [(fcs s : Int) % 256, (fcs s : Int) / 256 % 256]
theorem putS_size (s : ByteArray) : (putS s).size = s.size + 2 := by
  unfold putS
  rw [ByteArray.size_append, strOfNums_size]
  rfl

theorem of_is (k : Nat) (s : ByteArray) (hs : s.size ≤ 140737488400000) : fcs_Of.f k s = some (fcs s : Int) := by
  unfold fcs_Of.f
  rw [if_pos hs]

theorem put_is (k : Nat) (s : ByteArray) (hs : s.size ≤ 140737488400000) : fcs_Put.f k s = some (putS s) := by
  unfold fcs_Put.f
  rw [of_is k s hs]
  simp only [Option.bind_some]
  rw [if_pos (by rw [strOfNums_size]; simp only [List.length_cons, List.length_nil]; omega)]
  rfl

/-- What Check answers. -/
def checkS (s : ByteArray) : ByteArray × Int :=
  if s.size < 2 then (⟨#[]⟩, 100) else if (putS (s.extract 0 (s.size - 2))).toList = s.toList then (s.extract 0 (s.size - 2), 0) else (⟨#[]⟩, 101)

theorem extract_size (s : ByteArray) (n : Nat) (h : n ≤ s.size) : (s.extract 0 n).size = n := by
  rw [ByteArray.size_extract]; omega

theorem check_is (k : Nat) (s : ByteArray) (hs : s.size ≤ 140737488400000) : fcs_Check.f k s = some (checkS s) := by
  unfold fcs_Check.f checkS
  rw [wr (x := (s.size : Int) - 2) (by omega) (by omega)]
  by_cases h : s.size < 2
  · rw [if_pos (by omega), if_pos h]
  · rw [if_neg (by omega), if_neg h, if_pos (by omega), if_pos (by omega), show ((s.size : Int) - 2).toNat = s.size - 2 by omega,
      put_is k _ (by rw [extract_size _ _ (by omega)]; omega)]
    simp only [Option.bind_some]
    split <;> rfl

theorem putS_extract (s : ByteArray) : (putS s).extract 0 ((putS s).size - 2) = s := by
  rw [putS_size, show s.size + 2 - 2 = s.size by omega]
  unfold putS
  apply ByteArray.ext
  simp

theorem check_put (s : ByteArray) : checkS (putS s) = (s, 0) := by
  unfold checkS
  rw [if_neg (by rw [putS_size]; omega), putS_extract, if_pos rfl]

theorem awake_is (k : Nat) : withylaw1_awake.f k = some true := by
  unfold withylaw1_awake.f
  rw [check_is k ⟨#[97]⟩ (by decide), check_is k ⟨#[97, 98, 99]⟩ (by decide), put_is k ⟨#[97, 98, 99]⟩ (by decide), of_is k ⟨#[49, 50, 51, 52, 53, 54, 55, 56, 57]⟩ (by decide)]
  simp only [Option.bind_some]
  rw [check_is k (putS ⟨#[97, 98, 99]⟩) (by rw [putS_size]; decide), check_put]
  have e1 : checkS ⟨#[97]⟩ = (⟨#[]⟩, 100) := rfl
  have e2 : fcs ⟨#[49, 50, 51, 52, 53, 54, 55, 56, 57]⟩ = 36974 := by decide +kernel
  have e3 : (checkS ⟨#[97, 98, 99]⟩).2 = 101 := by decide +kernel
  simp only [Option.bind_some, withylaw0_Num.f, e1, e2, e3]
  decide +kernel

/-! ### numbers as int64 -/
theorem xor64 {a b : Nat} (ha : a < 65536) (hb : b < 65536) : bits .xor .i64 (a : Int) (b : Int) = ((a ^^^ b : Nat) : Int) := by
  have hx := xor_lt ha hb
  show IntKind.i64.wrap ((BitVec.ofInt 64 (a : Int) ^^^ BitVec.ofInt 64 (b : Int)).toNat : Nat) = _
  rw [BitVec.ofInt_natCast, BitVec.ofInt_natCast, BitVec.toNat_xor, BitVec.toNat_ofNat, BitVec.toNat_ofNat, Nat.mod_eq_of_lt (by omega), Nat.mod_eq_of_lt (by omega), IntKind.wrap_i64]
  omega
theorem and64_1 {a : Nat} (ha : a < 65536) : bits .and .i64 (a : Int) 1 = ((a % 2 : Nat) : Int) := by
  show IntKind.i64.wrap ((BitVec.ofInt 64 (a : Int) &&& BitVec.ofInt 64 ((1 : Nat) : Int)).toNat : Nat) = _
  rw [BitVec.ofInt_natCast, BitVec.ofInt_natCast, BitVec.toNat_and, BitVec.toNat_ofNat, BitVec.toNat_ofNat, Nat.mod_eq_of_lt (by omega), Nat.mod_eq_of_lt (by omega), Nat.and_one_is_mod, IntKind.wrap_i64]
  omega
theorem and64_255 (n : Int) : bits .and .i64 n 255 = n % 256 := by
  have h : (BitVec.ofInt 64 255).toNat = 2 ^ 8 - 1 := by decide
  have key : (BitVec.ofInt 64 n &&& BitVec.ofInt 64 255).toNat = (n % ((2 ^ 64 : Nat) : Int)).toNat % 2 ^ 8 := by
    rw [BitVec.toNat_and, BitVec.toNat_ofInt, h, Nat.and_two_pow_sub_one_eq_mod]
  show IntKind.i64.wrap ((BitVec.ofInt 64 n &&& BitVec.ofInt 64 255).toNat : Nat) = n % 256
  rw [key, IntKind.wrap_i64]
  omega
theorem step_odd {x : Nat} (hx : x < 65536) (ho : x % 2 = 1) : bits .xor .i64 ((x : Int) / 2) 33800 = ((st x : Nat) : Int) := by
  have := xor64 (a := x / 2) (b := 33800) (by omega) (by decide)
  unfold st
  rw [if_pos ho, ← this]
  rfl
theorem step_even {x : Nat} (ho : ¬ x % 2 = 1) : (x : Int) / 2 = ((st x : Nat) : Int) := by
  unfold st
  rw [if_neg ho]
  omega

#print axioms awake_is
end Go.Proofs.Ytelondenakcglaa.Pure
