/-
The statement FcsAll: the sum of any bytes, put and checked, is the document's own answer; no condition beyond the statement's own.
-/
import Derived.Test.YtelondenakcglaaPureCommon
namespace Go.Proofs.Ytelondenakcglaa.Pure
open Go.RowKit Go.Proofs.Ytelondenakcglaa.PF Go.Proofs.YtelondenakcglaaW.PrintWords Go.Proofs.YtelondenakcglaaW.PrintLast Go.Proofs.YtelondenakcglaaW.PrintMore Go.Proofs.Ytelondenakcglaa.Crc

theorem stN_succ (k n : Nat) : stN (k + 1) n = st (stN k n) := by
  rw [stN_add k 1]; rfl

theorem ref_bits (s : ByteArray) (i : Nat) (hi : i < s.size) (hn : s.size ≤ 140737488400000) (d : Nat) : ∀ (k x j : Nat), x < 65536 → j + d = 8 → d < k →
    withyref1_Fcs.l1 (k + 1) s (x : Int) (i : Int) (j : Int) = withyref1_Fcs.l0 (k - d) s (stN d x : Int) ((i : Int) + 1) := by
  induction d with
  | zero =>
    intro k x j hx hj hk
    simp only [withyref1_Fcs.l1]
    rw [if_neg (by omega), wr (x := (i : Int) + 1) (by omega) (by omega)]
    rfl
  | succ d ih =>
    intro k x j hx hj hk
    simp only [withyref1_Fcs.l1]
    rw [if_pos (by omega), and64_1 hx, wr (x := (j : Int) + 1) (by omega) (by omega), show ((j : Int) + 1) = ((j + 1 : Nat) : Int) by omega]
    obtain ⟨k, rfl⟩ : ∃ q, k = q + 1 := ⟨k - 1, by omega⟩
    by_cases ho : x % 2 = 1
    · rw [if_pos (by omega), step_odd hx ho, ih k (st x) (j + 1) (st_lt hx) (by omega) (by omega), show k + 1 - (d + 1) = k - d by omega]
      rfl
    · rw [if_neg (by omega), step_even ho, ih k (st x) (j + 1) (st_lt hx) (by omega) (by omega), show k + 1 - (d + 1) = k - d by omega]
      rfl

theorem ref_loop (s : ByteArray) (hn : s.size ≤ 140737488400000) (d : Nat) : ∀ (k i : Nat), i + d = s.size → 10 * d < k →
    withyref1_Fcs.l0 k s (run 65535 (s.data.toList.take i) : Int) (i : Int) = some (fcs s : Int) := by
  induction d with
  | zero =>
    intro k i hi hk
    obtain ⟨k, rfl⟩ : ∃ q, k = q + 1 := ⟨k - 1, by omega⟩
    simp only [withyref1_Fcs.l0]
    have hx : run 65535 (s.data.toList.take i) < 65536 := run_lt _ (by decide)
    rw [if_neg (by omega), show (65535 : Int) = ((65535 : Nat) : Int) from rfl, xor64 hx (by decide), List.take_of_length_le (by simp; omega)]
    rfl
  | succ d ih =>
    intro k i hi hk
    obtain ⟨k, rfl⟩ : ∃ q, k = q + 2 := ⟨k - 2, by omega⟩
    have hlt : i < s.size := by omega
    have hx : run 65535 (s.data.toList.take i) < 65536 := run_lt _ (by decide)
    have hb : bt s (i : Int) = (s[i].toNat : Int) := by
      rw [← bt_at s (i : Int) (by simpa using hlt)]
      simp
    have hc := s[i].toNat_lt
    rw [withyref1_Fcs.l0, if_pos (by omega), if_pos (by omega), hb, wr (x := (s[i].toNat : Int)) (by omega) (by omega), xor64 hx (by omega)]
    rw [show (0 : Int) = ((0 : Nat) : Int) from rfl, ref_bits s i hlt hn 8 k _ 0 (xor_lt hx (by omega)) (by omega) (by omega)]
    have e := run_take_succ s i hlt
    unfold next at e
    rw [← e]
    rw [show ((i : Int) + 1) = ((i + 1 : Nat) : Int) by omega]
    exact ih (k - 8) (i + 1) (by omega) (by omega)

theorem ref_is (s : ByteArray) (hn : s.size ≤ 140737488400000) (k : Nat) (hk : 10 * s.size < k) : withyref1_Fcs.f k s = some (fcs s : Int) := by
  unfold withyref1_Fcs.f
  have := ref_loop s hn s.size k 0 (by omega) hk
  exact this

theorem sum_is (s : ByteArray) (hn : s.size ≤ 140737488400000) (k : Nat) (hk : 10 * s.size < k) : withyref1_Sum.f k s = some (putS s) := by
  unfold withyref1_Sum.f
  rw [ref_is s hn k hk]
  simp only [Option.bind_some]
  rw [and64_255, if_pos (by rw [strOfNums_size]; simp only [List.length_cons, List.length_nil]; omega), Int.emod_emod_of_dvd _ (by decide : (256 : Int) ∣ 256)]
  rfl

theorem unsum_is (s : ByteArray) (hn : s.size ≤ 140737488400000) (k : Nat) (hk : 10 * s.size < k) : withyref1_Unsum.f k s = some (checkS s) := by
  unfold withyref1_Unsum.f checkS
  by_cases h : s.size < 2
  · rw [if_pos (by omega), if_pos h]
  · rw [if_neg (by omega), if_neg h, wr (x := (s.size : Int) - 2) (by omega) (by omega), if_pos (by omega), if_pos (by omega), show ((s.size : Int) - 2).toNat = s.size - 2 by omega,
      sum_is _ (by rw [extract_size _ _ (by omega)]; omega) k (by rw [extract_size _ _ (by omega)]; omega)]
    simp only [Option.bind_some]
    split <;> rfl

theorem FcsAll : withylaw1_FcsAll.Pure := by
  intro s hs
  refine ⟨10 * s.size + 10, ?_⟩
  unfold withylaw1_FcsAll.f
  rw [check_is _ s (by omega), unsum_is s (by omega) _ (by omega), of_is _ s (by omega), ref_is s (by omega) _ (by omega), put_is _ s (by omega), sum_is s (by omega) _ (by omega), awake_is]
  simp [withylaw0_Num.f]

end Go.Proofs.Ytelondenakcglaa.Pure
