/-
The statement FcsSteps: a byte more is eight steps of the rule; no condition beyond the statement's own.
-/
import Derived.Test.YtelondenakcglaaPFx2
import Derived.Test.YtelondenakcglaaPureCommon
namespace Go.Proofs.Ytelondenakcglaa.Pure
open Go.RowKit Go.Proofs.Ytelondenakcglaa.PF Go.Proofs.YtelondenakcglaaW.PrintWords Go.Proofs.YtelondenakcglaaW.PrintLast Go.Proofs.YtelondenakcglaaW.PrintMore Go.Proofs.Ytelondenakcglaa.Crc

theorem fcs_empty : fcs ⟨#[]⟩ = 0 := by decide +kernel

theorem byte_list (c : Int) : (strOfNums [c % 256]).data.toList = [UInt8.ofNat (c % 256).toNat] := rfl

theorem fcs_more (s : ByteArray) (c : Int) : fcs (s ++ strOfNums [c % 256]) = next (run 65535 s.data.toList) (c % 256).toNat ^^^ 65535 := by
  unfold fcs
  have e : (s ++ strOfNums [c % 256]).data.toList = s.data.toList ++ [UInt8.ofNat (c % 256).toNat] := by
    rw [ByteArray.data_append, Array.toList_append, byte_list]
  rw [e, run_append]
  have h : (UInt8.ofNat (c % 256).toNat).toNat = (c % 256).toNat := by
    rw [UInt8.toNat_ofNat']
    omega
  show next (run 65535 s.data.toList) (UInt8.ofNat (c % 256).toNat).toNat ^^^ 65535 = _
  rw [h]

theorem steps_loop (s : ByteArray) (hn : s.size ≤ 140737488351232) (c : Int) (d : Nat) : ∀ (k x j : Nat), x < 65536 → j + d = 8 → d < k →
    stN d x = next (run 65535 s.data.toList) (c % 256).toNat → withylaw1_FcsSteps.l0 k s c (x : Int) (j : Int) = some true := by
  induction d with
  | zero =>
    intro k x j hx hj hk hst
    obtain ⟨k, rfl⟩ : ∃ q, k = q + 1 := ⟨k - 1, by omega⟩
    simp only [withylaw1_FcsSteps.l0]
    rw [if_neg (by omega)]
    simp only [Option.bind_some]
    have hsz : (strOfNums [c % 256]).size = 1 := by rw [strOfNums_size]; rfl
    rw [hsz, if_pos (by omega), of_is k _ (by rw [ByteArray.size_append, hsz]; omega), of_is k ⟨#[]⟩ (by decide), fcs_empty]
    simp only [Option.bind_some]
    have h0 : x = next (run 65535 s.data.toList) (c % 256).toNat := hst
    rw [show (65535 : Int) = ((65535 : Nat) : Int) from rfl, xor64 hx (by decide), fcs_more, ← h0, if_pos rfl]
    rfl
  | succ d ih =>
    intro k x j hx hj hk hst
    obtain ⟨k, rfl⟩ : ∃ q, k = q + 1 := ⟨k - 1, by omega⟩
    simp only [withylaw1_FcsSteps.l0]
    rw [if_pos (by omega), and64_1 hx, wr (x := (j : Int) + 1) (by omega) (by omega), show ((j : Int) + 1) = ((j + 1 : Nat) : Int) by omega]
    by_cases ho : x % 2 = 1
    · rw [if_pos (by omega), step_odd hx ho]
      exact ih k (st x) (j + 1) (st_lt hx) (by omega) (by omega) hst
    · rw [if_neg (by omega), step_even ho]
      exact ih k (st x) (j + 1) (st_lt hx) (by omega) (by omega) hst

theorem FcsSteps : withylaw1_FcsSteps.Pure := by
  intro s c hs _
  refine ⟨100, ?_⟩
  unfold withylaw1_FcsSteps.f
  rw [awake_is, of_is _ s (by omega)]
  simp only [Option.bind_some, if_true]
  have hr : run 65535 s.data.toList < 65536 := run_lt _ (by decide)
  have e : (fcs s) ^^^ 65535 = run 65535 s.data.toList := by
    unfold fcs
    rw [Nat.xor_assoc, Nat.xor_self, Nat.xor_zero]
  have hc0 : 0 ≤ c % 256 := by omega
  have ec : c % 256 = (((c % 256).toNat : Nat) : Int) := by omega
  rw [and64_255, show (65535 : Int) = ((65535 : Nat) : Int) from rfl, xor64 (fcs_lt s) (by decide), e]
  rw [ec, xor64 hr (by omega)]
  exact steps_loop s hs c 8 100 _ 0 (xor_lt hr (by omega)) (by omega) (by omega) rfl

end Go.Proofs.Ytelondenakcglaa.Pure
