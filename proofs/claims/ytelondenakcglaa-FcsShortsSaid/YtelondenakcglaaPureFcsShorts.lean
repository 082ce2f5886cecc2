/-
The statement FcsShorts: texts of less than two bytes have no sum; two bytes are the sum of nothing, or not; no condition beyond the statement's own.
-/
import Derived.Test.YtelondenakcglaaPFx3
import Derived.Test.YtelondenakcglaaPureCommon
namespace Go.Proofs.Ytelondenakcglaa.Pure
open Go.RowKit Go.Proofs.Ytelondenakcglaa.PF Go.Proofs.YtelondenakcglaaW.PrintWords Go.Proofs.YtelondenakcglaaW.PrintLast Go.Proofs.YtelondenakcglaaW.PrintMore Go.Proofs.Ytelondenakcglaa.Crc

theorem FcsShorts : withylaw1_FcsShorts.Pure := by
  intro a b _ _
  refine ⟨100, ?_⟩
  unfold withylaw1_FcsShorts.f
  have z1 : (strOfNums [a % 256]).size = 1 := by rw [strOfNums_size]; rfl
  have z2 : (strOfNums [a % 256, b % 256]).size = 2 := by rw [strOfNums_size]; rfl
  have ce : checkS ⟨#[]⟩ = (⟨#[]⟩, 100) := rfl
  have c1 : checkS (strOfNums [a % 256]) = (⟨#[]⟩, 100) := by unfold checkS; rw [if_pos (by omega)]
  have c2 : checkS (strOfNums [a % 256, b % 256]) = if (putS ⟨#[]⟩).toList = (strOfNums [a % 256, b % 256]).toList then (⟨#[]⟩, 0) else (⟨#[]⟩, 101) := by
    unfold checkS
    have ex : (strOfNums [a % 256, b % 256]).extract 0 ((strOfNums [a % 256, b % 256]).size - 2) = ⟨#[]⟩ := by
      apply ByteArray.ext
      rw [z2]
      simp
    rw [if_neg (by omega), ex]
  rw [awake_is, check_is _ ⟨#[]⟩ (by decide), check_is _ _ (by omega), check_is _ _ (by omega), put_is _ ⟨#[]⟩ (by decide)]
  simp only [Option.bind_some, if_true, withylaw0_Num.f, ce, c1, c2]
  by_cases h : (putS ⟨#[]⟩).toList = (strOfNums [a % 256, b % 256]).toList
  · rw [if_pos h]
    simp [h]
  · rw [if_neg h]
    simp [h]

end Go.Proofs.Ytelondenakcglaa.Pure
