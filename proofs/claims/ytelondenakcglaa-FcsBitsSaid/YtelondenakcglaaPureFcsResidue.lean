/-
The statement FcsResidue: the sum of a text with its own sum behind it is the same for all texts; no condition beyond the statement's own.
-/
import Derived.Test.YtelondenakcglaaPFx2
import Derived.Test.YtelondenakcglaaPureCommon
namespace Go.Proofs.Ytelondenakcglaa.Pure
open Go.RowKit Go.Proofs.Ytelondenakcglaa.PF Go.Proofs.YtelondenakcglaaW.PrintWords Go.Proofs.YtelondenakcglaaW.PrintLast Go.Proofs.YtelondenakcglaaW.PrintMore Go.Proofs.Ytelondenakcglaa.Crc

theorem xor_low (a b : Nat) : (a ^^^ b) % 256 = (a % 256) ^^^ (b % 256) := by
  have := Nat.xor_mod_two_pow (a := a) (b := b) (n := 8)
  exact this
theorem xor_high (a b : Nat) : (a ^^^ b) / 256 = (a / 256) ^^^ (b / 256) := by
  have := Nat.xor_div_two_pow (a := a) (b := b) (n := 8)
  exact this

/-- What every text with its own sum comes to. -/
def residue : Nat := (T 255 / 256) ^^^ T ((T 255 % 256) ^^^ 255)

theorem two_more {x : Nat} (hx : x < 65536) : next (next x ((x ^^^ 65535) % 256)) ((x ^^^ 65535) / 256) = residue := by
  have h1 : (x ^^^ 65535) % 256 = (x % 256) ^^^ 255 := xor_low x 65535
  have h2 : (x ^^^ 65535) / 256 = (x / 256) ^^^ 255 := xor_high x 65535
  have e1 : (x % 256) ^^^ ((x % 256) ^^^ 255) = 255 := by rw [← Nat.xor_assoc, Nat.xor_self, Nat.zero_xor]
  have n1 : next x ((x ^^^ 65535) % 256) = (x / 256) ^^^ T 255 := by rw [next_table, h1, e1]
  have hx2 : x / 256 < 256 := by omega
  rw [n1, next_table, h2, xor_low, xor_high, Nat.div_eq_of_lt hx2, Nat.zero_xor, Nat.mod_eq_of_lt hx2]
  have e2 : ((x / 256) ^^^ (T 255 % 256)) ^^^ ((x / 256) ^^^ 255) = (T 255 % 256) ^^^ 255 := by
    rw [Nat.xor_comm (x / 256) (T 255 % 256), Nat.xor_assoc, ← Nat.xor_assoc (x / 256), Nat.xor_self, Nat.zero_xor]
  rw [e2]
  rfl

theorem fcs_put (s : ByteArray) : fcs (putS s) = residue ^^^ 65535 := by
  have hr : run 65535 s.data.toList < 65536 := run_lt _ (by decide)
  have hf := fcs_lt s
  have e : (putS s).data.toList = s.data.toList ++ [UInt8.ofNat ((fcs s : Int) % 256).toNat, UInt8.ofNat ((fcs s : Int) / 256 % 256).toNat] := by
    unfold putS
    rw [ByteArray.data_append, Array.toList_append]
    rfl
  have h1 : (UInt8.ofNat ((fcs s : Int) % 256).toNat).toNat = fcs s % 256 := by
    rw [UInt8.toNat_ofNat']
    omega
  have h2 : (UInt8.ofNat ((fcs s : Int) / 256 % 256).toNat).toNat = fcs s / 256 := by
    rw [UInt8.toNat_ofNat']
    omega
  show run 65535 (putS s).data.toList ^^^ 65535 = _
  rw [e, run_append]
  show next (next (run 65535 s.data.toList) (UInt8.ofNat ((fcs s : Int) % 256).toNat).toNat) (UInt8.ofNat ((fcs s : Int) / 256 % 256).toNat).toNat ^^^ 65535 = _
  rw [h1, h2]
  show next (next (run 65535 s.data.toList) ((run 65535 s.data.toList ^^^ 65535) % 256)) ((run 65535 s.data.toList ^^^ 65535) / 256) ^^^ 65535 = _
  rw [two_more hr]

theorem FcsResidue : withylaw1_FcsResidue.Pure := by
  intro s t hs ht
  refine ⟨100, ?_⟩
  unfold withylaw1_FcsResidue.f
  rw [awake_is, put_is _ s (by omega), put_is _ t (by omega), put_is _ ⟨#[]⟩ (by decide)]
  simp only [Option.bind_some, if_true]
  rw [of_is _ (putS s) (by rw [putS_size]; omega), of_is _ (putS t) (by rw [putS_size]; omega), of_is _ (putS ⟨#[]⟩) (by rw [putS_size]; decide)]
  simp [withylaw0_Num.f, fcs_put]

end Go.Proofs.Ytelondenakcglaa.Pure
