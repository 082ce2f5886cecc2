/-
The statement FcsBits: what was put is checked; with one, two or three bits turned it is not; no condition beyond the statement's own.
-/
import Derived.Test.YtelondenakcglaaRows
import Derived.Test.YtelondenakcglaaBitsPlain
import Derived.Test.YtelondenakcglaaPureFcsResidue
import Derived.Test.YtelondenakcglaaWSized
import Derived.WalkKit
import Derived.ProofKit
import Derived.OpenShut
import Derived.ShutString
import Derived.ChangeOld
import Derived.Below
import Derived.SizedLaws
namespace Go.Proofs.Ytelondenakcglaa.Bits
open Go.RowKit Go.Proofs.Ytelondenakcglaa.Pure Go.Proofs.Ytelondenakcglaa.Crc

theorem run_put (s : ByteArray) : runN 65535 (listOf (putS s)) = residue := by
  have h := fcs_put s
  unfold fcs at h
  have h2 := congrArg (· ^^^ 65535) h
  simp only [Nat.xor_assoc, Nat.xor_self, Nat.xor_zero] at h2
  rw [runN_list, h2]

/-- A list of bytes that is checked comes to the residue. -/
theorem check_run {X : ByteArray} (h2 : 2 ≤ X.size) (h : (checkS X).2 ≠ 101) : runN 65535 (listOf X) = residue := by
  unfold checkS at h
  rw [if_neg (by omega)] at h
  split at h
  · rename_i e
    have e2 : putS (X.extract 0 (X.size - 2)) = X := by
      apply ByteArray.ext
      apply Array.ext'
      have := e
      simpa [ByteArray.toList_eq] using this
    rw [← e2]
    exact run_put _
  · exact absurd rfl h

theorem xor_cancel {a b : Nat} (h : a ^^^ b = a) : b = 0 := by
  have := congrArg (a ^^^ ·) h
  simp only [← Nat.xor_assoc, Nat.xor_self, Nat.zero_xor] at this
  exact this

theorem law (s : ByteArray) (picks : List Int) (hs : s.size ≤ 1500) :
    (strOfNums (ints (togs (putS s).size (listOf (putS s)) (picks.take 3)))).toList = (putS s).toList ∨ (checkS (strOfNums (ints (togs (putS s).size (listOf (putS s)) (picks.take 3))))).2 = 101 := by
  by_cases hc : (checkS (strOfNums (ints (togs (putS s).size (listOf (putS s)) (picks.take 3))))).2 = 101
  · exact .inr hc
  left
  have hn : (listOf (putS s)).length = (putS s).size := listOf_length _
  have hsz := putS_size s
  have hlen := togs_length (putS s).size (picks.take 3) (listOf (putS s))
  have hX : 2 ≤ (strOfNums (ints (togs (putS s).size (listOf (putS s)) (picks.take 3)))).size := by
    rw [strOfNums_size]; simp only [ints, List.length_map]; omega
  have hrun := check_run hX hc
  have hR := run_put s
  generalize hp : picks.take 3 = ps at *
  have hpl : ps.length ≤ 3 := by rw [← hp, List.length_take]; omega
  have hk : ∀ p, bitOf (putS s).size p < 8 * (listOf (putS s)).length := fun p => by rw [hn]; exact bitOf_lt _ p (by omega)
  have hsmall0 : ∀ x ∈ listOf (putS s), x < 256 := fun x hx => by
    obtain ⟨c, _, rfl⟩ := List.mem_map.1 hx
    exact c.toNat_lt
  have hsmall : ∀ (l : List Nat) (k : Nat), k < 8 * l.length → (∀ x ∈ l, x < 256) → ∀ x ∈ tog l k, x < 256 := fun l k hk hl x hx => by
    unfold tog at hx
    rcases List.mem_or_eq_of_mem_set hx with hx | rfl
    · exact hl x hx
    · have h1 : l.getD (k / 8) 0 < 256 := by
        rw [List.getD_eq_getElem?_getD, List.getElem?_eq_getElem (by omega)]
        exact hl _ (List.getElem_mem _)
      have h2 : 2 ^ (k % 8) < 256 := Nat.lt_of_le_of_lt (Nat.pow_le_pow_right (by decide) (show k % 8 ≤ 7 by omega)) (by decide)
      exact Nat.xor_lt_two_pow (n := 8) h1 h2
  match ps, hpl with
  | [], _ =>
    show (strOfNums (ints (listOf (putS s)))).toList = _
    rw [str_list]
  | [p], _ =>
    exfalso
    have e : togs (putS s).size (listOf (putS s)) [p] = tog (listOf (putS s)) (bitOf (putS s).size p) := rfl
    rw [e, list_str _ (hsmall _ _ (hk p) hsmall0), runN_tog _ _ _ (hk p), hR] at hrun
    have h0 := xor_cancel hrun
    have h1 := far_par (8 * (listOf (putS s)).length - bitOf (putS s).size p)
    rw [h0] at h1
    exact absurd h1 (by decide)
  | [p, q], _ =>
    have hk2 : bitOf (putS s).size q < 8 * (tog (listOf (putS s)) (bitOf (putS s).size p)).length := by rw [tog_length]; exact hk q
    have e : togs (putS s).size (listOf (putS s)) [p, q] = tog (tog (listOf (putS s)) (bitOf (putS s).size p)) (bitOf (putS s).size q) := rfl
    by_cases hpq : bitOf (putS s).size p = bitOf (putS s).size q
    · rw [e, hpq, tog_twice _ _ (hk q), str_list]
    · exfalso
      rw [e, list_str _ (hsmall _ _ hk2 (hsmall _ _ (hk p) hsmall0)), runN_tog _ _ _ hk2, tog_length, runN_tog _ _ _ (hk p), hR, Nat.xor_assoc] at hrun
      have h0 := xor_zero_eq (xor_cancel hrun)
      have hkp := hk p
      have hkq := hk q
      rcases Nat.lt_or_gt_of_ne hpq with hlt | hlt
      · exact far_once (m1 := 8 * (listOf (putS s)).length - bitOf (putS s).size q) (m2 := 8 * (listOf (putS s)).length - bitOf (putS s).size p) (by omega) (by omega) h0.symm
      · exact far_once (m1 := 8 * (listOf (putS s)).length - bitOf (putS s).size p) (m2 := 8 * (listOf (putS s)).length - bitOf (putS s).size q) (by omega) (by omega) h0
  | [p, q, r], _ =>
    exfalso
    have hk2 : bitOf (putS s).size q < 8 * (tog (listOf (putS s)) (bitOf (putS s).size p)).length := by rw [tog_length]; exact hk q
    have hk3 : bitOf (putS s).size r < 8 * (tog (tog (listOf (putS s)) (bitOf (putS s).size p)) (bitOf (putS s).size q)).length := by rw [tog_length, tog_length]; exact hk r
    have e : togs (putS s).size (listOf (putS s)) [p, q, r] = tog (tog (tog (listOf (putS s)) (bitOf (putS s).size p)) (bitOf (putS s).size q)) (bitOf (putS s).size r) := rfl
    rw [e, list_str _ (hsmall _ _ hk3 (hsmall _ _ hk2 (hsmall _ _ (hk p) hsmall0))), runN_tog _ _ _ hk3, runN_tog _ _ _ hk2, runN_tog _ _ _ (hk p), hR, Nat.xor_assoc, Nat.xor_assoc] at hrun
    have h0 := congrArg (par 16) (xor_cancel hrun)
    rw [par_xor, par_xor, far_par, far_par, far_par] at h0
    exact absurd h0 (by decide)

theorem bits_walk (a0 : ByteArray) (a1 : Option Addr) (len1 cap1 : Nat) (z1 : List Int) (w : World) (w0 : a0.size ≤ 140737488351232)
    (w1 : (a1 = none ∧ len1 = 0 ∧ cap1 = 0 ∧ z1 = []) ∨ ∃ x, a1 = some x ∧ len1 ≤ cap1 ∧ cap1 ≤ maxLen ∧ z1.length = cap1 ∧ (∀ i, i < z1.length → w.cell? (x.add i) = some (.int .i64 (z1.getD i 0))) ∧ ∀ n ∈ z1, (Lit.int .i64 n).wf = true) :
    Calls Try.prog 4 #[.string a0, .slice a1 len1 cap1] w fun e w' => e = .returned (.bool true) ∧ Below w.heap.size w w' := by
  obtain ⟨l1, rfl, hr1, _, _, _⟩ := Go.Proofs.YtelondenakcglaaW.PrintWords.ReadsInt.ofRowC w1
  exact bits_any a0 a1 cap1 l1 w w0 hr1 (law a0 l1)

end Go.Proofs.Ytelondenakcglaa.Bits
namespace Go.Proofs.Ytelondenakcglaa.fcsBits
open Go.ChangeShapes Go.WideShapes Go.ChangeAt Go.RowKit
open Go.ChangeMaps (open_string shut_string)
open Go.Proofs.YtelondenakcglaaW
set_option linter.unusedVariables false
theorem own : ownKnob Try.prog.godebug = none := by kernel_rfl
theorem laidOut : laidOutB Try.prog = true := by kernel_rfl
def IsRow (k : IntKind) (w : World) (a : Option Addr) (len cap : Nat) (zs : List Int) : Prop :=
  (a = none ∧ len = 0 ∧ cap = 0 ∧ zs = []) ∨
  ∃ x, a = some x ∧ len ≤ cap ∧ cap ≤ maxLen ∧ zs.length = cap ∧ (∀ i, i < zs.length → w.cell? (x.add i) = some (.int k (zs.getD i 0))) ∧ ∀ n ∈ zs, (Lit.int k n).wf = true
set_option maxRecDepth 100000 in
theorem lifted (os : Os) (started : os.Started) (H : Type) (enc : TypeId × Value → H) :
    ReturnsInHanded {} Try.checked os 4 .any (Rows.fcsBitsSpec.pre6 enc Try.prog Try.f4 Rows.fcsBitsRow.domain false) (Rows.fcsBitsSpec.post enc Try.prog Try.f4 false true false false) := by
  refine returnsInHanded_of_change_sized (C := Try.checked) own started (by kernel_rfl) Try.func4
    (ChangeSpec.witness6 (enc := enc) (C := Try.checked) false ⟨#[], #[.string ByteArray.empty, .slice none 0 0], []⟩ 8 (by kernel_rfl) (by kernel_rfl) (by kernel_rfl) (by kernel_rfl)) ?_
  intro W base args ds gs before hval0 hW hcnd hsz0 _
  have hsz : (DataW.weightsEach Try.prog (Try.f4.params.toList ++ Rows.fcsBitsSpec.plain.varTypes Try.prog) (ds ++ gs)).all (· ≤ reachBytes) = true := hsz0
  have hval : ∀ (j : Nat) t v, Try.f4.params[j]? = some t → args[j]? = some v → Value.okWide Try.prog W .any base t v := hval0
  have hW' := hW
  obtain ⟨p, q, hA0, hV, rfl, hfz, hnd⟩ := hW
  have hA : DataW.TrodAll enc Try.prog W 0 (fun _ => true) true Try.f4.params.toList args.toList ds p := hA0
  rw [Try.params4] at hA hval hsz
  obtain ⟨v0, vs0, d0, ds0, p0, q0, hargs, rfl, rfl, h0, r0⟩ := trodAll_cons hA
  obtain ⟨v1, vs1, d1, ds1, p1, q1, rfl, rfl, rfl, h1, r1⟩ := trodAll_cons r0
  obtain ⟨rfl, rfl, rfl⟩ := trodAll_nil r1
  obtain rfl : args = #[v0, v1] := by cases args; simp_all
  obtain ⟨rfl, rfl⟩ := trodVars_none hV
  obtain ⟨a0, rfl, rfl, rfl, y0⟩ := open_string Try.underlying9 (hval 0 9 v0 rfl rfl) h0
  have w0 : a0.size ≤ 140737488351232 := by
    have z := sized_string hsz (j := 0) (t := 9) rfl rfl
    rw [Array.length_toList] at z
    exact z
  obtain ⟨a1, len1, cap1, rfl⟩ := okWide_slice Try.underlying32 (hval 1 32 v1 rfl rfl)
  have k1 := h1
  have lt1 : ∀ x ∈ p1, x.block < W.heap.size := by obtain ⟨m, hm⟩ := k1; exact DataW.trod_lt m _ _ _ hm
  obtain ⟨z1, w1⟩ : ∃ zs, IsRow .i64 W a1 len1 cap1 zs := by
    obtain ⟨fuel, hf⟩ := h1
    rcases open_ints Try.underlying32 Try.underlying3 (by kernel_rfl) hf with ⟨hcs, _⟩ | ⟨x, l, c, zs, hcs, _, hl, hm, hz, _, hcell, hwz⟩
    · simp [Value.cells] at hcs
      obtain ⟨rfl, rfl, rfl⟩ := hcs
      exact ⟨[], .inl ⟨rfl, rfl, rfl, rfl⟩⟩
    · simp [Value.cells] at hcs
      obtain ⟨rfl, rfl, rfl⟩ := hcs
      exact ⟨zs, .inr ⟨_, rfl, hl, hm, by simpa using hz, hcell, hwz⟩⟩
  clear hA0 hval0 hsz0 hsz
  refine (Bits.bits_walk a0 a1 len1 cap1 z1 W w0 w1).mono fun e W' ⟨he, bel⟩ => ?_
  subst he
  exact ⟨_, rfl, _, _, _, [], _, [], hW', trodAll_mk1 (shut_bool Try.underlying4 _), (trodAll_cons_mk (shut_string Try.underlying9 y0) (trodAll_cons_mk (Below.trod laidOut (by kernel_rfl) (of_decide_eq_true (by kernel_rfl)) k1 bel lt1) trodAll_mk0)), rfl, bel.frame _, fun h => by cases h⟩
theorem over : Rows.fcsBitsRow.holds Try.pinned (OpenSpec.ofChange Rows.fcsBitsSpec) :=
  OpenClaim.holds_of_wide 4 Try.f4 rfl rfl rfl rfl rfl rfl rfl ⟨rfl, rfl, rfl, rfl, rfl⟩ rfl rfl rfl rfl rfl (by kernel_rfl) Try.func4 (by kernel_rfl)
    (of_decide_eq_true (by kernel_rfl)) (by unfold Func.isWrapper; first | (rw [if_pos (by decide +kernel)]; kernel_rfl) | (rw [if_neg (by decide +kernel)]; exact ⟨rfl, rfl⟩))
    (fun os started H enc _ => lifted os started H enc)
theorem proved : Rows.FcsBitsSaid := over
#print axioms proved
end Go.Proofs.Ytelondenakcglaa.fcsBits
namespace Go.Proofs.Ytelondenakcglaa
/-- The row, under a short name, for the claim. -/
theorem fcsBits_holds : Rows.FcsBitsSaid := fcsBits.proved
end Go.Proofs.Ytelondenakcglaa
