/-
What Unreport and SpoilInts come to, in plain words.
-/
import Derived.Test.YtnalbeiefiehnaaRep
namespace Go.Proofs.Ytnalbeiefiehnaa.Rep
open Go.RowKit Go.Proofs.Ytnalbeiefiehnaa.PReports Go.Proofs.Ytnalbeiefiehnaa.Pure Go.Proofs.YtnalbeiefiehnaaW.PrintWords Go.Proofs.YtnalbeiefiehnaaW.PrintLast Go.Proofs.YtnalbeiefiehnaaW.PrintMore

theorem unrep_loop (s : ByteArray) (hs : s.size = 48) (d : Nat) : ∀ (k q : Nat), q + d = 12 → d < k →
    withyref1_Unreport.l0 k s ((words s).take q) ((4 * q : Nat) : Int) = some (words s, 0) := by
  induction d with
  | zero =>
    intro k q hq hk
    obtain ⟨k, rfl⟩ : ∃ q, k = q + 1 := ⟨k - 1, by omega⟩
    rw [withyref1_Unreport.l0, if_neg (by omega), List.take_of_length_le (by rw [words_length]; omega)]
  | succ d ih =>
    intro k q hq hk
    obtain ⟨k, rfl⟩ : ∃ q, k = q + 1 := ⟨k - 1, by omega⟩
    have hl : ((words s).take q).length < 17592186044416 := by rw [List.length_take, words_length]; omega
    have hb := bt_bound s
    have c0 := hb (4 * q)
    have c1 := hb (4 * q + 1)
    have c2 := hb (4 * q + 2)
    have c3 := hb (4 * q + 3)
    rw [withyref1_Unreport.l0, wr (x := ((4 * q : Nat) : Int) + 1) (by omega) (by omega), wr (x := ((4 * q : Nat) : Int) + 2) (by omega) (by omega), wr (x := ((4 * q : Nat) : Int) + 3) (by omega) (by omega), wr (x := ((4 * q : Nat) : Int) + 4) (by omega) (by omega)]
    rw [if_pos (by omega), if_pos (by omega), if_pos (by omega), if_pos (by omega), if_pos (by omega), if_pos (by omega), if_pos (by omega), if_pos (by omega), if_pos (by omega), if_pos hl]
    have hw : q < (words s).length := by rw [words_length]; omega
    have hn := words_at s q hw
    rw [part_four] at hn
    rw [show ((4 * q : Nat) : Int) + 1 = ((4 * q + 1 : Nat) : Int) by omega, show ((4 * q : Nat) : Int) + 2 = ((4 * q + 2 : Nat) : Int) by omega, show ((4 * q : Nat) : Int) + 3 = ((4 * q + 3 : Nat) : Int) by omega, show ((4 * q : Nat) : Int) + 4 = ((4 * (q + 1) : Nat) : Int) by omega]
    generalize bt s ((4 * q : Nat) : Int) = b0 at *
    generalize bt s ((4 * q + 1 : Nat) : Int) = b1 at *
    generalize bt s ((4 * q + 2 : Nat) : Int) = b2 at *
    generalize bt s ((4 * q + 3 : Nat) : Int) = b3 at *
    rw [wr (x := b0) (by omega) (by omega), wr (x := b1) (by omega) (by omega), wr (x := b2) (by omega) (by omega), wr (x := b3) (by omega) (by omega),
      wr (x := b0 * 16777216) (by omega) (by omega), wr (x := b1 * 65536) (by omega) (by omega), wr (x := b2 * 256) (by omega) (by omega)]
    rw [or_is (b0 * 16777216) (b1 * 65536) 24 (by omega) (by omega) (by omega) (by omega) (by omega) (by omega),
      or_is (b0 * 16777216 + b1 * 65536) (b2 * 256) 16 (by omega) (by omega) (by omega) (by omega) (by omega) (by omega),
      or_is (b0 * 16777216 + b1 * 65536 + b2 * 256) b3 8 (by omega) (by omega) (by omega) (by omega) (by omega) (by omega)]
    have ht : (words s).take q ++ [b0 * 16777216 + b1 * 65536 + b2 * 256 + b3] = (words s).take (q + 1) := by
      rw [List.take_add_one, List.getElem?_eq_getElem hw, hn]
      rfl
    rw [ht]
    exact ih k (q + 1) (by omega) (by omega)

theorem unrep_is (k : Nat) (hk : 100 < k) (s : ByteArray) (hs : s.size = 48) : withyref1_Unreport.f k s = some (words s, 0) := by
  unfold withyref1_Unreport.f
  rw [if_pos (by omega)]
  exact unrep_loop s hs 12 k 0 (by omega) (by omega)
theorem unrep_not (k : Nat) (s : ByteArray) (hs : s.size ≠ 48) : withyref1_Unreport.f k s = some ([], 700) := by
  unfold withyref1_Unreport.f
  rw [if_neg (by omega)]

theorem spoil_loop (d : Nat) : ∀ (k i : Nat) (xs : List Int), xs.length < 17592186044416 → i + d = xs.length → d < k → ∃ r, withylaw0_SpoilInts.l0 k xs (i : Int) = some r := by
  induction d with
  | zero =>
    intro k i xs hn hi hk
    obtain ⟨k, rfl⟩ : ∃ q, k = q + 1 := ⟨k - 1, by omega⟩
    rw [withylaw0_SpoilInts.l0, if_neg (by omega)]
    exact ⟨_, rfl⟩
  | succ d ih =>
    intro k i xs hn hi hk
    obtain ⟨k, rfl⟩ : ∃ q, k = q + 1 := ⟨k - 1, by omega⟩
    rw [withylaw0_SpoilInts.l0, if_pos (by omega), if_pos (by omega), wr (x := (i : Int) + 1) (by omega) (by omega)]
    have := ih k (i + 1) (xs.set (i : Int).toNat (wrap64 (-9 - rd xs i))) (by rw [List.length_set]; omega) (by rw [List.length_set]; omega) (by omega)
    rw [show ((i : Int) + 1) = ((i + 1 : Nat) : Int) by omega]
    exact this
theorem spoil_is (xs : List Int) (hn : xs.length < 17592186044416) : ∃ r, withylaw0_SpoilInts.f (xs.length + 1) xs = some r := by
  unfold withylaw0_SpoilInts.f
  exact spoil_loop xs.length (xs.length + 1) 0 xs hn (by omega) (by omega)

/-- What Put and the document's Report answer; what Get and the document's Unreport answer. -/
def putAll (ns : List Int) : ByteArray × Int := if ns.length = 12 then putOf ns else (⟨#[]⟩, 700)
def getAll (s : ByteArray) : List Int × Int := if s.size = 48 then (words s, 0) else ([], 700)
theorem put_all (k : Nat) (hk : 100 < k) (ns : List Int) : PReportBack.report_Put.f k ns = some (putAll ns) := by
  unfold putAll
  by_cases h : ns.length = 12
  · rw [if_pos h, put_is k hk ns h]
  · rw [if_neg h, put_not k ns h]
theorem get_all (k : Nat) (hk : 100 < k) (s : ByteArray) : PReportBack.report_Get.f k s = some (getAll s) := by
  unfold getAll
  by_cases h : s.size = 48
  · rw [if_pos h, get_is k hk s h]
  · rw [if_neg h, get_not k s h]
theorem unrep_all (k : Nat) (hk : 100 < k) (s : ByteArray) : withyref1_Unreport.f k s = some (getAll s) := by
  unfold getAll
  by_cases h : s.size = 48
  · rw [if_pos h, unrep_is k hk s h]
  · rw [if_neg h, unrep_not k s h]
theorem getAll_short (s : ByteArray) : (getAll s).1.length ≤ 12 := by
  unfold getAll
  split
  · rw [words_length]; omega
  · simp

theorem get_calls' (s : ByteArray) (w : World) : Calls Try.prog 9 #[.string s] w fun e w' => ∃ A c, e = .returned (.tuple #[.slice A (getAll s).1.length c, .int .i64 (getAll s).2]) ∧ Kd.R (Kd.int .i64) 3 w' w.heap.size (fun _ => True) (.slice A (getAll s).1.length c) (getAll s).1 ∧ Below w.heap.size w w' :=
  (PReportBack.report_Get.calls 1000 s _ _ w (get_all 1000 (by omega) s)).mono fun e w' ⟨v, he, hv, hb⟩ => by
    obtain ⟨A, c, rfl⟩ := Kd.R_slice hv
    exact ⟨A, c, he, hv, hb⟩
theorem unrep_calls (s : ByteArray) (w : World) : Calls Try.prog 10 #[.string s] w fun e w' => ∃ A c, e = .returned (.tuple #[.slice A (getAll s).1.length c, .int .i64 (getAll s).2]) ∧ Kd.R (Kd.int .i64) 3 w' w.heap.size (fun _ => True) (.slice A (getAll s).1.length c) (getAll s).1 ∧ Below w.heap.size w w' :=
  (withyref1_Unreport.calls 1000 s _ _ w (unrep_all 1000 (by omega) s)).mono fun e w' ⟨v, he, hv, hb⟩ => by
    obtain ⟨A, c, rfl⟩ := Kd.R_slice hv
    exact ⟨A, c, he, hv, hb⟩
theorem put_calls' (A : Option Addr) (c : Nat) (xs : List Int) (hc : xs.length ≤ c) (w : World) (hr : ReadsInt w .i64 A xs.length xs) :
    Calls Try.prog 7 #[.slice A xs.length c] w fun e w' => e = .returned (.tuple #[.string (putAll xs).1, .int .i64 (putAll xs).2]) ∧ Below w.heap.size w w' :=
  PReportBack.report_Put.calls 1000 A c xs _ _ w (Kd.C_of_reads (d := (0 : Int)) (h1 := fun _ => rfl) hr) hc (put_all 1000 (by omega) xs)
theorem report_calls' (A : Option Addr) (c : Nat) (xs : List Int) (w : World) (hr : ReadsInt w .i64 A xs.length xs) :
    Calls Try.prog 8 #[.slice A xs.length c] w fun e w' => e = .returned (.tuple #[.string (putAll xs).1, .int .i64 (putAll xs).2]) ∧ Below w.heap.size w w' := by
  unfold putAll
  by_cases h : xs.length = 12
  · rw [if_pos h]
    rw [h] at hr ⊢
    exact report_calls A c xs h w hr
  · rw [if_neg h]
    exact report_short A xs.length c (by omega) w
theorem spoil_calls (A : Option Addr) (c : Nat) (xs : List Int) (hn : xs.length < 17592186044416) (w0 w : World) (hb : Below w0.heap.size w0 w) (P : Nat → Prop) (hr : Kd.R (Kd.int .i64) 3 w w0.heap.size P (.slice A xs.length c) xs) :
    Calls Try.prog 14 #[.slice A xs.length c] w fun e w' => e = .returned (.tuple #[]) ∧ Below w0.heap.size w0 w' ∧ Kept w w' P := by
  obtain ⟨r, hq⟩ := spoil_is xs hn
  exact (withylaw0_SpoilInts.calls _ P _ xs r w0 w hb hr hq).mono fun e w' ⟨he, _, h1, h2⟩ => ⟨he, h1, h2⟩
end Go.Proofs.Ytnalbeiefiehnaa.Rep
