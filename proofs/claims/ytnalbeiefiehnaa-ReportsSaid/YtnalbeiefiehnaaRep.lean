/-
Contracts for the statement Reports: what the document's own Report and Unreport, and KeptInts, answer.
-/
import Derived.Test.YtnalbeiefiehnaaLend
import Derived.Test.YtnalbeiefiehnaaBack
import Derived.Deep.RegionHeld3
namespace Go.Proofs.Ytnalbeiefiehnaa.Rep
open Go.RowKit Go.Proofs.Ytnalbeiefiehnaa.PReports Go.Proofs.Ytnalbeiefiehnaa.Pure Go.Proofs.YtnalbeiefiehnaaW.PrintWords Go.Proofs.YtnalbeiefiehnaaW.PrintLast Go.Proofs.YtnalbeiefiehnaaW.PrintMore

theorem and255 (n : Int) : bits .and .i64 n 255 = n % 256 := by
  have h15 : (BitVec.ofInt 64 255).toNat = 2 ^ 8 - 1 := by decide
  have key : (BitVec.ofInt 64 n &&& BitVec.ofInt 64 255).toNat = (n % ((2 ^ 64 : Nat) : Int)).toNat % 2 ^ 8 := by
    rw [BitVec.toNat_and, BitVec.toNat_ofInt, h15, Nat.and_two_pow_sub_one_eq_mod]
  show IntKind.i64.wrap ((BitVec.ofInt 64 n &&& BitVec.ofInt 64 255).toNat : Nat) = n % 256
  rw [key, IntKind.wrap_i64]
  omega

theorem same_loop (xs : List Int) (hn : xs.length < 17592186044416) (d : Nat) : ∀ (k i : Nat), i + d = xs.length → d < k → PReportBack.withylaw0_SameInts.l0 k xs xs (i : Int) = some true := by
  induction d with
  | zero =>
    intro k i hi hk
    obtain ⟨k, rfl⟩ : ∃ q, k = q + 1 := ⟨k - 1, by omega⟩
    rw [PReportBack.withylaw0_SameInts.l0, if_neg (by omega)]
  | succ d ih =>
    intro k i hi hk
    obtain ⟨k, rfl⟩ : ∃ q, k = q + 1 := ⟨k - 1, by omega⟩
    rw [PReportBack.withylaw0_SameInts.l0, if_pos (by omega), if_pos (by omega), if_pos (by omega), if_pos rfl, wr (x := (i : Int) + 1) (by omega) (by omega)]
    have := ih k (i + 1) (by omega) (by omega)
    rw [show ((i : Int) + 1) = ((i + 1 : Nat) : Int) by omega]
    exact this
theorem same_any (xs : List Int) (hn : xs.length < 17592186044416) : PReportBack.withylaw0_SameInts.f (xs.length + 1) xs xs = some true := by
  unfold PReportBack.withylaw0_SameInts.f
  rw [if_pos rfl]
  exact same_loop xs hn xs.length (xs.length + 1) 0 (by omega) (by omega)

def twoOf (a : Int) : ByteArray := strOfNums [a / 256 % 256, a % 256]
theorem two_calls (a : Int) (w : World) : Calls Try.prog 17 #[.int .i64 a] w fun e w' => e = .returned (.string (twoOf a)) ∧ Below w.heap.size w w' :=
  withyref1_two.calls a _ w (by unfold withyref1_two.f twoOf; rw [and255, and255]; simp only [Option.some.injEq]; congr 1; simp)

theorem strOf_append (xs ys : List Int) : strOfNums xs ++ strOfNums ys = strOfNums (xs ++ ys) := by
  unfold strOfNums
  rw [List.map_append]
  apply ByteArray.ext
  simp [ByteArray.data_append]

theorem two_two (x : Int) : twoOf (x / 65536) ++ twoOf x = strOfNums (four x) := by
  unfold twoOf four
  rw [strOf_append]
  congr 1
  simp only [List.cons_append, List.nil_append, List.cons.injEq, and_true]
  rw [Int.ediv_ediv_of_nonneg (by decide)]
  rfl

theorem twoOf_size (x : Int) : (twoOf x).size = 2 := by unfold twoOf; rw [strOfNums_size]; rfl

theorem take_next (ns : List Int) (i : Nat) (h : i < ns.length) : strOfNums ((ns.take i).flatMap four) ++ twoOf (ns[i] / 65536) ++ twoOf ns[i] = strOfNums ((ns.take (i + 1)).flatMap four) := by
  rw [ByteArray.append_assoc, two_two, strOf_append, List.take_add_one, List.flatMap_append, List.getElem?_eq_getElem h]
  simp

theorem keep_call {w W w1 : World} {ad : Addr} {v : Value} (h3 : Below W.heap.size W w1) (h1 : W.cell? ad = some v ∧ Below w.heap.size w W) : w1.cell? ad = some v ∧ Below w.heap.size w w1 :=
  ⟨(h3.cell (World.block_lt_of_cell? W _ h1.1)).trans h1.1, h1.2.trans (h3.mono h1.2.size)⟩
theorem keep_drew {w W : World} {ad : Addr} {v : Value} (h1 : W.cell? ad = some v) (h2 : Below w.heap.size w W) : W.drew.cell? ad = some v ∧ Below w.heap.size w W.drew :=
  ⟨h1, below_drew1 h2⟩

set_option maxRecDepth 100000 in
set_option maxHeartbeats 2000000 in
theorem report_calls (A : Option Addr) (c : Nat) (ns : List Int) (hl : ns.length = 12) (w : World) (hr : ReadsInt w .i64 A 12 ns) :
    Calls Try.prog 8 #[.slice A 12 c] w fun e w' => e = .returned (.tuple #[.string (putOf ns).1, .int .i64 (putOf ns).2]) ∧ Below w.heap.size w w' := by
  have HR := Lib.hid hr
  have HL := Lib.hid hl
  clear hr hl
  go_enter Try.func8, Try.ntmps8
  go_wp2_with fail
  go_loopg [4, 5] 12 (fun m v4 v5 wr => ∃ (i : Nat), i + m = 12 ∧ v5 = .int .i64 i ∧ v4 = .string (strOfNums ((ns.take i).flatMap four)) ∧ Aside (Below w.heap.size w wr ∧ (ns.take i).all goodB = true))
  case atStart => exact ⟨0, rfl, rfl, rfl, Below.refl _ _, rfl⟩
  case round =>
    obtain ⟨i, him, rfl, rfl, hst⟩ := hrel
    have hi12 : i ≤ 12 := by omega
    have HIM := Lib.hid him
    clear him
    by_cases hlt12 : i < 12
    · obtain ⟨ad, rfl, hp⟩ := HR.out.at_ (i : Int) (by omega) (by omega)
      have had := World.block_lt_of_cell? w _ hp
      replace hp := ((Aside.out hst).1.cell had).trans hp
      rw [Int.toNat_natCast] at hp
      have hil : i < ns.length := by have := HL.out; omega
      have hrd : rd ns (i : Int) = ns[i] := by unfold rd; simp [List.getD_eq_getElem?_getD, List.getElem?_eq_getElem hil]
      generalize rd ns (i : Int) = x at hp hrd
      have HRD := Lib.hid hrd
      have HST := Lib.hid (Aside.out hst)
      clear hst hrd
      by_cases c1 : x < 0
      · go_wp2_with fail
        go_ret2
        have hb : (putOf ns) = (⟨#[]⟩, 700) := by
          unfold putOf
          rw [if_neg (fun h => ?_)]
          have := List.all_eq_true.1 h ns[i] (List.getElem_mem hil)
          rw [← HRD.out, goodB_low c1] at this
          exact absurd this (by simp)
        rw [hb]
        exact ⟨rfl, HST.out.1⟩
      · by_cases c2 : x > 4294967295
        · go_wp2_with fail
          go_ret2
          have hb : (putOf ns) = (⟨#[]⟩, 700) := by
            unfold putOf
            rw [if_neg (fun h => ?_)]
            have := List.all_eq_true.1 h ns[i] (List.getElem_mem hil)
            rw [← HRD.out, goodB_high c2] at this
            exact absurd this (by simp)
          rw [hb]
          exact ⟨rfl, HST.out.1⟩
        · go_wp2_with fail
          have hb1 := HST.out.1
          generalize hS : strOfNums ((ns.take i).flatMap four) = S
          have HSS := Lib.hid hS
          have hsz : S.size ≤ 48 := by rw [← hS, strOfNums_size, fours_length, List.length_take]; omega
          have hz1 : S.size + (twoOf (x / 65536)).size ≤ 9223372036854775807 := by rw [twoOf_size]; omega
          have hz2 : (S ++ twoOf (x / 65536)).size + (twoOf x).size ≤ 9223372036854775807 := by rw [ByteArray.size_append, twoOf_size, twoOf_size]; omega
          have hq1 : (9223372036854775807 < S.size + (twoOf (x / 65536)).size) = False := eq_false (Nat.not_lt.2 hz1)
          have hq2 : (9223372036854775807 < (S ++ twoOf (x / 65536)).size + (twoOf x).size) = False := eq_false (Nat.not_lt.2 hz2)
          have hz3 : S.size + (twoOf (x / 65536)).size + (twoOf x).size ≤ 9223372036854775807 := by rw [twoOf_size, twoOf_size]; omega
          have hq3 : (9223372036854775807 < S.size + (twoOf (x / 65536)).size + (twoOf x).size) = False := eq_false (Nat.not_lt.2 hz3)
          clear hsz hS
          go_region_held3 (fun W => W.cell? (ad.add i) = some (.int .i64 x) ∧ Below w.heap.size w W)
            (first | assumption | exact keep_call (by assumption) (by assumption) | (refine keep_drew ?_ ?_ <;> assumption))
            (first | (go_at_call 17; refine (two_calls _ _).mono ?_; rintro e w1 ⟨rfl, hb2⟩))
          rename_i W hSW
          have HSW := Lib.hid hSW.2
          clear hz1 hz2 hz3 hq1 hq2 hq3 hb1 hSW
          go_wp2_with fail
          go_roundg (11 - i)
          case measure => have := HIM.out; omega
          case rel =>
            refine ⟨i + 1, by have := HIM.out; omega, by go_num, ?_, ⟨HSW.out, ?_⟩⟩
            · rw [← HSS.out, HRD.out, take_next ns i hil]
            · rw [List.take_add_one, List.all_append, HST.out.2, List.getElem?_eq_getElem hil]
              have := HRD.out
              simp only [Option.toList_some, List.all_cons, List.all_nil, Bool.and_true, Bool.true_and]
              rw [← this]
              exact goodB_true (by omega) (by omega)
    · go_wp2_with fail
      go_ret2
      have hb : (putOf ns) = (strOfNums (ns.flatMap four), 0) := by
        have hs := (Aside.out hst).2
        rw [List.take_of_length_le (by have := HL.out; omega)] at hs
        unfold putOf
        rw [if_pos hs]
      rw [hb, List.take_of_length_le (by have := HL.out; omega)]
      exact ⟨rfl, (Aside.out hst).1⟩

/-- Fewer or more numbers than twelve. -/
theorem report_short (A : Option Addr) (n c : Nat) (hl : (n : Int) ≠ 12) (w : World) :
    Calls Try.prog 8 #[.slice A n c] w fun e w' => e = .returned (.tuple #[.string ⟨#[]⟩, .int .i64 700]) ∧ Below w.heap.size w w' := by
  go_enter Try.func8, Try.ntmps8
  go_wp2_with fail
  go_ret2
  exact ⟨rfl, Below.refl _ _⟩

theorem same_calls (A A' : Option Addr) (c c' : Nat) (xs : List Int) (hn : xs.length < 17592186044416) (hc : xs.length ≤ c) (hc' : xs.length ≤ c') (w : World) (hr : ReadsInt w .i64 A xs.length xs) (hr' : ReadsInt w .i64 A' xs.length xs) :
    Calls Try.prog 12 #[.slice A xs.length c, .slice A' xs.length c'] w fun e w' => e = .returned (.bool true) ∧ ∃ n, w' = w.drewN n :=
  (PReportBack.withylaw0_SameInts.calls (xs.length + 1) A c xs A' c' xs true w (Kd.C_of_reads (d := (0 : Int)) (h1 := fun _ => rfl) hr) hc (Kd.C_of_reads (d := (0 : Int)) (h1 := fun _ => rfl) hr') hc' (same_any xs hn)).mono fun _ _ ⟨he, hd⟩ => ⟨he, hd.out⟩

set_option maxRecDepth 100000 in
set_option maxHeartbeats 2000000 in
theorem kept_calls (A A' : Option Addr) (c c' : Nat) (xs : List Int) (hn : xs.length + 2 < 17592186044416) (hc : xs.length + 2 ≤ c) (hc' : xs.length ≤ c') (w : World) (hr : ReadsInt w .i64 A (xs.length + 2) (xs ++ [-7777, -8888])) (hr' : ReadsInt w .i64 A' xs.length xs) :
    Calls Try.prog 13 #[.slice A xs.length c, .slice A' xs.length c'] w fun e w' => e = .returned (.bool true) ∧ ∃ n, w' = w.drewN n := by
  go_enter Try.func13, Try.ntmps13
  go_wp2_with fail
  have h0 : rd (xs ++ [-7777, -8888]) (xs.length : Int) = -7777 := by
    unfold rd
    rw [Int.toNat_natCast, List.getD_eq_getElem?_getD, List.getElem?_append_right (Nat.le_refl _), Nat.sub_self]
    rfl
  have h1 : rd (xs ++ [-7777, -8888]) ((xs.length : Int) + 1) = -8888 := by
    unfold rd
    rw [show ((xs.length : Int) + 1).toNat = xs.length + 1 by omega, List.getD_eq_getElem?_getD, List.getElem?_append_right (by omega), show xs.length + 1 - xs.length = 1 by omega]
    rfl
  have a1 := hr.at_ ((xs.length : Int) + 1) (by omega) (by omega)
  obtain ⟨ad, rfl, hp⟩ := hr.at_ (xs.length : Int) (by omega) (by omega)
  obtain ⟨ad', he, hq⟩ := a1
  obtain rfl : ad = ad' := by injection he
  rw [h0] at hp
  rw [h1] at hq
  rw [Int.toNat_natCast] at hp
  rw [show ((xs.length : Int) + 1).toNat = xs.length + 1 by omega] at hq
  have S1 := Lib.hid (same_calls (some ad) A' c c' xs (by omega) (by omega) hc' w (by have := hr.take_ xs.length (by omega); rwa [List.take_left] at this) hr')
  clear he hr hr' h0 h1
  have hq' : w.cell? ⟨ad.block, ad.off + (xs.length + 1), none⟩ = some (.int .i64 (-8888)) := by rw [← hq]; unfold Addr.add; rw [if_neg (by omega)]
  go_wp2_with (go_at_call 12; refine S1.out.mono ?_; rintro e w' ⟨rfl, n, rfl⟩)
  go_ret
  exact ⟨rfl, _, rfl⟩
end Go.Proofs.Ytnalbeiefiehnaa.Rep
