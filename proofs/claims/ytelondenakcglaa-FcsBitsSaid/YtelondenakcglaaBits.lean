/-
The walk of the statement FcsBits: what was put is checked; with up to three bits turned it comes to a plain question on lists of bytes.
-/
import Derived.Test.YtelondenakcglaaPureCommon
import Derived.StillTailTactics
import Derived.BigQuiet
import Derived.Lib.Hide
namespace Go.Proofs.Ytelondenakcglaa.Bits
open Go.RowKit Go.Proofs.Ytelondenakcglaa.PF Go.Proofs.Ytelondenakcglaa.Pure Go.Proofs.YtelondenakcglaaW.PrintWords Go.Proofs.YtelondenakcglaaW.PrintLast Go.Proofs.YtelondenakcglaaW.PrintMore Go.Proofs.Ytelondenakcglaa.Crc

theorem put_calls (s : ByteArray) (w : World) (hs : s.size ≤ 140737488400000) : Calls Try.prog 12 #[.string s] w fun e w' => e = .returned (.string (putS s)) ∧ Below w.heap.size w w' :=
  fcs_Put.calls 0 s _ w (put_is 0 s hs)
theorem check_calls (s : ByteArray) (w : World) (hs : s.size ≤ 140737488400000) : Calls Try.prog 8 #[.string s] w fun e w' => e = .returned (.tuple #[.string (checkS s).1, .int .i64 (checkS s).2]) ∧ Below w.heap.size w w' :=
  fcs_Check.calls 0 s _ _ w (check_is 0 s hs)
theorem num_calls (a : Int) (w : World) : Calls Try.prog 14 #[.int .i64 a] w fun e w' => e = .returned (.int .i64 a) ∧ w = w' := by
  go_enter Try.func14, Try.ntmps14
  go_wp2
  go_ret
  exact ⟨rfl, rfl⟩
theorem awake_calls (w : World) : Calls Try.prog 15 #[] w fun e w' => e = .returned (.bool true) ∧ Below w.heap.size w w' :=
  withylaw1_awake.calls 0 true w (awake_is 0)

/-- Bytes as numbers. -/
def ints (xs : List Nat) : List Int := xs.map fun x : Nat => (x : Int)
/-- Bit k turned. -/
def tog (xs : List Nat) (k : Nat) : List Nat := xs.set (k / 8) ((xs.getD (k / 8) 0) ^^^ 2 ^ (k % 8))
theorem tog_length (xs : List Nat) (k : Nat) : (tog xs k).length = xs.length := List.length_set ..
/-- Which bit a pick means. -/
def bitOf (n : Nat) (p : Int) : Nat := (IntKind.u64.wrap p % (8 * n : Nat)).toNat

/-- A row of bytes of the call's own. -/
structure Row (w wr : World) (N : Nat) (xs : List Nat) : Prop where
  below : Below w.heap.size w wr
  base : w.heap.size ≤ N
  cells : ∀ j, j < xs.length → wr.cell? ⟨N, j, none⟩ = some (.int .u8 (xs.getD j 0 : Nat))
  free : ∀ j, j < xs.length → wr.frozen? ⟨N, j, none⟩ = false
  small : ∀ x ∈ xs, x < 256

theorem Row.drewN {w wr : World} {N : Nat} {xs : List Nat} (h : Row w wr N xs) (n : Nat) : Row w (wr.drewN n) N xs :=
  ⟨pw_below_drewN h.below n, h.base, h.cells, h.free, h.small⟩

theorem Row.reads {w wr : World} {N : Nat} {xs : List Nat} (h : Row w wr N xs) (hn : xs.length ≤ 9223372036854775807) : ReadsInt wr .u8 (some ⟨N, 0, none⟩) xs.length (ints xs) := by
  refine ⟨by simp [ints], hn, fun _ => ⟨_, rfl, fun j hj => ?_⟩⟩
  rw [add_plain, h.cells j hj]
  simp [ints, List.getD_eq_getElem?_getD, List.getElem?_eq_getElem hj]

theorem Row.turn {w wr : World} {N : Nat} {xs : List Nat} (h : Row w wr N xs) (k : Nat) (hk : k / 8 < xs.length) :
    Row w (wr.setCell ⟨N, k / 8, none⟩ (.int .u8 ((xs.getD (k / 8) 0 ^^^ 2 ^ (k % 8) : Nat) : Int))) N (tog xs k) := by
  refine ⟨h.below.setCell h.base _, h.base, fun j hj => ?_, fun j hj => ?_, fun x hx => ?_⟩
  · rw [tog_length] at hj
    by_cases e : j = k / 8
    · subst e
      rw [World.cell?_setCell_same _ _ _ (h.cells _ hk)]
      simp [tog, List.getD_eq_getElem?_getD, hk]
    · rw [World.cell?_setCell_other _ _ _ _ (fun h' => e (by simpa using h'.symm)), h.cells j hj]
      simp [tog, List.getD_eq_getElem?_getD, List.getElem?_set_ne (Ne.symm e)]
  · rw [tog_length] at hj
    rw [World.frozen?_setCell]
    exact h.free j hj
  · unfold tog at hx
    rcases List.mem_or_eq_of_mem_set hx with hx | rfl
    · exact h.small x hx
    · have h1 : xs.getD (k / 8) 0 < 256 := by
        rw [List.getD_eq_getElem?_getD, List.getElem?_eq_getElem hk]
        exact h.small _ (List.getElem_mem hk)
      have h2 : 2 ^ (k % 8) < 256 := Nat.lt_of_le_of_lt (Nat.pow_le_pow_right (by decide) (show k % 8 ≤ 7 by omega)) (by decide)
      exact Nat.xor_lt_two_pow (n := 8) h1 h2

/-- '[]byte(t)'. -/
def listOf (s : ByteArray) : List Nat := s.data.toList.map (·.toNat)
theorem listOf_length (s : ByteArray) : (listOf s).length = s.size := by simp [listOf]
theorem Row.made {w W : World} (h : Below w.heap.size w W) (s : ByteArray) : Row w (Lib.bytesWorld W 5 s) W.heap.size (listOf s) := by
  refine ⟨bytes_below h h.size 5 s, h.size, fun j hj => ?_, fun j hj => ?_, fun x hx => ?_⟩
  · rw [listOf_length] at hj
    rw [Lib.bytesWorld_cell W 5 s j hj]
    have hj' : j < s.data.toList.length := by simpa using hj
    simp [listOf, List.getD_eq_getElem?_getD, List.getElem?_eq_getElem hj']
  · rw [listOf_length] at hj
    have hg : s.size ≤ (Lib.bytesCells W 5 s).size := by simp [Lib.bytesCells]
    simp [World.frozen?, Lib.bytesWorld_at_new]
    omega
  · obtain ⟨c, _, rfl⟩ := List.mem_map.1 hx
    exact c.toNat_lt

/-- Up to three picks, one after the other. -/
def togs (n : Nat) (xs : List Nat) (ps : List Int) : List Nat := ps.foldl (fun xs p => tog xs (bitOf n p)) xs
theorem togs_length (n : Nat) : ∀ (ps : List Int) (xs : List Nat), (togs n xs ps).length = xs.length
  | [], _ => rfl
  | p :: ps, xs => by
    show (togs n (tog xs (bitOf n p)) ps).length = _
    rw [togs_length n ps, tog_length]
theorem togs_succ (n : Nat) (xs : List Nat) (ps : List Int) (i : Nat) (h : i < ps.length) : togs n xs (ps.take (i + 1)) = tog (togs n xs (ps.take i)) (bitOf n (rd ps i)) := by
  rw [List.take_succ_eq_append_getElem h]
  unfold togs
  rw [List.foldl_append]
  simp [rd, List.getD_eq_getElem?_getD, List.getElem?_eq_getElem h]

theorem two_pow_mod (r : Nat) (hr : r < 8) : (2 : Int) ^ r % 256 = ((2 ^ r : Nat) : Int) := by
  have : r = 0 ∨ r = 1 ∨ r = 2 ∨ r = 3 ∨ r = 4 ∨ r = 5 ∨ r = 6 ∨ r = 7 := by omega
  rcases this with rfl | rfl | rfl | rfl | rfl | rfl | rfl | rfl <;> decide
theorem u64_range (p : Int) : 0 ≤ IntKind.u64.wrap p := by
  simp [IntKind.wrap, IntKind.bits, IntKind.signed]
  exact Int.emod_nonneg _ (by decide)
theorem bitOf_lt (n : Nat) (p : Int) (hn : 0 < n) : bitOf n p < 8 * n := by
  unfold bitOf
  have h1 := Int.emod_nonneg (IntKind.u64.wrap p) (show ((8 * n : Nat) : Int) ≠ 0 by omega)
  have h2 := Int.emod_lt_of_pos (IntKind.u64.wrap p) (show 0 < ((8 * n : Nat) : Int) by omega)
  omega
theorem bit_mod (n : Nat) (p : Int) (hn : 0 < n) : (IntKind.u64.wrap p).tmod (8 * (n : Int)) = (bitOf n p : Int) := by
  rw [Int.tmod_eq_emod_of_nonneg (u64_range p)]
  unfold bitOf
  have h1 := Int.emod_nonneg (IntKind.u64.wrap p) (show ((8 * n : Nat) : Int) ≠ 0 by omega)
  rw [Int.toNat_of_nonneg h1]
  simp

set_option maxRecDepth 100000 in
set_option maxHeartbeats 2000000 in
theorem bits_any (s : ByteArray) (A : Option Addr) (c : Nat) (picks : List Int) (w : World) (hs : s.size ≤ 140737488351232) (hr : ReadsInt w .i64 A picks.length picks)
    (law : s.size ≤ 1500 → (strOfNums (ints (togs (putS s).size (listOf (putS s)) (picks.take 3)))).toList = (putS s).toList ∨ (checkS (strOfNums (ints (togs (putS s).size (listOf (putS s)) (picks.take 3))))).2 = 101) :
    Calls Try.prog 4 #[.string s, .slice A picks.length c] w fun e w' => e = .returned (.bool true) ∧ Below w.heap.size w w' := by
  by_cases hlong : s.size > 1500
  · go_enter Try.func4, Try.ntmps4
    go_wp2_with (go_at_call 15; refine (awake_calls _).mono ?_; rintro e w1 ⟨rfl, hb⟩)
    go_ret
    exact ⟨rfl, hb⟩
  · replace law := law (by omega)
    have LAW := Lib.hid law
    clear law
    have HR := Lib.hid hr
    clear hr
    obtain ⟨t, ht⟩ : ∃ t, putS s = t := ⟨_, rfl⟩
    have hts : t.size = s.size + 2 := by rw [← ht, putS_size]
    have put_t : ∀ W, Calls Try.prog 12 #[.string s] W fun e w' => e = .returned (.string t) ∧ Below W.heap.size W w' := fun W => by
      rw [← ht]; exact put_calls s W (by omega)
    have check_t : ∀ W, Calls Try.prog 8 #[.string t] W fun e w' => e = .returned (.tuple #[.string s, .int .i64 0]) ∧ Below W.heap.size W w' := fun W => by
      have := check_calls t W (by omega)
      rw [← ht, check_put] at this
      rw [← ht]; exact this
    have kb := Lib.hid (fun W => print_bytes (P := Try.prog) 9 33 5 Try.underlying9 Try.underlying33 Try.underlying5 t W)
    have PT := Lib.hid put_t
    have CT := Lib.hid check_t
    have HT := Lib.hid ht
    have hne : ((t.size : Int) != (s.size : Int) + 2) = false := by rw [bne_eq_false_iff_eq]; omega
    have hts1 : t.size ≤ s.size + 2 := by omega
    have hts2 : s.size + 2 ≤ t.size := by omega
    have HTS := Lib.hid hts
    clear hts put_t check_t ht
    go_enter Try.func4, Try.ntmps4
    go_wp2_with (first | (go_at_call 15; refine (awake_calls _).mono ?_; rintro e w1 ⟨rfl, hb1⟩) | (go_at_call 12; refine (PT.out _).mono ?_; rintro e w2 ⟨rfl, hb2⟩) | (go_at_call 8; refine (CT.out _).mono ?_; rintro e w3 ⟨rfl, hb3⟩; have kb1 := kb.out w3) | (go_at_call 14; refine (num_calls _ _).mono ?_; rintro e w4 ⟨rfl, rfl⟩))
    have hrow := Row.made (hb1.trans (hb2.mono hb1.size) |>.trans (hb3.mono (Nat.le_trans hb1.size hb2.size))) t
    clear kb1
    generalize grownCap w3 t.size 0 5 = cap
    generalize Lib.bytesWorld w3 5 t = W at hrow ⊢
    generalize w3.heap.size = N at hrow ⊢
    have HROW := Lib.hid hrow
    clear hrow hb1 hb2 hb3
    go_loopg [10] 3 (fun g v10 wr => ∃ i : Nat, i ≤ picks.length ∧ i + g = 3 ∧ v10 = .int .i64 i ∧ Aside (Row w wr N (togs t.size (listOf t) (picks.take i))))
    case atStart => exact ⟨0, Nat.zero_le _, rfl, rfl, HROW.out⟩
    case round =>
      obtain ⟨i, hi, hig, rfl, hrow⟩ := hrel
      have hi3 : i ≤ 3 := by omega
      have HIG := Lib.hid hig
      clear hig HROW
      by_cases hlt : i < picks.length
      · by_cases hlt3 : i < 3
        · obtain ⟨ad, rfl, hp⟩ := HR.out.at_ (i : Int) (by omega) (by omega)
          replace hp := ((Aside.out hrow).below.cell (World.block_lt_of_cell? w _ hp)).trans hp
          rw [Int.toNat_natCast] at hp
          obtain ⟨p, hpe⟩ : ∃ p, rd picks i = p := ⟨_, rfl⟩
          rw [hpe] at hp
          have HPE := Lib.hid hpe
          clear hpe
          obtain ⟨k, hk⟩ : ∃ k, bitOf t.size p = k := ⟨_, rfl⟩
          have hmod := bit_mod t.size p (by omega)
          have hkl := bitOf_lt t.size p (by omega)
          rw [hk] at hmod hkl
          have HK := Lib.hid hk
          clear hk
          go_wp2_with fail
          obtain ⟨q, hq⟩ : ∃ q, k / 8 = q := ⟨_, rfl⟩
          obtain ⟨r, hr⟩ : ∃ r, k % 8 = r := ⟨_, rfl⟩
          have e1 : (k : Int).tdiv 8 = (q : Int) := by rw [Int.tdiv_eq_ediv_of_nonneg (by omega)]; omega
          have e2 : (k : Int).tmod 8 = (r : Int) := by rw [Int.tmod_eq_emod_of_nonneg (by omega)]; omega
          have e3 : IntKind.i64.wrap (q : Int) = (q : Int) := by rw [IntKind.wrap_i64]; omega
          have e4 : IntKind.i64.wrap (r : Int) = (r : Int) := by rw [IntKind.wrap_i64]; omega
          have hlen : (togs t.size (listOf t) (List.take i picks)).length = t.size := by rw [togs_length, listOf_length]
          have hq8 : q < t.size := by omega
          have hcell := (Aside.out hrow).cells q (by omega)
          have hfree := (Aside.out hrow).free q (by omega)
          have HLEN := Lib.hid hlen
          have HQ := Lib.hid hq
          have HRR := Lib.hid hr
          clear hlen hq hr
          go_still_tail 13, (by kernel_rfl)
          change wpList _ _ _ _ _ wr.drew
          go_wp2_with fail
          go_roundg (2 - i)
          case measure => have := HIG.out; omega
          case rel =>
            refine ⟨i + 1, by omega, by have := HIG.out; omega, by go_num, ?_⟩
            have hx : (togs t.size (listOf t) (List.take i picks)).getD q 0 < 256 := by
              have hl := HLEN.out
              rw [List.getD_eq_getElem?_getD, List.getElem?_eq_getElem (by omega)]
              exact (Aside.out hrow).small _ (List.getElem_mem _)
            have hr8 : r < 8 := by have := HRR.out; omega
            have hpw : 2 ^ r < 256 := Nat.lt_of_le_of_lt (Nat.pow_le_pow_right (by decide) (show r ≤ 7 by omega)) (by decide)
            have e5 : bits BinOp.xor IntKind.u8 (((togs t.size (listOf t) (List.take i picks))[q]?.getD 0 : Nat) : Int) (2 ^ min r 8 % 256) = (((togs t.size (listOf t) (List.take i picks)).getD q 0 ^^^ 2 ^ r : Nat) : Int) := by
              rw [Nat.min_eq_left (by omega), ← u8_xor_nat _ _ hx hpw, List.getD_eq_getElem?_getD]
              congr 1
              exact two_pow_mod r hr8
            rw [e5]
            have hturn := (Aside.out hrow).turn k (by have := HQ.out; have := HLEN.out; omega)
            rw [HQ.out, HRR.out] at hturn
            rw [togs_succ _ _ _ _ hlt, HPE.out, HK.out]
            exact hturn.drewN 1
        · have hfin : Aside (Row w wr N (togs t.size (listOf t) (picks.take 3))) := by
            obtain rfl : i = 3 := by omega
            exact hrow
          clear hrow
          have hcs := string_of_reads (P := Try.prog) (src := 33) (dst := 9) (e := 5) (c := cap) Try.underlying33 Try.underlying5 Try.underlying9 ((Aside.out hfin).reads (by rw [togs_length, listOf_length]; omega))
          have hxs : (strOfNums (ints (togs t.size (listOf t) (picks.take 3)))).size ≤ 140737488400000 := by rw [strOfNums_size]; simp only [ints, List.length_map]; rw [togs_length, listOf_length]; omega
          rw [togs_length, listOf_length] at hcs
          have hl := LAW.out
          rw [HT.out] at hl
          have HB := Lib.hid (Aside.out hfin).below
          clear hfin
          generalize strOfNums (ints (togs t.size (listOf t) (picks.take 3))) = X at hcs hxs hl
          have CX := Lib.hid (fun W => check_calls X W hxs)
          have HL := Lib.hid hl
          clear hl hxs
          by_cases hb : X.toList = t.toList
          · have hb1 : (X.toList == t.toList) = true := beq_iff_eq.mpr hb
            clear hb
            go_wp2_with (first | (go_at_call 8; refine (CX.out _).mono ?_; rintro e w5 ⟨rfl, hb5⟩) | (go_at_call 14; refine (num_calls _ _).mono ?_; rintro e w4 ⟨rfl, rfl⟩))
            go_ret
            exact ⟨rfl, HB.out.trans (hb5.mono HB.out.size)⟩
          · have h101 : ((checkS X).2 == 101) = true := beq_iff_eq.mpr (HL.out.resolve_left hb)
            have hb1 : (X.toList == t.toList) = false := beq_eq_false_iff_ne.mpr hb
            clear hb
            go_wp2_with (first | (go_at_call 8; refine (CX.out _).mono ?_; rintro e w5 ⟨rfl, hb5⟩) | (go_at_call 14; refine (num_calls _ _).mono ?_; rintro e w4 ⟨rfl, rfl⟩))
            go_ret
            exact ⟨rfl, HB.out.trans (hb5.mono HB.out.size)⟩
      · have hfin : Aside (Row w wr N (togs t.size (listOf t) (picks.take 3))) := by
          rw [List.take_of_length_le (by omega)]
          rw [List.take_of_length_le (by omega)] at hrow
          exact hrow
        clear hrow
        have hcs := string_of_reads (P := Try.prog) (src := 33) (dst := 9) (e := 5) (c := cap) Try.underlying33 Try.underlying5 Try.underlying9 ((Aside.out hfin).reads (by rw [togs_length, listOf_length]; omega))
        have hxs : (strOfNums (ints (togs t.size (listOf t) (picks.take 3)))).size ≤ 140737488400000 := by rw [strOfNums_size]; simp only [ints, List.length_map]; rw [togs_length, listOf_length]; omega
        rw [togs_length, listOf_length] at hcs
        have hl := LAW.out
        rw [HT.out] at hl
        have HB := Lib.hid (Aside.out hfin).below
        clear hfin
        generalize strOfNums (ints (togs t.size (listOf t) (picks.take 3))) = X at hcs hxs hl
        have CX := Lib.hid (fun W => check_calls X W hxs)
        have HL := Lib.hid hl
        clear hl hxs
        by_cases hb : X.toList = t.toList
        · have hb1 : (X.toList == t.toList) = true := beq_iff_eq.mpr hb
          clear hb
          go_wp2_with (first | (go_at_call 8; refine (CX.out _).mono ?_; rintro e w5 ⟨rfl, hb5⟩) | (go_at_call 14; refine (num_calls _ _).mono ?_; rintro e w4 ⟨rfl, rfl⟩))
          go_ret
          exact ⟨rfl, HB.out.trans (hb5.mono HB.out.size)⟩
        · have h101 : ((checkS X).2 == 101) = true := beq_iff_eq.mpr (HL.out.resolve_left hb)
          have hb1 : (X.toList == t.toList) = false := beq_eq_false_iff_ne.mpr hb
          clear hb
          go_wp2_with (first | (go_at_call 8; refine (CX.out _).mono ?_; rintro e w5 ⟨rfl, hb5⟩) | (go_at_call 14; refine (num_calls _ _).mono ?_; rintro e w4 ⟨rfl, rfl⟩))
          go_ret
          exact ⟨rfl, HB.out.trans (hb5.mono HB.out.size)⟩

#print axioms bits_any
end Go.Proofs.Ytelondenakcglaa.Bits
