/-
What Put, Get and SameInts come to, in plain words; for the statement ReportBack.
-/
import Derived.Test.YtnalbeiefiehnaaPReportBackx2
namespace Go.Proofs.Ytnalbeiefiehnaa.Pure
open Go.RowKit Go.Proofs.Ytnalbeiefiehnaa.PReportBack Go.Proofs.YtnalbeiefiehnaaW.PrintWords Go.Proofs.YtnalbeiefiehnaaW.PrintLast Go.Proofs.YtnalbeiefiehnaaW.PrintMore

theorem wr {x : Int} (h0 : -9223372036854775808 ≤ x) (h1 : x ≤ 9223372036854775807) : wrap64 x = x := by
  unfold wrap64
  omega

def goodB (x : Int) : Bool := decide (0 ≤ x) && decide (x ≤ 4294967295)
theorem goodB_true {x : Int} (h0 : 0 ≤ x) (h1 : x ≤ 4294967295) : goodB x = true := by simp [goodB, h0, h1]
theorem goodB_out {x : Int} (h : goodB x = true) : 0 ≤ x ∧ x ≤ 4294967295 := by simpa [goodB] using h
theorem goodB_low {x : Int} (h : x < 0) : goodB x = false := by simp [goodB]; omega
theorem goodB_high {x : Int} (h : x > 4294967295) : goodB x = false := by simp [goodB]; omega

/-- A number's four bytes, the high one first. -/
def four (x : Int) : List Int := [x / 16777216 % 256, x / 65536 % 256, x / 256 % 256, x % 256]
theorem four_length (x : Int) : (four x).length = 4 := rfl
theorem fours_length (ns : List Int) : (ns.flatMap four).length = 4 * ns.length := by
  induction ns with
  | nil => rfl
  | cons x r ih => rw [List.flatMap_cons, List.length_append, ih, four_length, List.length_cons]; omega

theorem fours_at : ∀ (ns : List Int) (q c : Nat), q < ns.length → c < 4 → (ns.flatMap four).getD (4 * q + c) 0 = (four (ns.getD q 0)).getD c 0 := by
  intro ns
  induction ns with
  | nil => intro q c h; exact absurd h (Nat.not_lt_zero _)
  | cons x r ih =>
    intro q c h hc
    rw [List.flatMap_cons]
    cases q with
    | zero =>
      simp only [List.getD_eq_getElem?_getD]
      rw [List.getElem?_append_left (by rw [four_length]; omega)]
      simp
    | succ q =>
      have := ih q c (by simpa using h) hc
      simp only [List.getD_eq_getElem?_getD] at this ⊢
      rw [List.getElem?_append_right (by rw [four_length]; omega), four_length, show 4 * (q + 1) + c - 4 = 4 * q + c by omega, this]
      simp

theorem fours_range (ns : List Int) : ∀ x ∈ ns.flatMap four, 0 ≤ x ∧ x < 256 := by
  intro x hx
  obtain ⟨y, _, hy⟩ := List.mem_flatMap.1 hx
  simp only [four, List.mem_cons, List.not_mem_nil, or_false] at hy
  rcases hy with rfl | rfl | rfl | rfl <;> omega

theorem bt_str (xs : List Int) (hr : ∀ x ∈ xs, 0 ≤ x ∧ x < 256) (j : Nat) (h : j < xs.length) : bt (strOfNums xs) (j : Int) = xs.getD j 0 := by
  unfold bt
  have hs : ((j : Int)).toNat < (strOfNums xs).size := by rw [strOfNums_size]; simpa using h
  rw [dif_pos hs]
  have hm := hr xs[j] (List.getElem_mem h)
  have e : (strOfNums xs)[((j : Int)).toNat] = UInt8.ofNat (xs[j]).toNat := by
    simp [strOfNums, ByteArray.getElem_eq_getElem_data]
  rw [e]
  have e2 : (UInt8.ofNat (xs[j]).toNat).toNat = (xs[j]).toNat := by
    rw [UInt8.toNat_ofNat']
    omega
  rw [e2, List.getD_eq_getElem?_getD, List.getElem?_eq_getElem h]
  simp
  omega

/-- The number of c bytes from place 4 q on. -/
def part (b : Nat → Int) (q : Nat) : Nat → Int
  | 0 => 0
  | c + 1 => part b q c * 256 + b (4 * q + c)

theorem part_four (b : Nat → Int) (q : Nat) : part b q 4 = b (4 * q) * 16777216 + b (4 * q + 1) * 65536 + b (4 * q + 2) * 256 + b (4 * q + 3) := by
  simp only [part, Nat.add_zero]
  omega

theorem part_range (b : Nat → Int) (hb : ∀ j, 0 ≤ b j ∧ b j ≤ 255) (q : Nat) : 0 ≤ part b q 0 ∧ part b q 0 < 1 ∧ 0 ≤ part b q 1 ∧ part b q 1 < 256 ∧ 0 ≤ part b q 2 ∧ part b q 2 < 65536 ∧ 0 ≤ part b q 3 ∧ part b q 3 < 16777216 ∧ 0 ≤ part b q 4 ∧ part b q 4 < 4294967296 := by
  have h0 := hb (4 * q + 0)
  have h1 := hb (4 * q + 1)
  have h2 := hb (4 * q + 2)
  have h3 := hb (4 * q + 3)
  simp only [part]
  omega

theorem part_small (b : Nat → Int) (hb : ∀ j, 0 ≤ b j ∧ b j ≤ 255) (q c : Nat) (hc : c < 4) : 0 ≤ part b q c ∧ part b q c < 16777216 := by
  have h := part_range b hb q
  match c, hc with
  | 0, _ => omega
  | 1, _ => omega
  | 2, _ => omega
  | 3, _ => omega

def stateAt (b : Nat → Int) (i : Nat) : List Int := (List.range 12).map fun q => part b q (min 4 (i - 4 * q))
theorem stateAt_length (b : Nat → Int) (i : Nat) : (stateAt b i).length = 12 := by simp [stateAt]
theorem stateAt_at (b : Nat → Int) (i q : Nat) (h : q < (stateAt b i).length) : (stateAt b i)[q] = part b q (min 4 (i - 4 * q)) := by simp [stateAt]
theorem stateAt_zero (b : Nat → Int) : stateAt b 0 = List.replicate 12 0 := by
  refine List.ext_getElem (by simp [stateAt]) fun q h1 h2 => ?_
  rw [stateAt_at, List.getElem_replicate, Nat.zero_sub, Nat.min_zero]
  rfl
theorem stateAt_step (b : Nat → Int) (i : Nat) : (stateAt b i).set (i / 4) (part b (i / 4) (i % 4 + 1)) = stateAt b (i + 1) := by
  refine List.ext_getElem (by simp [stateAt]) fun q h1 h2 => ?_
  rw [List.getElem_set]
  split
  · rename_i h
    subst h
    rw [stateAt_at]
    congr 1
    omega
  · rename_i h
    rw [stateAt_at, stateAt_at]
    congr 1
    omega

/-- The twelve numbers of 48 bytes. -/
def words (s : ByteArray) : List Int := (List.range 12).map fun q => part (fun j => bt s (j : Int)) q 4
theorem words_length (s : ByteArray) : (words s).length = 12 := by simp [words]
theorem words_at (s : ByteArray) (q : Nat) (h : q < (words s).length) : (words s)[q] = part (fun j => bt s (j : Int)) q 4 := by simp [words]
theorem stateAt_end (s : ByteArray) : stateAt (fun j => bt s (j : Int)) 48 = words s := by
  refine List.ext_getElem (by simp [stateAt, words]) fun q h1 h2 => ?_
  rw [stateAt_at, words_at]
  rw [words_length] at h2
  congr 1
  omega

theorem bt_bound (s : ByteArray) : ∀ j : Nat, 0 ≤ bt s (j : Int) ∧ bt s (j : Int) ≤ 255 := fun _ => bt_range s _

theorem words_good (s : ByteArray) : ∀ x ∈ words s, goodB x = true := by
  intro x hx
  obtain ⟨q, _, rfl⟩ := List.mem_map.1 hx
  have := part_range (fun j => bt s (j : Int)) (bt_bound s) q
  exact goodB_true (by omega) (by omega)

theorem words_fours (ns : List Int) (hl : ns.length = 12) (hg : ∀ x ∈ ns, goodB x = true) : words (strOfNums (ns.flatMap four)) = ns := by
  refine List.ext_getElem (by rw [words_length, hl]) fun q h1 h2 => ?_
  rw [words_at, part_four]
  have hb : ∀ c, c < 4 → bt (strOfNums (ns.flatMap four)) ((4 * q + c : Nat) : Int) = (four ns[q]).getD c 0 := fun c hc => by
    rw [bt_str _ (fours_range ns) _ (by rw [fours_length]; omega), fours_at ns q c h2 hc]
    simp [List.getD_eq_getElem?_getD, List.getElem?_eq_getElem h2]
  have b0 := hb 0 (by omega)
  have b1 := hb 1 (by omega)
  have b2 := hb 2 (by omega)
  have b3 := hb 3 (by omega)
  rw [Nat.add_zero] at b0
  rw [b0, b1, b2, b3]
  have := goodB_out (hg ns[q] (List.getElem_mem h2))
  simp only [four, List.getD_cons_zero, List.getD_cons_succ]
  omega

theorem fours_words (s : ByteArray) (hs : s.size = 48) : strOfNums ((words s).flatMap four) = s := by
  have e : (words s).flatMap four = bytesOf s := by
    refine List.ext_getElem (by rw [fours_length, words_length, bytesOf_length, hs]) fun j h1 h2 => ?_
    have hj : j < 48 := by rw [bytesOf_length, hs] at h2; exact h2
    have e1 := fours_at (words s) (j / 4) (j % 4) (by rw [words_length]; omega) (by omega)
    rw [show 4 * (j / 4) + j % 4 = j by omega] at e1
    have e2 := rd_bytesOf s (j : Int)
    unfold rd at e2
    rw [show ((j : Int)).toNat = j by omega] at e2
    have hw : (words s).getD (j / 4) 0 = part (fun j => bt s (j : Int)) (j / 4) 4 := by
      have hq : j / 4 < (words s).length := by rw [words_length]; omega
      rw [List.getD_eq_getElem?_getD, List.getElem?_eq_getElem hq, Option.getD_some, words_at]
    rw [hw] at e1
    rw [List.getD_eq_getElem?_getD, List.getElem?_eq_getElem h1, Option.getD_some] at e1
    rw [List.getD_eq_getElem?_getD, List.getElem?_eq_getElem h2, Option.getD_some] at e2
    rw [e1, e2, part_four]
    have hb := bt_bound s
    have c0 := hb (4 * (j / 4))
    have c1 := hb (4 * (j / 4) + 1)
    have c2 := hb (4 * (j / 4) + 2)
    have c3 := hb (4 * (j / 4) + 3)
    have hr : j % 4 = 0 ∨ j % 4 = 1 ∨ j % 4 = 2 ∨ j % 4 = 3 := by omega
    have hjj : j = 4 * (j / 4) + j % 4 := by omega
    rcases hr with hr | hr | hr | hr
    · rw [hr, show bt s (j : Int) = bt s ((4 * (j / 4) : Nat) : Int) by rw [show 4 * (j / 4) = j by omega]]
      simp only [four, List.getD_cons_zero]
      omega
    · rw [hr, show bt s (j : Int) = bt s ((4 * (j / 4) + 1 : Nat) : Int) by rw [show 4 * (j / 4) + 1 = j by omega]]
      simp only [four, List.getD_cons_zero, List.getD_cons_succ]
      omega
    · rw [hr, show bt s (j : Int) = bt s ((4 * (j / 4) + 2 : Nat) : Int) by rw [show 4 * (j / 4) + 2 = j by omega]]
      simp only [four, List.getD_cons_zero, List.getD_cons_succ]
      omega
    · rw [hr, show bt s (j : Int) = bt s ((4 * (j / 4) + 3 : Nat) : Int) by rw [show 4 * (j / 4) + 3 = j by omega]]
      simp only [four, List.getD_cons_zero, List.getD_cons_succ]
      omega
  rw [e]
  unfold strOfNums bytesOf
  rw [List.map_map]
  have : (fun n : Int => UInt8.ofNat n.toNat) ∘ (fun b : UInt8 => (b.toNat : Int)) = id := by
    funext b
    simp
  rw [this]
  simp

/-- What Put answers of twelve numbers. -/
def putOf (ns : List Int) : ByteArray × Int := if ns.all goodB then (strOfNums (ns.flatMap four), 0) else (⟨#[]⟩, 700)

theorem shr_is (x : Int) (j : Int) (m : Int) (h0 : 0 ≤ j) (h1 : j ≤ 3) (hm : m = 2 ^ (8 * j).toNat) : shr .i64 x (8 * j) = x / m := by
  unfold shr
  rw [Nat.min_eq_left (by simp [IntKind.bits]; omega), hm]

theorem put_byte (k : Nat) (acc : List Int) (x j : Int) (ns : List Int) (n i m : Int) (h0 : 0 ≤ j) (h1 : j ≤ 3) (hm : m = 2 ^ (8 * j).toNat) (ha : acc.length < 1000) :
    report_Put.l1 (k + 1) acc x j ns n i = report_Put.l1 k (acc ++ [x / m % 256]) x (j - 1) ns n i := by
  rw [report_Put.l1]
  rw [wr (x := 8 * j) (by omega) (by omega), shr_is x j m h0 h1 hm, wr (x := j - 1) (by omega) (by omega), if_pos (by omega), if_pos (by omega), if_pos (by omega)]

theorem put_bytes (k : Nat) (acc : List Int) (x : Int) (ns : List Int) (n i : Int) (ha : acc.length < 900) (i0 : 0 ≤ i) (i1 : i < 1000) :
    report_Put.l1 (k + 5) acc x 3 ns n i = report_Put.l0 k (acc ++ four x) ns n (i + 1) := by
  rw [put_byte (k + 4) acc x 3 ns n i 16777216 (by omega) (by omega) (by decide) (by omega)]
  rw [put_byte (k + 3) _ x _ ns n i 65536 (by omega) (by omega) (by decide) (by simp; omega)]
  rw [put_byte (k + 2) _ x _ ns n i 256 (by omega) (by omega) (by decide) (by simp; omega)]
  rw [put_byte (k + 1) _ x _ ns n i 1 (by omega) (by omega) (by decide) (by simp; omega)]
  rw [report_Put.l1]
  rw [if_neg (by omega), wr (x := i + 1) (by omega) (by omega)]
  simp [four]

theorem put_loop (ns : List Int) (hn : ns.length ≤ 100) (d : Nat) : ∀ (k : Nat) (acc : List Int) (i : Nat), i + d = ns.length → acc.length + 4 * d < 900 → 7 * d < k →
    report_Put.l0 k acc ns (ns.length : Int) (i : Int) = some (if (ns.drop i).all goodB then (strOfNums (acc ++ (ns.drop i).flatMap four), 0) else (⟨#[]⟩, 700)) := by
  induction d with
  | zero =>
    intro k acc i hi ha hk
    obtain ⟨k, rfl⟩ : ∃ q, k = q + 1 := ⟨k - 1, by omega⟩
    rw [report_Put.l0, if_neg (by omega), List.drop_of_length_le (by omega)]
    simp
  | succ d ih =>
    intro k acc i hi ha hk
    obtain ⟨k, rfl⟩ : ∃ q, k = q + 7 := ⟨k - 7, by omega⟩
    have hlt : i < ns.length := by omega
    have hrd : rd ns (i : Int) = ns[i] := by unfold rd; simp [List.getD_eq_getElem?_getD, List.getElem?_eq_getElem hlt]
    rw [report_Put.l0, if_pos (by omega), if_pos (by omega), if_pos (by omega), hrd, List.drop_eq_getElem_cons hlt]
    simp only [List.all_cons, List.flatMap_cons]
    by_cases c : ns[i] < 0
    · rw [if_pos c, report_Put.j1, if_pos rfl, goodB_low c]
      simp
    · rw [if_neg c]
      by_cases c2 : ns[i] > 4294967295
      · rw [decide_eq_true c2, report_Put.j1, if_pos rfl, goodB_high c2]
        simp
      · rw [decide_eq_false c2, report_Put.j1, if_neg (by simp), put_bytes k acc _ ns _ _ (by omega) (by omega) (by omega), goodB_true (by omega) (by omega)]
        have := ih k (acc ++ four ns[i]) (i + 1) (by omega) (by rw [List.length_append, four_length]; omega) (by omega)
        rw [show ((i : Int) + 1) = ((i + 1 : Nat) : Int) by omega, this, List.append_assoc]
        simp

theorem put_is (k : Nat) (hk : 100 < k) (ns : List Int) (h : ns.length = 12) : report_Put.f k ns = some (putOf ns) := by
  unfold report_Put.f putOf
  rw [if_pos (by omega)]
  have := put_loop ns (by omega) 12 k [] 0 (by omega) (by simp) (by omega)
  simpa using this

theorem put_not (k : Nat) (ns : List Int) (h : ns.length ≠ 12) : report_Put.f k ns = some (⟨#[]⟩, 700) := by
  unfold report_Put.f
  rw [if_neg (by omega)]

theorem putOf_good (ns : List Int) (h : ∀ x ∈ ns, goodB x = true) : putOf ns = (strOfNums (ns.flatMap four), 0) := by
  unfold putOf
  rw [if_pos (List.all_eq_true.2 h)]

theorem or_is (x y : Int) (i : Nat) (hx0 : 0 ≤ x) (hx : x % 2 ^ i = 0) (hx1 : x < 4611686018427387904) (hy0 : 0 ≤ y) (hy : y < 2 ^ i) (hy1 : y < 4611686018427387904) : bits .or .i64 x y = x + y :=
  bits_join .i64 62 (by decide) (fun n h0 h1 => by rw [IntKind.wrap_i64]; have : n < 4611686018427387904 := h1; omega) i x y hx0 hx hx1 hy0 hy hy1

theorem get_loop (s : ByteArray) (hs : s.size = 48) (d : Nat) : ∀ (k i : Nat), i + d = 48 → d < k →
    report_Get.l0 k s (stateAt (fun j => bt s (j : Int)) i) 48 (i : Int) = some (words s, 0) := by
  induction d with
  | zero =>
    intro k i hi hk
    obtain ⟨k, rfl⟩ : ∃ q, k = q + 1 := ⟨k - 1, by omega⟩
    rw [report_Get.l0, if_neg (by omega)]
    obtain rfl : i = 48 := by omega
    rw [stateAt_end]
  | succ d ih =>
    intro k i hi hk
    obtain ⟨k, rfl⟩ : ∃ q, k = q + 1 := ⟨k - 1, by omega⟩
    have e1 : Int.tdiv (i : Int) 4 = ((i / 4 : Nat) : Int) := by rw [Int.tdiv_eq_ediv_of_nonneg (by omega)]; omega
    have hl := stateAt_length (fun j => bt s (j : Int)) i
    rw [report_Get.l0, if_pos (by omega), e1, wr (x := ((i / 4 : Nat) : Int)) (by omega) (by omega), if_pos (by omega), if_pos (by rw [hl]; omega), if_pos (by omega), if_pos (by omega),
      wr (x := (i : Int) + 1) (by omega) (by omega)]
    have hq : i / 4 < (stateAt (fun j => bt s (j : Int)) i).length := by rw [hl]; omega
    have hrd : rd (stateAt (fun j => bt s (j : Int)) i) ((i / 4 : Nat) : Int) = part (fun j => bt s (j : Int)) (i / 4) (i % 4) := by
      unfold rd
      rw [show (((i / 4 : Nat) : Int)).toNat = i / 4 by omega, List.getD_eq_getElem?_getD, List.getElem?_eq_getElem hq, Option.getD_some, stateAt_at]
      congr 1
      omega
    have hp := part_small (fun j => bt s (j : Int)) (bt_bound s) (i / 4) (i % 4) (by omega)
    have hb := bt_bound s i
    rw [hrd, wr (x := bt s (i : Int)) (by omega) (by omega)]
    have hpart : part (fun j => bt s (j : Int)) (i / 4) (i % 4 + 1) = part (fun j => bt s (j : Int)) (i / 4) (i % 4) * 256 + bt s (i : Int) := by
      have : part (fun j => bt s (j : Int)) (i / 4) (i % 4 + 1) = part (fun j => bt s (j : Int)) (i / 4) (i % 4) * 256 + bt s ((4 * (i / 4) + i % 4 : Nat) : Int) := rfl
      rw [this, show 4 * (i / 4) + i % 4 = i by omega]
    have hst := stateAt_step (fun j => bt s (j : Int)) i
    rw [hpart] at hst
    generalize part (fun j => bt s (j : Int)) (i / 4) (i % 4) = p at *
    rw [wr (x := p * 256) (by omega) (by omega), or_is (p * 256) (bt s (i : Int)) 8 (by omega) (by omega) (by omega) (by omega) (by omega) (by omega)]
    rw [show (((i / 4 : Nat) : Int)).toNat = i / 4 by omega, hst]
    have := ih k (i + 1) (by omega) (by omega)
    rw [show ((i : Int) + 1) = ((i + 1 : Nat) : Int) by omega]
    exact this

theorem get_is (k : Nat) (hk : 100 < k) (s : ByteArray) (hs : s.size = 48) : report_Get.f k s = some (words s, 0) := by
  unfold report_Get.f
  rw [if_pos (by omega), if_pos (by decide)]
  have := get_loop s hs 48 k 0 (by omega) (by omega)
  rw [stateAt_zero] at this
  have hs' : ((s.size : Nat) : Int) = 48 := by omega
  rw [hs']
  exact this

theorem get_not (k : Nat) (s : ByteArray) (hs : s.size ≠ 48) : report_Get.f k s = some ([], 700) := by
  unfold report_Get.f
  rw [if_neg (by omega)]

theorem awake_is (k : Nat) (hk : 100 < k) : withylaw7_awake.f k = some true := by
  unfold withylaw7_awake.f
  have hg : ∀ x ∈ ([1, 2, 3, 4, 5, 6, 7, 8, 9, 10, 11, 4294967295] : List Int), goodB x = true := by decide
  rw [put_is k hk _ (by decide), putOf_good _ hg]
  have hsz : (strOfNums (([1, 2, 3, 4, 5, 6, 7, 8, 9, 10, 11, 4294967295] : List Int).flatMap four)).size = 48 := by rw [strOfNums_size, fours_length]; rfl
  simp only [Option.bind_some]
  rw [get_is k hk _ hsz, words_fours _ rfl hg]
  simp only [Option.bind_some]
  rw [put_not k [1] (by decide)]
  simp only [Option.bind_some, withylaw0_Num.f, hsz]
  decide

theorem same_loop (xs : List Int) (hn : xs.length < 1000) (d : Nat) : ∀ (k i : Nat), i + d = xs.length → d < k → withylaw0_SameInts.l0 k xs xs (i : Int) = some true := by
  induction d with
  | zero =>
    intro k i hi hk
    obtain ⟨k, rfl⟩ : ∃ q, k = q + 1 := ⟨k - 1, by omega⟩
    rw [withylaw0_SameInts.l0, if_neg (by omega)]
  | succ d ih =>
    intro k i hi hk
    obtain ⟨k, rfl⟩ : ∃ q, k = q + 1 := ⟨k - 1, by omega⟩
    rw [withylaw0_SameInts.l0, if_pos (by omega), if_pos (by omega), if_pos (by omega), if_pos rfl, wr (x := (i : Int) + 1) (by omega) (by omega)]
    have := ih k (i + 1) (by omega) (by omega)
    rw [show ((i : Int) + 1) = ((i + 1 : Nat) : Int) by omega]
    exact this

theorem same_is (xs : List Int) (hn : xs.length < 1000) : withylaw0_SameInts.f 2000 xs xs = some true := by
  unfold withylaw0_SameInts.f
  rw [if_pos rfl]
  exact same_loop xs hn xs.length 2000 0 (by omega) (by omega)

end Go.Proofs.Ytnalbeiefiehnaa.Pure
