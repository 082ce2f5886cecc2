/-
The walk of the statement ReportBack: twelve numbers come back; other bytes of that length are written as they stood.
-/
import Derived.Test.YtnalbeiefiehnaaPureReportBack
import Derived.Lib.Hide
namespace Go.Proofs.Ytnalbeiefiehnaa.Back
open Go.RowKit Go.Proofs.Ytnalbeiefiehnaa.PReportBack Go.Proofs.Ytnalbeiefiehnaa.Pure Go.Proofs.YtnalbeiefiehnaaW.PrintWords Go.Proofs.YtnalbeiefiehnaaW.PrintLast Go.Proofs.YtnalbeiefiehnaaW.PrintMore

theorem num_calls (a : Int) (w : World) : Calls Try.prog 11 #[.int .i64 a] w fun e w' => e = .returned (.int .i64 a) ∧ w = w' := by
  go_enter Try.func11, Try.ntmps11
  go_wp2
  go_ret
  exact ⟨rfl, rfl⟩
theorem awake_calls (w : World) : Calls Try.prog 15 #[] w fun e w' => e = .returned (.bool true) ∧ Below w.heap.size w w' :=
  withylaw7_awake.calls 1000 true w (awake_is 1000 (by omega))
theorem get_calls (s : ByteArray) (hs : s.size = 48) (w : World) : Calls Try.prog 9 #[.string s] w fun e w' => ∃ v, e = .returned (.tuple #[v, .int .i64 0]) ∧ Kd.R (Kd.int .i64) 3 w' w.heap.size (fun _ => True) v (words s) ∧ Below w.heap.size w w' :=
  report_Get.calls 1000 s _ _ w (get_is 1000 (by omega) s hs)
theorem put_calls (A : Option Addr) (c : Nat) (xs : List Int) (hl : xs.length = 12) (hg : ∀ x ∈ xs, goodB x = true) (hc : 12 ≤ c) (w : World) (hr : ReadsInt w .i64 A 12 xs) :
    Calls Try.prog 7 #[.slice A 12 c] w fun e w' => e = .returned (.tuple #[.string (strOfNums (xs.flatMap four)), .int .i64 0]) ∧ Below w.heap.size w w' := by
  have h := report_Put.calls 1000 A c xs (strOfNums (xs.flatMap four)) 0 w (Kd.C_of_reads (d := (0 : Int)) (h1 := fun _ => rfl) (by rw [hl]; exact hr)) (by omega) (by rw [put_is 1000 (by omega) xs hl, putOf_good xs hg])
  rw [hl] at h
  exact h
theorem same_calls (A A' : Option Addr) (c c' : Nat) (xs : List Int) (hl : xs.length = 12) (hc : 12 ≤ c) (hc' : 12 ≤ c') (w : World) (hr : ReadsInt w .i64 A 12 xs) (hr' : ReadsInt w .i64 A' 12 xs) :
    Calls Try.prog 12 #[.slice A 12 c, .slice A' 12 c'] w fun e w' => e = .returned (.bool true) ∧ ∃ n, w' = w.drewN n := by
  have h := withylaw0_SameInts.calls 2000 A c xs A' c' xs true w (Kd.C_of_reads (d := (0 : Int)) (h1 := fun _ => rfl) (by rw [hl]; exact hr)) (by omega) (Kd.C_of_reads (d := (0 : Int)) (h1 := fun _ => rfl) (by rw [hl]; exact hr')) (by omega) (same_is xs (by omega))
  rw [hl] at h
  exact h.mono fun e w' ⟨he, hd⟩ => ⟨he, hd.out⟩

/-- A row's cells. -/
def arr (k : IntKind) (xs : List Int) : Array Value := (xs.map (Value.int k)).toArray
theorem arr_size (k : IntKind) (xs : List Int) : (arr k xs).size = xs.length := by simp [arr]
theorem arr_at (k : IntKind) (xs : List Int) (j : Nat) (h : j < xs.length) : (arr k xs)[j]? = some (.int k (xs.getD j 0)) := by
  simp [arr, h, List.getD_eq_getElem?_getD]
theorem arr_set (k : IntKind) (xs : List Int) (j : Nat) (x : Int) : (arr k xs).setIfInBounds j (.int k x) = arr k (xs.set j x) := by
  simp [arr, List.map_set]
theorem reads_arr {k : IntKind} {xs : List Int} {w : World} {g t : Nat} (h : w.heap[g]? = some (.cells (arr k xs) t (0, 0))) (hn : xs.length ≤ 9223372036854775807) : ReadsInt w k (some ⟨g, 0, none⟩) xs.length xs := by
  refine ⟨rfl, hn, fun _ => ⟨_, rfl, fun j hj => ?_⟩⟩
  rw [add_plain, cell_of_row w g j _ t _ h, arr_at k xs j hj]

def zeros12 : List Int := List.replicate 12 0
def zeros48 : List Int := List.replicate 48 0
theorem make12 (w : World) : (Instr.makeSlice 22 (.int .i64 12) (.int .i64 12)).run Try.prog w = .ok (.slice (some ⟨w.heap.size, 0, none⟩) 12 12) (w.alloc (.cells (arr .i64 zeros12) 3)) := by kernel_rfl
theorem make48 (w : World) : (Instr.makeSlice 39 (.int .i64 48) (.int .i64 48)).run Try.prog w = .ok (.slice (some ⟨w.heap.size, 0, none⟩) 48 48) (w.alloc (.cells (arr .u8 zeros48) 5)) := by kernel_rfl

/-- The 48 bytes that a text's copy leaves. -/
def bytes48 (s : ByteArray) : List Int := ((bytesOf s).take 48) ++ List.replicate (48 - s.size) 0
theorem bytes48_length (s : ByteArray) : (bytes48 s).length = 48 := by
  unfold bytes48
  rw [List.length_append, List.length_take, bytesOf_length, List.length_replicate]
  omega

theorem info5' : (Try.prog.info? 5).map (fun i => i.size) = some 1 := by kernel_rfl

/-- The cells that are copied. -/
def headCells (s : ByteArray) : List Value := List.take (min s.size 48) (List.map (fun b : UInt8 => Value.int .u8 (b.toNat : Int)) s.data.toList)
theorem headCells_length (s : ByteArray) : (headCells s).length = min s.size 48 := by
  unfold headCells
  rw [List.length_take, List.length_map]
  have hl : s.data.toList.length = s.size := by simp
  omega

theorem copy_cells (s : ByteArray) : (headCells s ++ (arr .u8 zeros48).toList.drop (min s.size 48)).toArray = arr .u8 (bytes48 s) := by
  have e1 : headCells s = ((bytesOf s).take 48).map (Value.int .u8) := by
    unfold headCells bytesOf
    have hl : s.data.toList.length = s.size := by simp
    rw [← List.map_take, ← List.map_take, List.map_map, Nat.min_comm, ← hl, ← List.take_eq_take_min]
    rfl
  have e2 : (arr .u8 zeros48).toList.drop (min s.size 48) = (List.replicate (48 - s.size) 0).map (Value.int .u8) := by
    unfold arr zeros48
    simp only [List.map_replicate, List.drop_replicate]
    congr 1
    omega
  rw [e1, e2, ← List.map_append]
  rfl

theorem run_copy (w : World) (g : Nat) (s : ByteArray) (ty : TypeId) (hg : w.heap[g]? = some (.cells (arr .u8 zeros48) 5 (0, 0))) :
    (Builtin.copy_ #[39, 9] ty #[.slice (some ⟨g, 0, none⟩) 48 48, .string s]).run Try.prog w = .ok (goInt ((min s.size 48 : Nat) : Int)) (w.setRow g (arr .u8 (bytes48 s))) := by
  have hlen := headCells_length s
  have hz : (arr .u8 zeros48).size = 48 := by rw [arr_size]; rfl
  have hst := run_storeCells_at Try.prog g 0 5 (headCells s) 0 (arr .u8 zeros48) w hg (by rw [hlen, hz]; omega)
    (fun v hv => by obtain ⟨b, _, rfl⟩ := List.mem_map.1 (List.mem_of_mem_take hv); rfl)
  rw [hlen] at hst
  simp only [Nat.add_zero, List.take_zero, List.nil_append, Nat.zero_add] at hst
  rw [copy_cells] at hst
  unfold headCells at hst
  have hi := info5'
  cases hq : Try.prog.info? 5 with
  | none => simp [hq] at hi
  | some i =>
    have hm : Nat.min s.size 48 = min s.size 48 := rfl
    simp only [Builtin.copy_, List.getElem?_toArray, List.getElem?_cons_zero, List.getElem?_cons_succ, Sem.run_bind, Sem.run_pure, Result.andThen_ok, run_underlying Try.underlying39, Builtin.lenOf, sizeOf, typeInfo, Builtin.firstCells]
    simp [hq, hm]
    rw [hst]
    simp [Result.andThen]

theorem wpList_copy {ops : Array Oper} {rest : List Oper} {o : Oper} {a : Act} {w : World} {Q : Exit → Act → World → Prop} (hgd : o.guard = none) (g : Nat) (s : ByteArray)
    (ho : o.op = .call { callee := .builtin .copy, args := #[.tmp 50, .tmp 51], argTypes := #[39, 9] }) (hx : a.eval (.tmp 50) = .slice (some ⟨g, 0, none⟩) 48 48) (hy : a.eval (.tmp 51) = .string s)
    (hg : w.heap[g]? = some (.cells (arr .u8 zeros48) 5 (0, 0)))
    (h : ∀ w', w' = w.setRow g (arr .u8 (bytes48 s)) → wpList Try.prog ops Q rest (a.put o.dst (goInt ((min s.size 48 : Nat) : Int))) w') : wpList Try.prog ops Q (o :: rest) a w := by
  refine wpList_plain hgd fun K hK => ?_
  unfold Oper.wp execOp
  simp only [ho, resolve, invoke, builtin, Sem.run_bind, Sem.run_pure, Result.andThen_ok, List.map_toArray, List.map_cons, List.map_nil, hx, hy, run_copy w g s o.type hg]
  exact hK _ _ (h _ rfl)

theorem below_copy (w3 w4 : World) (s : ByteArray) (h : w4 = (w3.alloc (.cells (arr .u8 zeros48) 5)).setRow w3.heap.size (arr .u8 (bytes48 s))) : Below w3.heap.size w3 w4 := by
  have h1 : Below w3.heap.size w3 (w3.alloc (.cells (arr .u8 zeros48) 5)) := (Below.refl _ _).alloc (Nat.le_refl _) _
  subst h
  exact ⟨h1.os, h1.tape, h1.output, by rw [show ((w3.alloc (.cells (arr .u8 zeros48) 5)).setRow w3.heap.size (arr .u8 (bytes48 s))).heap.size = (w3.alloc (.cells (arr .u8 zeros48) 5)).heap.size from by simp [World.setRow]]; exact h1.size, fun k hk => by rw [setRow_other _ _ _ _ (by omega)]; exact h1.block k hk⟩

theorem row_copy (w3 w4 : World) (s : ByteArray) (h : w4 = (w3.alloc (.cells (arr .u8 zeros48) 5)).setRow w3.heap.size (arr .u8 (bytes48 s))) : w4.heap[w3.heap.size]? = some (.cells (arr .u8 (bytes48 s)) 5 (0, 0)) := by
  subst h
  exact setRow_heap _ _ _ _ _ _ (heap_alloc_new w3 _)

/-- 'string(b)', as long as the row lies. -/
theorem string_row {W : World} {g : Nat} {s : ByteArray} (h : W.heap[g]? = some (.cells (arr .u8 (bytes48 s)) 5 (0, 0))) : (convert 39 9 (.slice (some ⟨g, 0, none⟩) 48 48)).run Try.prog W = .ok (.string (strOfNums (bytes48 s))) W := by
  have hr := reads_arr h (by rw [bytes48_length]; decide)
  have := string_of_reads (P := Try.prog) (src := 39) (dst := 9) (e := 5) (c := 48) Try.underlying39 Try.underlying5 Try.underlying9 hr
  rw [bytes48_length] at this
  exact this

/-- The numbers that the law lays: at most 32 bits each. -/
def Fine (xs : List Int) : Prop := xs.length = 12 ∧ ∀ x ∈ xs, goodB x = true
theorem Fine.start : Fine zeros12 := ⟨rfl, by unfold zeros12; intro x hx; obtain rfl := (List.mem_replicate.1 hx).2; decide⟩
theorem Fine.set {xs : List Int} (h : Fine xs) (j : Nat) {x : Int} (h0 : 0 ≤ x) (h1 : x ≤ 4294967295) : Fine (xs.set j x) :=
  ⟨by rw [List.length_set]; exact h.1, fun y hy => by
    rcases List.mem_or_eq_of_mem_set hy with hy | rfl
    · exact h.2 y hy
    · exact goodB_true h0 h1⟩
structure St (w wr : World) (g : Nat) (xs : List Int) : Prop where
  below : Below w.heap.size w wr
  base : w.heap.size ≤ g
  row : wr.heap[g]? = some (.cells (arr .i64 xs) 3 (0, 0))
  fine : Fine xs

theorem u64_range (p : Int) : 0 ≤ IntKind.u64.wrap p := by
  simp [IntKind.wrap, IntKind.bits, IntKind.signed]
  exact Int.emod_nonneg _ (by decide)
theorem mod_fine (p : Int) : ∃ x : Int, (IntKind.u64.wrap p).tmod 4294967296 = x ∧ 0 ≤ x ∧ x ≤ 4294967295 := by
  rw [Int.tmod_eq_emod_of_nonneg (u64_range p)]
  exact ⟨_, rfl, Int.emod_nonneg _ (by decide), by have := Int.emod_lt_of_pos (IntKind.u64.wrap p) (show (0 : Int) < 4294967296 by decide); omega⟩

set_option maxRecDepth 100000 in
set_option maxHeartbeats 2000000 in
theorem back_any (A : Option Addr) (c : Nat) (ns : List Int) (s : ByteArray) (w : World) (hr : ReadsInt w .i64 A ns.length ns) :
    Calls Try.prog 4 #[.slice A ns.length c, .string s] w fun e w' => e = .returned (.bool true) ∧ Below w.heap.size w w' := by
  have HR := Lib.hid hr
  clear hr
  have mk12 := make12
  go_enter Try.func4, Try.ntmps4
  go_wp2_with (go_at_call 15; refine (awake_calls _).mono ?_; rintro e w1 ⟨rfl, hb1⟩)
  clear mk12
  have hst : St w (w1.alloc (.cells (arr .i64 zeros12) 3)) w1.heap.size zeros12 := ⟨hb1.alloc hb1.size _, hb1.size, heap_alloc_new _ _, Fine.start⟩
  have HST := Lib.hid hst
  clear hst hb1
  generalize w1.heap.size = g at HST ⊢
  generalize w1.alloc (.cells (arr .i64 zeros12) 3) = W at HST ⊢
  go_loopg [6] 12 (fun m v6 wr => ∃ (i : Nat) (xs : List Int), i ≤ ns.length ∧ i + m = 12 ∧ v6 = .int .i64 i ∧ Aside (St w wr g xs))
  case atStart => exact ⟨0, zeros12, Nat.zero_le _, rfl, rfl, HST.out⟩
  case round =>
    obtain ⟨i, xs, hi, him, rfl, hst⟩ := hrel
    have hi12 : i ≤ 12 := by omega
    have HIM := Lib.hid him
    clear him HST
    by_cases hlt : i < ns.length
    · by_cases hlt12 : i < 12
      · obtain ⟨ad, rfl, hp⟩ := HR.out.at_ (i : Int) (by omega) (by omega)
        replace hp := ((Aside.out hst).below.cell (World.block_lt_of_cell? w _ hp)).trans hp
        rw [Int.toNat_natCast] at hp
        generalize rd ns i = p at hp
        obtain ⟨x, hx, hx0, hx1⟩ := mod_fine p
        have hl := (Aside.out hst).fine.1
        have hc : wr.cell? ⟨g, i, none⟩ = some (.int .i64 (xs.getD i 0)) := by
          rw [cell_of_row wr g i _ 3 _ (Aside.out hst).row, arr_at _ _ _ (by omega)]
        have hf : wr.frozen? ⟨g, i, none⟩ = false := frozen_of_row wr g i _ 3 (Aside.out hst).row
        have HL := Lib.hid hl
        clear hl
        go_wp2_with fail
        go_roundg (11 - i)
        case measure => have := HIM.out; omega
        case rel =>
          refine ⟨i + 1, xs.set i x, by omega, by have := HIM.out; omega, by go_num, ?_⟩
          have hs := Aside.out hst
          exact (⟨hs.below.setCell hs.base _, hs.base, by rw [heap_setCell_same _ _ _ _ _ _ hs.row, arr_set], hs.fine.set i hx0 hx1⟩ : St w _ g (xs.set i x))
      · skip
        have hs := Aside.out hst
        clear hst
        have hx : ReadsInt wr .i64 (some ⟨g, 0, none⟩) 12 xs := by have := reads_arr hs.row (by have := hs.fine.1; omega); rw [hs.fine.1] at this; exact this
        have hT : (strOfNums (xs.flatMap four)).size = 48 := by rw [strOfNums_size, fours_length, hs.fine.1]
        have hTw : words (strOfNums (xs.flatMap four)) = xs := words_fours xs hs.fine.1 hs.fine.2
        have HS := Lib.hid hs
        have HX := Lib.hid hx
        have PUT1 := Lib.hid (put_calls (some ⟨g, 0, none⟩) 12 xs hs.fine.1 hs.fine.2 (Nat.le_refl _))
        generalize strOfNums (xs.flatMap four) = T at hT hTw PUT1
        have GET1 := Lib.hid (get_calls T hT)
        rw [hTw] at GET1
        clear hs hx hT hTw
        go_wp2_with fail
        refine (PUT1.out _ HX.out).mono ?_
        rintro e w2 ⟨rfl, hb2⟩
        have HB2 := Lib.hid hb2
        clear hb2
        go_wp2_with fail
        refine (GET1.out _).mono ?_
        rintro e w3 ⟨v, rfl, hv, hb3⟩
        obtain ⟨Ay, cy, rfl⟩ := Kd.R_slice hv
        have hy : ReadsInt w3 .i64 Ay 12 xs := by have := Kd.reads_of_C (enc := Value.int .i64) (d := (0 : Int)) (h1 := fun _ => rfl) (Kd.R_reads' hv).2.2; rw [HS.out.fine.1] at this; exact this
        have hcy : 12 ≤ cy := by have := (Kd.R_reads' hv).2.1; rw [HS.out.fine.1] at this; exact this
        rw [HS.out.fine.1]
        have HY := Lib.hid hy
        have HB3 := Lib.hid hb3
        have mk48 := make48 w3
        clear hv hy hb3
        have hrow := heap_alloc_new w3 (.cells (arr .u8 zeros48) 5)
        have HROW := Lib.hid hrow
        clear hrow
        go_wp2_with (refine wpList_copy (o := ⟨some 52, _, _, _, _, _⟩) rfl w3.heap.size s rfl rfl rfl HROW.out ?_; intro w4 hw4; have b34 := below_copy w3 w4 s hw4; have r4 := row_copy w3 w4 s hw4; have hcs := string_row r4; clear hw4)
        have B34 := Lib.hid b34
        have hS : (strOfNums (bytes48 s)).size = 48 := by rw [strOfNums_size, bytes48_length]
        have hfw := fours_words _ hS
        obtain ⟨S, hSe⟩ : ∃ S, strOfNums (bytes48 s) = S := ⟨_, rfl⟩
        rw [hSe] at hS hfw hcs ⊢
        have HSE := Lib.hid hSe
        have R4 := Lib.hid r4
        clear hSe r4
        have GET2 := Lib.hid (get_calls S hS)
        have HFW := Lib.hid hfw
        clear hS hfw b34
        go_wp2_with fail
        refine (GET2.out _).mono ?_
        rintro e w5 ⟨v2, rfl, hv2, hb5⟩
        obtain ⟨Az, cz, rfl⟩ := Kd.R_slice hv2
        have hz : ReadsInt w5 .i64 Az 12 (words S) := by have := Kd.reads_of_C (enc := Value.int .i64) (d := (0 : Int)) (h1 := fun _ => rfl) (Kd.R_reads' hv2).2.2; rw [words_length] at this; exact this
        have hcz : 12 ≤ cz := by have := (Kd.R_reads' hv2).2.1; rw [words_length] at this; exact this
        rw [words_length]
        have HZ := Lib.hid hz
        have HB5 := Lib.hid hb5
        have PUT2 := Lib.hid (put_calls Az cz (words S) (words_length S) (words_good S) hcz)
        rw [HFW.out] at PUT2
        clear hv2 hz hb5
        go_wp2_with fail
        refine (PUT2.out _ HZ.out).mono ?_
        rintro e w6 ⟨rfl, hb6⟩
        have HB6 := Lib.hid hb6
        clear hb6
        have b36 : Below w3.heap.size w3 w6 := (B34.out.trans (HB5.out.mono B34.out.size)).trans (HB6.out.mono (Nat.le_trans B34.out.size HB5.out.size))
        have bw6 : Below w.heap.size w w6 := ((HS.out.below.trans (HB2.out.mono HS.out.below.size)).trans (HB3.out.mono (Nat.le_trans HS.out.below.size HB2.out.size))).trans (b36.mono (Nat.le_trans (Nat.le_trans HS.out.below.size HB2.out.size) HB3.out.size))
        have x6 : ReadsInt w6 .i64 (some ⟨g, 0, none⟩) 12 xs := ((HX.out.below HB2.out).below HB3.out).below b36
        have y6 : ReadsInt w6 .i64 Ay 12 xs := HY.out.below b36
        have BW6 := Lib.hid bw6
        have l34 : w3.heap.size < w4.heap.size := (Array.getElem?_eq_some_iff.1 R4.out).1
        have r6 : w6.heap[w3.heap.size]? = some (.cells (arr .u8 (bytes48 s)) 5 (0, 0)) := by rw [HB6.out.block _ (Nat.lt_of_lt_of_le l34 HB5.out.size), HB5.out.block _ l34]; exact R4.out
        have hcs6 : ∀ n, (convert 39 9 (.slice (some ⟨w3.heap.size, 0, none⟩) 48 48)).run Try.prog (w6.drewN n) = .ok (.string S) (w6.drewN n) := fun n => by rw [← HSE.out]; exact string_row r6
        have HCS := Lib.hid hcs6
        have X6 := Lib.hid x6
        have Y6 := Lib.hid y6
        clear hcs6 x6 y6 r6 l34 bw6 b36
        go_wp2_with (first | (go_at_call 11; refine (num_calls _ _).mono ?_; rintro e w8 ⟨rfl, rfl⟩) | (go_at_call 12; refine (same_calls Ay (some ⟨g, 0, none⟩) cy 12 xs HS.out.fine.1 hcy (Nat.le_refl _) _ Y6.out X6.out).mono ?_; rintro e w7 ⟨rfl, n, rfl⟩; have hcs7 := HCS.out n))
        go_ret
        exact ⟨rfl, pw_below_drewN BW6.out _⟩
    · skip
      have hs := Aside.out hst
      clear hst
      have hx : ReadsInt wr .i64 (some ⟨g, 0, none⟩) 12 xs := by have := reads_arr hs.row (by have := hs.fine.1; omega); rw [hs.fine.1] at this; exact this
      have hT : (strOfNums (xs.flatMap four)).size = 48 := by rw [strOfNums_size, fours_length, hs.fine.1]
      have hTw : words (strOfNums (xs.flatMap four)) = xs := words_fours xs hs.fine.1 hs.fine.2
      have HS := Lib.hid hs
      have HX := Lib.hid hx
      have PUT1 := Lib.hid (put_calls (some ⟨g, 0, none⟩) 12 xs hs.fine.1 hs.fine.2 (Nat.le_refl _))
      generalize strOfNums (xs.flatMap four) = T at hT hTw PUT1
      have GET1 := Lib.hid (get_calls T hT)
      rw [hTw] at GET1
      clear hs hx hT hTw
      go_wp2_with fail
      refine (PUT1.out _ HX.out).mono ?_
      rintro e w2 ⟨rfl, hb2⟩
      have HB2 := Lib.hid hb2
      clear hb2
      go_wp2_with fail
      refine (GET1.out _).mono ?_
      rintro e w3 ⟨v, rfl, hv, hb3⟩
      obtain ⟨Ay, cy, rfl⟩ := Kd.R_slice hv
      have hy : ReadsInt w3 .i64 Ay 12 xs := by have := Kd.reads_of_C (enc := Value.int .i64) (d := (0 : Int)) (h1 := fun _ => rfl) (Kd.R_reads' hv).2.2; rw [HS.out.fine.1] at this; exact this
      have hcy : 12 ≤ cy := by have := (Kd.R_reads' hv).2.1; rw [HS.out.fine.1] at this; exact this
      rw [HS.out.fine.1]
      have HY := Lib.hid hy
      have HB3 := Lib.hid hb3
      have mk48 := make48 w3
      clear hv hy hb3
      have hrow := heap_alloc_new w3 (.cells (arr .u8 zeros48) 5)
      have HROW := Lib.hid hrow
      clear hrow
      go_wp2_with (refine wpList_copy (o := ⟨some 52, _, _, _, _, _⟩) rfl w3.heap.size s rfl rfl rfl HROW.out ?_; intro w4 hw4; have b34 := below_copy w3 w4 s hw4; have r4 := row_copy w3 w4 s hw4; have hcs := string_row r4; clear hw4)
      have B34 := Lib.hid b34
      have hS : (strOfNums (bytes48 s)).size = 48 := by rw [strOfNums_size, bytes48_length]
      have hfw := fours_words _ hS
      obtain ⟨S, hSe⟩ : ∃ S, strOfNums (bytes48 s) = S := ⟨_, rfl⟩
      rw [hSe] at hS hfw hcs ⊢
      have HSE := Lib.hid hSe
      have R4 := Lib.hid r4
      clear hSe r4
      have GET2 := Lib.hid (get_calls S hS)
      have HFW := Lib.hid hfw
      clear hS hfw b34
      go_wp2_with fail
      refine (GET2.out _).mono ?_
      rintro e w5 ⟨v2, rfl, hv2, hb5⟩
      obtain ⟨Az, cz, rfl⟩ := Kd.R_slice hv2
      have hz : ReadsInt w5 .i64 Az 12 (words S) := by have := Kd.reads_of_C (enc := Value.int .i64) (d := (0 : Int)) (h1 := fun _ => rfl) (Kd.R_reads' hv2).2.2; rw [words_length] at this; exact this
      have hcz : 12 ≤ cz := by have := (Kd.R_reads' hv2).2.1; rw [words_length] at this; exact this
      rw [words_length]
      have HZ := Lib.hid hz
      have HB5 := Lib.hid hb5
      have PUT2 := Lib.hid (put_calls Az cz (words S) (words_length S) (words_good S) hcz)
      rw [HFW.out] at PUT2
      clear hv2 hz hb5
      go_wp2_with fail
      refine (PUT2.out _ HZ.out).mono ?_
      rintro e w6 ⟨rfl, hb6⟩
      have HB6 := Lib.hid hb6
      clear hb6
      have b36 : Below w3.heap.size w3 w6 := (B34.out.trans (HB5.out.mono B34.out.size)).trans (HB6.out.mono (Nat.le_trans B34.out.size HB5.out.size))
      have bw6 : Below w.heap.size w w6 := ((HS.out.below.trans (HB2.out.mono HS.out.below.size)).trans (HB3.out.mono (Nat.le_trans HS.out.below.size HB2.out.size))).trans (b36.mono (Nat.le_trans (Nat.le_trans HS.out.below.size HB2.out.size) HB3.out.size))
      have x6 : ReadsInt w6 .i64 (some ⟨g, 0, none⟩) 12 xs := ((HX.out.below HB2.out).below HB3.out).below b36
      have y6 : ReadsInt w6 .i64 Ay 12 xs := HY.out.below b36
      have BW6 := Lib.hid bw6
      have l34 : w3.heap.size < w4.heap.size := (Array.getElem?_eq_some_iff.1 R4.out).1
      have r6 : w6.heap[w3.heap.size]? = some (.cells (arr .u8 (bytes48 s)) 5 (0, 0)) := by rw [HB6.out.block _ (Nat.lt_of_lt_of_le l34 HB5.out.size), HB5.out.block _ l34]; exact R4.out
      have hcs6 : ∀ n, (convert 39 9 (.slice (some ⟨w3.heap.size, 0, none⟩) 48 48)).run Try.prog (w6.drewN n) = .ok (.string S) (w6.drewN n) := fun n => by rw [← HSE.out]; exact string_row r6
      have HCS := Lib.hid hcs6
      have X6 := Lib.hid x6
      have Y6 := Lib.hid y6
      clear hcs6 x6 y6 r6 l34 bw6 b36
      go_wp2_with (first | (go_at_call 11; refine (num_calls _ _).mono ?_; rintro e w8 ⟨rfl, rfl⟩) | (go_at_call 12; refine (same_calls Ay (some ⟨g, 0, none⟩) cy 12 xs HS.out.fine.1 hcy (Nat.le_refl _) _ Y6.out X6.out).mono ?_; rintro e w7 ⟨rfl, n, rfl⟩; have hcs7 := HCS.out n))
      go_ret
      exact ⟨rfl, pw_below_drewN BW6.out _⟩

theorem back_walk (a0 : Option Addr) (len0 cap0 : Nat) (z0 : List Int) (a1 : ByteArray) (w : World)
    (w0 : (a0 = none ∧ len0 = 0 ∧ cap0 = 0 ∧ z0 = []) ∨ ∃ x, a0 = some x ∧ len0 ≤ cap0 ∧ cap0 ≤ maxLen ∧ z0.length = cap0 ∧ (∀ i, i < z0.length → w.cell? (x.add i) = some (.int .i64 (z0.getD i 0))) ∧ ∀ n ∈ z0, (Lit.int .i64 n).wf = true) :
    Calls Try.prog 4 #[.slice a0 len0 cap0, .string a1] w fun e w' => e = .returned (.bool true) ∧ Below w.heap.size w w' := by
  obtain ⟨l0, rfl, hr0, _, _, _⟩ := ReadsInt.ofRowC w0
  exact back_any a0 cap0 l0 a1 w hr0

#print axioms back_walk
end Go.Proofs.Ytnalbeiefiehnaa.Back
