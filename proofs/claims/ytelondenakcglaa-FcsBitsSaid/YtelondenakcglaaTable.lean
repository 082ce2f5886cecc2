/-
The contract of fcs.table: it hands back the 256 sums of single bytes; nothing that stood before the call has turned.
-/
import Derived.Test.YtelondenakcglaaPFx0
import Derived.Test.YtelondenakcglaaPlain
import Derived.Lib.Hide
namespace Go.Proofs.Ytelondenakcglaa.Table
open Go.RowKit Go.Proofs.Ytelondenakcglaa.Crc

def zeros : Array Value := Array.replicate 256 (.int .u16 0)
def cur (i : Nat) : Array Value := ((List.range 256).map fun j => Value.int .u16 (if j < i then (T j : Int) else 0)).toArray
def tab : Array Value := cur 256

theorem info40 : (Try.prog.info? 40).map (fun i => (i.zero, i.size)) = some (some (.agg zeros), 256) := by kernel_rfl

theorem zero40 (w : World) : (zeroValue 40).run Try.prog w = .ok (.agg zeros) w := by
  have hi := info40
  cases hq : Try.prog.info? 40 with
  | none => simp [hq] at hi
  | some i =>
    rw [hq] at hi
    simp only [Option.map_some, Option.some.injEq, Prod.mk.injEq] at hi
    simp [zeroValue, typeInfo, hq, hi.1]

theorem size40 : (Try.prog.info? 40).map (·.size) = some 256 := by
  have hi := info40
  cases hq : Try.prog.info? 40 with
  | none => simp [hq] at hi
  | some i =>
    rw [hq] at hi
    simp only [Option.map_some, Option.some.injEq, Prod.mk.injEq] at hi
    simp [hi.2]

theorem wpList_alloc40 {ops : Array Oper} {rest : List Oper} {o : Oper} {a : Act} {w : World} {Q : Exit → Act → World → Prop} (hg : o.guard = none) (ho : o.op = .alloc 40)
    (h : wpList Try.prog ops Q rest (a.put o.dst (.pointer (some ⟨w.heap.size, 0, none⟩))) (w.alloc (.cells zeros 40))) : wpList Try.prog ops Q (o :: rest) a w := by
  refine wpList_plain hg fun K hK => ?_
  unfold Oper.wp execOp
  simp only [ho, Instr.alloc, Sem.run_bind, zero40, Result.andThen_ok, newVar, newRow, newObj, Value.cells]
  exact hK _ _ h

theorem zeros_size : zeros.size = 256 := by simp [zeros]
theorem cur_size (i : Nat) : (cur i).size = 256 := by simp [cur]
theorem cur_at (i j : Nat) (h : j < 256) : (cur i)[j]? = some (.int .u16 (if j < i then (T j : Int) else 0)) := by
  simp [cur, h]
theorem cur_zero : cur 0 = zeros := by
  apply Array.ext (by simp [cur, zeros])
  intro j h1 h2
  simp [cur, zeros]
theorem cur_step (i : Nat) : (cur i).setIfInBounds i (.int .u16 (T i)) = cur (i + 1) := by
  apply Array.ext (by simp [cur])
  intro j h1 h2
  simp only [Array.getElem_setIfInBounds (by simpa using h1)]
  split
  · rename_i h; subst h; simp [cur]
  · rename_i h
    simp only [cur, List.getElem_toArray, List.getElem_map, List.getElem_range]
    by_cases h3 : j < i
    · rw [if_pos h3, if_pos (by omega)]
    · rw [if_neg h3, if_neg (by omega)]
theorem cur_cell (i : Nat) : (cur i).all (·.oneCell') = true := by
  rw [Array.all_eq_true]
  intro j hj
  simp [cur, Value.oneCell']

/-- The world at the head of a round. -/
structure St (w wr : World) (i : Nat) : Prop where
  below : Below w.heap.size w wr
  one : wr.heap[w.heap.size]? = some (.cells zeros 40 (0, 0))
  two : wr.heap[w.heap.size + 1]? = some (.cells (cur i) 40 (0, 0))

theorem St.start (w : World) : St w ((w.alloc (.cells zeros 40)).alloc (.cells zeros 40)) 0 :=
  ⟨((Below.refl _ _).alloc (Nat.le_refl _) _).alloc (by simp) _, heap_alloc2_old w _ _, by rw [cur_zero]; exact heap_alloc2_new w _ _⟩

theorem St.step {w wr : World} {i : Nat} (h : St w wr i) : St w (wr.setCell ⟨w.heap.size + 1, i, none⟩ (.int .u16 (T i))) (i + 1) :=
  ⟨h.below.setCell (by simp) _, by rw [heap_setCell_other _ _ _ _ (by simp)]; exact h.one, by rw [heap_setCell_same wr _ i (cur i) 40 _ h.two, cur_step]⟩

theorem and1 {x : Nat} (hx : x < 65536) : bits .and .u16 (x : Int) 1 = ((x % 2 : Nat) : Int) := by
  have := u16_and_nat x 1 hx (by decide)
  rw [Nat.and_one_is_mod] at this
  exact this
theorem half_xor {x : Nat} (hx : x < 65536) (ho : x % 2 = 1) : bits .xor .u16 ((x : Int) / 2) 33800 = ((st x : Nat) : Int) := by
  have := u16_xor_nat (x / 2) 33800 (by omega) (by decide)
  unfold st
  rw [if_pos ho, ← this]
  rfl
theorem half {x : Nat} (ho : x % 2 = 0) : (x : Int) / 2 = ((st x : Nat) : Int) := by
  unfold st
  rw [if_neg (by omega)]
  omega
theorem stN_succ (k n : Nat) : stN (k + 1) n = st (stN k n) := by
  rw [stN_add k 1]; rfl

set_option maxRecDepth 100000 in
set_option maxHeartbeats 1000000 in
theorem table_any (w : World) : Calls Try.prog 16 #[] w fun e w' => e = .returned (.agg tab) ∧ Below w.heap.size w w' := by
  go_enter Try.func16, Try.ntmps16
  go_wp2_with (with_reducible refine wpList_alloc40 rfl rfl ?_)
  go_loopg [4] 256 (fun n v4 wr => ∃ i : Nat, i + n = 256 ∧ v4 = .int .i64 i ∧ Aside (St w wr i))
  case atStart => exact ⟨0, rfl, rfl, St.start w⟩
  case round =>
    obtain ⟨i, hi, rfl, hs⟩ := hrel
    have hi2 : i ≤ 256 := by omega
    have HI := Lib.hid hi
    clear hi
    by_cases hlt : i < 256
    · have hc : wr.cell? ⟨w.heap.size + 1, i, none⟩ = some (.int .u16 0) := by
        rw [cell_of_row wr _ i (cur i) 40 _ (Aside.out hs).two, cur_at i i hlt, if_neg (Nat.lt_irrefl i)]
      have hf : wr.frozen? ⟨w.heap.size + 1, i, none⟩ = false := frozen_of_row wr _ i (cur i) 40 (Aside.out hs).two
      go_wp2_with fail
      go_loop [3, 9] (fun v3 v9 => ∃ k x : Nat, k ≤ 8 ∧ v9 = .int .i64 k ∧ v3 = .int .u16 x ∧ Aside (x = stN k i)) (fun _ v9 => 8 - (intOf v9).toNat)
      case atStart => exact ⟨0, i, by omega, rfl, rfl, rfl⟩
      case round =>
        obtain ⟨k, x, hk, rfl, rfl, hx⟩ := hrel
        have hxl : x < 65536 := by rw [Aside.out hx]; exact stN_lt k (by omega)
        by_cases hk8 : k < 8
        · go_wp2_with fail
          · rename_i hb
            rw [and1 hxl, beq_iff_eq] at hb
            refine ⟨⟨k + 1, st x, by omega, by go_num, by rw [half_xor hxl (by omega)], ?_⟩, by simp [intOf]; omega⟩
            show st x = stN (k + 1) i
            rw [stN_succ, ← Aside.out hx]
          · rename_i hb
            rw [and1 hxl, beq_eq_false_iff_ne] at hb
            refine ⟨⟨k + 1, st x, by omega, by go_num, by rw [half (by omega)], ?_⟩, by simp [intOf]; omega⟩
            show st x = stN (k + 1) i
            rw [stN_succ, ← Aside.out hx]
        · go_wp2_with fail
          go_roundg (255 - i)
          case measure => have := HI.out; omega
          case rel =>
            have hxT : x = T i := by
              have h8 : k = 8 := by omega
              have := Aside.out hx
              rw [h8] at this
              exact this
            have hst := (Aside.out hs).step
            rw [← hxT] at hst
            exact ⟨i + 1, by have := HI.out; omega, by go_num, hst⟩
    · have one : wr.heap[w.heap.size]? = some (.cells zeros 40 (0, 0)) := (Aside.out hs).one
      have two : wr.heap[w.heap.size + 1]? = some (.cells tab 40 (0, 0)) := by
        have := (Aside.out hs).two
        rw [show i = 256 by omega] at this
        exact this
      have hB := Aside.out hs
      have hB : Hid (Below w.heap.size w wr) := hB.below
      clear hs
      have e1 : (Try.prog.info? 40).map (·.size) = some tab.size := by rw [size40, show tab.size = 256 from cur_size 256]
      have e2 : zeros.size = tab.size := by rw [zeros_size, show tab.size = 256 from cur_size 256]
      have E1 := Lib.hid e1
      have E2 := Lib.hid e2
      have TWO := Lib.hid two
      have ONE := Lib.hid one
      clear e1 e2 one two
      go_wp2_with (first | (refine wpList_load_row (o := ⟨some 24, _, _, _, _, _⟩) rfl 40 (.tmp 1) rfl (w.heap.size + 1) rfl 40 tab (0, 0) _ TWO.out Try.underlying40 rfl E1.out ?_) | (refine wpList_store_row (o := ⟨none, .store 40 _ _, _, _, _, _⟩) rfl 40 (.tmp 0) (.tmp 24) rfl w.heap.size tab rfl rfl 40 zeros ONE.out E1.out E2.out (cur_cell 256) ?_))
      refine bodyPost_ret (v := .agg tab) (results_cell_row rfl _ _ w.heap.size 40 tab (0, 0) _ rfl (setRow_heap _ _ _ _ _ _ ONE.out) Try.underlying40 rfl E1.out) rfl ⟨rfl, ?_⟩
      exact ⟨hB.out.os, hB.out.tape, hB.out.output, by rw [show (wr.setRow w.heap.size tab).heap.size = wr.heap.size from by simp [World.setRow]]; exact hB.out.size, fun k hk => by rw [setRow_other _ _ _ _ (by omega)]; exact hB.out.block k hk⟩

#print axioms table_any
end Go.Proofs.Ytelondenakcglaa.Table
