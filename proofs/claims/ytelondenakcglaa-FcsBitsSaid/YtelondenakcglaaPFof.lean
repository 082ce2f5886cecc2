/-
The contract of fcs.Of: the sum of any text of at most 140737488400000 bytes; nothing that stood before the call has turned.
-/
import Derived.Test.YtelondenakcglaaTable
namespace Go.Proofs.Ytelondenakcglaa.PF
open Go.RowKit Go.Proofs.Ytelondenakcglaa.Crc Go.Proofs.Ytelondenakcglaa.Table Go.Proofs.YtelondenakcglaaW.PrintWords

def fcs_Of.f (_ : Nat) (a0 : ByteArray) : Option Int := if a0.size ≤ 140737488400000 then some (fcs a0 : Int) else none
theorem fcs_Of.mono : ∀ a0 k, LeO (fcs_Of.f k a0) (fcs_Of.f (k + 1) a0) := fun _ _ => LeO.refl _

theorem tab_at (j : Nat) (h : j < 256) : tab[j]? = some (.int .u16 (T j)) := by
  have := cur_at 256 j h
  rw [if_pos h] at this
  exact this

theorem next_walk {x c : Nat} (hx : x < 65536) (hc : c < 256) : bits .xor .u16 ((x : Int) / 256) (T ((x % 256) ^^^ c)) = ((next x c : Nat) : Int) := by
  have hj : (x % 256) ^^^ c < 256 := Nat.xor_lt_two_pow (n := 8) (by omega) hc
  have := u16_xor_nat (x / 256) (T ((x % 256) ^^^ c)) (by omega) (T_lt hj)
  rw [next_table, ← this]
  rfl
theorem index_walk {x c : Nat} (hc : c < 256) : bits .xor .u8 ((x : Int) % 256) (c : Int) = (((x % 256) ^^^ c : Nat) : Int) := by
  have := u8_xor_nat (x % 256) c (by omega) hc
  rw [← this]
  rfl

theorem store_tab (w : World) : (w.alloc (.cells zeros 40)).setRow w.heap.size tab = w.alloc (.cells tab 40) := by
  unfold World.setRow World.alloc
  congr 1
  apply Array.ext_getElem?
  intro k
  simp only [Array.getElem?_modify, Array.getElem?_push]
  by_cases hk : k = w.heap.size
  · subst hk; simp
  · simp [hk, Ne.symm hk]

set_option maxRecDepth 100000 in
set_option maxHeartbeats 1000000 in
theorem of_any (s : ByteArray) (w : World) (hs : s.size ≤ 140737488400000) : Calls Try.prog 10 #[.string s] w fun e w' => e = .returned (.int .i64 (fcs s : Int)) ∧ Below w.heap.size w w' := by
  have E1 : Hid ((Try.prog.info? 40).map (·.size) = some tab.size) := by rw [size40, show tab.size = 256 from cur_size 256]; exact Lib.hid rfl
  have E2 : Hid (zeros.size = tab.size) := by rw [zeros_size, show tab.size = 256 from cur_size 256]; exact Lib.hid rfl
  go_enter Try.func10, Try.ntmps10
  go_wp2_with (first | (go_at_call 16; refine (table_any _).mono ?_; rintro e w1 ⟨rfl, hb⟩) | (with_reducible refine wpList_alloc40 rfl rfl ?_) | (refine wpList_store_row (o := ⟨none, .store 40 _ _, _, _, _, _⟩) rfl 40 (.tmp 3) (.tmp 6) rfl _ tab rfl rfl 40 zeros (heap_alloc_new _ _) E1.out E2.out (cur_cell 256) ?_; rw [store_tab]))
  generalize hW : w1.alloc (.cells tab 40) = W
  have hcell : ∀ j, j < 256 → W.cell? ⟨w1.heap.size, j, none⟩ = some (.int .u16 (T j)) := fun j hj => by
    rw [← hW, cell_of_row _ _ j tab 40 (0, 0) (heap_alloc_new _ _), tab_at j hj]
  have HC := Lib.hid hcell
  have hB : Below w.heap.size w W := by rw [← hW]; exact hb.alloc hb.size _
  have HB := Lib.hid hB
  have HE1 := E1
  clear hW hcell hB hb E1 E2 HE1
  go_loop [4, 9] (fun v4 v9 => ∃ k x : Nat, k ≤ s.size ∧ v9 = .int .i64 k ∧ v4 = .int .u16 x ∧ Aside (x = run 65535 (s.data.toList.take k))) (fun _ v9 => s.size - (intOf v9).toNat)
  case atStart => exact ⟨0, 65535, Nat.zero_le _, rfl, rfl, rfl⟩
  case round =>
    obtain ⟨k, x, hk, rfl, rfl, hx⟩ := hrel
    have hxl : x < 65536 := by rw [Aside.out hx]; exact run_lt _ (by decide)
    by_cases hlt : k < s.size
    · obtain ⟨c, hc⟩ : ∃ c, s[k].toNat = c := ⟨_, rfl⟩
      have hcl : c < 256 := by rw [← hc]; exact s[k].toNat_lt
      have hj : (x % 256) ^^^ c < 256 := Nat.xor_lt_two_pow (n := 8) (by omega) hcl
      have hstep : Hid (run 65535 (s.data.toList.take (k + 1)) = next x c) := Lib.hid (by rw [run_take_succ s k hlt, ← Aside.out hx, hc])
      have iw := index_walk (x := x) hcl
      have nw := next_walk hxl hcl
      obtain ⟨j, hje⟩ : ∃ j, (x % 256) ^^^ c = j := ⟨_, rfl⟩
      rw [hje] at iw nw hj
      have hcj := HC.out j hj
      have HJ := Lib.hid hje
      clear hje
      go_wp2_with fail
      exact ⟨⟨k + 1, next x c, by omega, by go_num, rfl, hstep.out.symm⟩, by simp [intOf]; omega⟩
    · go_wp2_with fail
      go_ret
      refine ⟨?_, HB.out⟩
      have e : fcs s = 65535 ^^^ x := by
        rw [fcs, Aside.out hx, List.take_of_length_le (by simp; omega), Nat.xor_comm]
      have e2 : bits BinOp.xor IntKind.u16 IntKind.u16.max (x : Int) = ((65535 ^^^ x : Nat) : Int) := u16_xor_nat 65535 x (by decide) hxl
      have e3 := fcs_lt s
      rw [e2, ← e, IntWalk.wrap64_in _ (by omega)]
      rfl
theorem fcs_Of.calls (k : Nat) (a0 : ByteArray) (r : Int) (w : World) (h : fcs_Of.f k a0 = some r) :
    Calls Try.prog 10 #[.string a0] w fun e w' => e = .returned (.int .i64 r) ∧ Below w.heap.size w w' := by
  unfold fcs_Of.f at h
  split at h
  · rename_i hs
    obtain rfl := Option.some.inj h
    exact of_any a0 w hs
  · cases h

#print axioms fcs_Of.calls
end Go.Proofs.Ytelondenakcglaa.PF
