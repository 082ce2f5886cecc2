/-
New, Len and Next of timers, walked.
-/
import Derived.Test.YtphdmhjmaecddaaTms
import Derived.Test.YtphdmhjmaecddaaPile
namespace Go.Proofs.Ytphdmhjmaecddaa
open Go.RowKit Go.Proofs.YtphdmhjmaecddaaW.PrintWords Go.Proofs.YtphdmhjmaecddaaW.PrintLast Go.Proofs.YtphdmhjmaecddaaW.PrintMore

theorem new_tt (w : World) : TT ((w.alloc (.map #[] 0)).alloc (.cells #[.slice none 0 0, .map (some w.heap.size)] 56)) (w.heap.size + 1) [] (fun k => k < w.heap.size) := by
  refine ⟨⟨w.heap.size, .slice none 0 0, [], ⟨?_, ⟨rfl, .inl ⟨rfl, rfl⟩⟩, ⟨_, (IMap.made w).alloc _, Pl.nil⟩, fun _ h => (List.not_mem_nil h).elim, Nat.zero_le _⟩, Stands.nil, ?_⟩, fun k hk => ?_⟩
  · have := heap_alloc_new (w.alloc (.map #[] 0)) (.cells #[.slice none 0 0, .map (some w.heap.size)] 56)
    simpa using this
  · rintro k (rfl | rfl | h)
    · omega
    · omega
    · cases h
  · simp; omega

set_option maxRecDepth 100000 in
theorem new_walk (w : World) : Calls Try.prog 9 #[] w fun e w' => e = .returned (.pointer (some ⟨w.heap.size + 1, 0, none⟩)) ∧ TT w' (w.heap.size + 1) [] (fun k => k < w.heap.size) ∧ Below w.heap.size w w' := by
  have H := Lib.hid (new_tt w)
  have hmm := @run_makeMap Try.prog
  go_enter Try.func9, Try.ntmps9
  go_wp2_with fail
  go_ret
  refine ⟨rfl, H.out, ?_⟩
  exact below_alloc (below_alloc (Below.refl _ _) _) _

theorem tlen_walk {w : World} {A : Nat} {S : List Tm} {Q : Nat → Prop} (h : TT w A S Q) :
    Calls Try.prog 13 #[.pointer (some ⟨A, 0, none⟩)] w fun e w' => e = .returned (.int .i64 S.length) ∧ w = w' := by
  obtain ⟨⟨M, v, xs, h1, h2, h3⟩, h4⟩ := h
  obtain ⟨a, c, rfl⟩ := h1.slice
  have h0 := h1.cell0
  rw [← h2.perm.length_eq]
  clear h1 h2 h3 h4
  go_enter Try.func13, Try.ntmps13
  go_wp2_with fail
  go_ret
  exact ⟨rfl, rfl⟩

theorem Stands.first {xs S : List Tm} (h : Stands xs S) {x : Tm} {r : List Tm} (hS : S = x :: r) (hn : 0 < xs.length) : xs[0] = x := by
  subst hS
  have hx : xs[0] ∈ x :: r := h.perm.mem_iff.1 (List.getElem_mem hn)
  have hm : x ∈ xs := h.perm.mem_iff.2 (by simp)
  obtain ⟨j, hj, e⟩ := List.getElem_of_mem hm
  have h1 := heap_first h.heap j hj
  rw [at_eq hn, at_eq hj, e] at h1
  rcases List.mem_cons.1 hx with e | hx
  · exact e
  · have := (List.pairwise_cons.1 h.sorted).1 _ hx
    unfold le at h1
    rw [this] at h1
    exact absurd h1 (by simp)

set_option maxRecDepth 100000 in
set_option maxHeartbeats 1000000 in
theorem next_walk {w : World} {A : Nat} {S : List Tm} {Q : Nat → Prop} (h : TT w A S Q) :
    Calls Try.prog 19 #[.pointer (some ⟨A, 0, none⟩)] w fun e w' => e = .returned (nextV S) ∧ Below w.heap.size w w' := by
  obtain ⟨⟨M, v, xs, h1, h2, h3⟩, h4⟩ := h
  cases S with
  | nil =>
    have hl := h2.perm.length_eq
    obtain ⟨a, c, hv⟩ := h1.slice
    have h0 := h1.cell0
    rw [hv, hl] at h0
    clear h1 h2 h3 h4 hl hv
    go_enter Try.func19, Try.ntmps19
    go_wp2_with fail
    exact bodyPost_ret (v := .tuple #[.int .i64 0, .int .i64 0, .int .i64 1101]) (by simp [results, Try.results19, go_sem]) rfl ⟨rfl, Below.refl _ _⟩
  | cons x r =>
    have hl := h2.perm.length_eq
    simp only [List.length_cons] at hl
    have hx := h2.first rfl (by omega)
    obtain ⟨B, c, cur, hv, hB, _, _, _, htk⟩ := h1.lies (by omega)
    obtain ⟨hx1, hx2⟩ := row_cells hB htk 0 (by omega)
    rw [hx] at hx1 hx2
    have h0 := h1.cell0
    rw [hv, hl] at h0
    have k1 : (0 : Int) < ((r.length + 1 : Nat) : Int) := by omega
    have k2 : ¬ ((r.length + 1 : Nat) : Int) = 0 := by omega
    simp only [Nat.zero_mul, Nat.zero_add] at hx1 hx2
    clear h1 h2 h3 h4 hl hv hB htk hx
    go_enter Try.func19, Try.ntmps19
    go_wp2_with fail
    go_quiet (fail)
    go_wp2_with fail
    refine bodyPost_ret (v := .tuple #[.int .i64 x.1, .int .i64 x.2, .int .i64 0]) (by simp [results, Try.results19, go_sem]) rfl ⟨rfl, ?_⟩
    exact ⟨rfl, rfl, rfl, Nat.le_refl _, fun _ _ => rfl⟩
end Go.Proofs.Ytphdmhjmaecddaa
