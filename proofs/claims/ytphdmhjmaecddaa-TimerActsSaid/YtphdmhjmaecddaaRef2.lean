/-
The document's own timers: place and Stop, walked.
-/
import Derived.Test.YtphdmhjmaecddaaRef1
namespace Go.Proofs.Ytphdmhjmaecddaa
open Go.RowKit Go.Proofs.YtphdmhjmaecddaaW.PrintWords Go.Proofs.YtphdmhjmaecddaaW.PrintLast Go.Proofs.YtphdmhjmaecddaaW.PrintMore

/-- An id's place, or -1. -/
def PosIs (k : Int) (S : List Tm) (p : Int) : Prop := (has k S = false ∧ p = -1) ∨ ∃ (i : Nat) (hi : i < S.length), (S[i]).1 = k ∧ p = (i : Int)
def PlaceDone (k : Int) (S : List Tm) (w : World) (e : Ending) (w' : World) : Prop := ∃ p : Int, e = .returned (.int .i64 p) ∧ PosIs k S p ∧ w = w'

set_option maxRecDepth 100000 in
set_option maxHeartbeats 1000000 in
theorem place_walk {w : World} {b R : Nat} {v : Value} {S : List Tm} (h : RR w b R v S) (k : Int) (hm : S.length ≤ 1000000) :
    Calls Try.prog 24 #[.pointer (some ⟨R, 0, none⟩), .int .i64 k] w (PlaceDone k S w) := by
  obtain ⟨a, c, rfl, hc⟩ := h.form
  have c0 := h.cell
  have H := Lib.hid h
  have KEY := Lib.hid (show ∀ (i : Nat) (hi : i < S.length), ∃ B, a = some ⟨B, 0, none⟩ ∧ w.cell? ⟨B, i * 2, none⟩ = some (.int .i64 (S[i]).1) from fun i hi => by
    obtain ⟨B, c', e, _, _, _, hcell⟩ := h.lies (by omega)
    injection e with e1 e2 e3
    exact ⟨B, e1, (hcell i hi).1⟩)
  clear h hc
  go_enter Try.func24, Try.ntmps24
  go_wp2_with fail
  go_loopg [5] (S.length + 1) (fun m v5 wr => ∃ q : Nat, v5 = .int .i64 q ∧ q ≤ S.length ∧ S.length - q < m ∧ wr = w ∧ Aside (∀ (j : Nat) (hj : j < S.length), j < q → (S[j]).1 ≠ k))
  case atStart => exact ⟨0, rfl, Nat.zero_le _, by omega, rfl, fun _ _ h => absurd h (Nat.not_lt_zero _)⟩
  case round =>
    obtain ⟨q, rfl, hq, hqm, rfl, hs⟩ := hrel
    have HS := Lib.hid (Aside.out hs)
    clear hs
    have q0 : (0 : Int) ≤ (q : Int) := Int.natCast_nonneg _
    by_cases hlt : q < S.length
    · obtain ⟨B, e, g⟩ := KEY.out q hlt
      subst e
      have q1 : (q : Int) < (S.length : Int) := by omega
      have HX := Lib.hid (show ∃ z, (S[q]).1 = z from ⟨_, rfl⟩)
      obtain ⟨z, hz⟩ := HX.out
      rw [hz] at g
      have HZ := Lib.hid hz
      clear hz HX
      by_cases e : z = k
      · subst e
        go_wp2_with fail
        go_ret
        exact ⟨_, rfl, .inr ⟨q, hlt, HZ.out, rfl⟩, rfl⟩
      · go_wp2_with fail
        go_roundg (gk - 1)
        case measure => omega
        case rel =>
          refine ⟨q + 1, by go_num, by omega, by omega, rfl, ?_⟩
          intro j hj hjq
          by_cases ej : j = q
          · subst ej
            rw [HZ.out]
            exact e
          · exact HS.out j hj (by omega)
    · have q1 : ¬ (q : Int) < (S.length : Int) := by omega
      go_wp2_with fail
      go_ret
      refine ⟨_, rfl, .inl ⟨has_false.2 (fun x hx => ?_), rfl⟩, rfl⟩
      obtain ⟨j, hj, rfl⟩ := List.getElem_of_mem hx
      exact HS.out j hj (by omega)

theorem del_at {S : List Tm} (h : Ids S) {i : Nat} (hi : i < S.length) {k : Int} (hk : (S[i]).1 = k) : S.take i ++ S.drop (i + 1) = del k S := by
  have e : S = S.take i ++ S[i] :: S.drop (i + 1) := by rw [List.getElem_cons_drop, List.take_append_drop]
  have h2 : Ids (S.take i ++ S[i] :: S.drop (i + 1)) := e ▸ h
  obtain ⟨_, h3, h4⟩ := List.pairwise_append.1 h2
  obtain ⟨h5, _⟩ := List.pairwise_cons.1 h3
  have e1 : del k (S.take i) = S.take i := del_none (has_false.2 (fun x hx => by rw [← hk]; exact h4 x hx S[i] (List.mem_cons_self ..)))
  have e2 : del k (S.drop (i + 1)) = S.drop (i + 1) := del_none (has_false.2 (fun x hx => by rw [← hk]; exact (h5 x hx).symm))
  have e3 : del k S = del k (S.take i ++ S[i] :: S.drop (i + 1)) := by rw [← e]
  rw [e3]
  unfold del at e1 e2 ⊢
  rw [List.filter_append, List.filter_cons_of_neg (by simpa using hk), e1, e2]

/-- What a step on the document's timers has done. -/
structure RStep (w w' : World) (b R : Nat) (v v' : Value) (S' : List Tm) : Prop where
  rr : RR w' b R v' S'
  chg : Chg w w' (fun j => j = R)
  new : ∀ k, v'.ownBlock = some k → v.ownBlock = some k ∨ w.heap.size ≤ k
theorem RStep.refl {w : World} {b R : Nat} {v : Value} {S : List Tm} (h : RR w b R v S) : RStep w w b R v v S := ⟨h, Chg.refl _ _, fun _ hk => .inl hk⟩
theorem RStep.trans {w w1 w2 : World} {b R : Nat} {v v1 v2 : Value} {S1 S2 : List Tm} (h : RStep w w1 b R v v1 S1) (k : RStep w1 w2 b R v1 v2 S2) : RStep w w2 b R v v2 S2 :=
  ⟨k.rr, h.chg.then k.chg, fun i hi => by
    rcases k.new i hi with hi | hi
    · exact h.new i hi
    · exact .inr (Nat.le_trans h.chg.size hi)⟩

/-- A new row takes the old one's place. -/
theorem RR.stored {w w1 : World} {b R : Nat} {v v' : Value} {S S' : List Tm} (h : RR w b R v S) (hb : Below w.heap.size w w1) (hr : w1.ownsRow w.heap.size 47 2 v' S'.length (flat S')) :
    RStep w (w1.setCell ⟨R, 0, none⟩ v') b R v v' S' := by
  have hc : Chg w1 (w1.setCell ⟨R, 0, none⟩ v') (fun j => j = R) := Chg.setCell w1 ⟨R, 0, none⟩ _ _ rfl
  have hlt := h.lt
  have hle := h.low
  have hne : ∀ k, v'.ownBlock = some k → w.heap.size ≤ k := fun k hk => by
    rcases hr.2 with ⟨rfl, _⟩ | ⟨g, cap, cur, rfl, h0, _⟩
    · cases hk
    · injection hk with hk
      have hk : g = k := hk
      omega
  have hh : w1.heap[R]? = some (.cells #[v] 39 (0, 0)) := (hb.block R hlt).trans h.head
  refine ⟨⟨?_, ?_, hle⟩, (Chg.of_below hb _).then hc, fun k hk => .inr (hne k hk)⟩
  · exact heap_setCell_same w1 R 0 _ 39 _ hh
  · refine own_mono (b' := w.heap.size) ⟨hr.1, ?_⟩ (by omega)
    rcases hr.2 with hn | ⟨g, cap, cur, rfl, h0, h1, r⟩
    · exact .inl hn
    · exact .inr ⟨g, cap, cur, rfl, h0, (hc.block g (Array.getElem?_eq_some_iff.1 h1).1 (fun e => by omega)).trans h1, r⟩
def RStopDone (k : Int) (S : List Tm) (w : World) (b R : Nat) (v : Value) (e : Ending) (w' : World) : Prop := ∃ v', e = .returned (.int .i64 (stopE k S)) ∧ RStep w w' b R v v' (del k S)

theorem nil_row (w : World) (base : Nat) : w.ownsRow base 47 2 (.slice none 0 0) ([] : List Tm).length (flat []) := ⟨rfl, .inl ⟨rfl, rfl⟩⟩
theorem grown_below {w w' : World} {base : Nat} {v : Value} {n : Nat} {fs : List Value} {e : TypeId} {size : Nat} (h : w.ownsRow base e size v n fs) (hb : base ≤ w.heap.size) (hg : w.grownBy w' v.ownBlock) : Below base w w' :=
  ⟨hg.os, hg.tape, hg.output, hg.size, fun k hk => by
    refine hg.block k (by omega) (fun e => ?_)
    rcases h.2 with ⟨rfl, _⟩ | ⟨g, cap, cur, rfl, h0, _⟩
    · cases e
    · injection e with e
      have e : k = g := e
      omega⟩

theorem below_trans' {B : Nat} {w w1 w2 : World} (h : Below B w w1) (k : Below B w1 w2) : Below B w w2 :=
  ⟨k.os.trans h.os, k.tape.trans h.tape, k.output.trans h.output, Nat.le_trans h.size k.size, fun j hj => (k.block j hj).trans (h.block j hj)⟩
theorem part_below {w w' : World} {u : Value} {ys : List Tm} (h : Part w u ys) (hb : Below w.heap.size w w') : Part w' u ys :=
  part_keep h (fun _ _ hx => (hb.cell (World.block_lt_of_cell? w _ hx)).trans hx)

set_option maxRecDepth 100000 in
set_option maxHeartbeats 2000000 in
theorem rstop_walk {w : World} {b R : Nat} {v : Value} {S : List Tm} (h : RR w b R v S) (hids : Ids S) (k : Int) (hm : S.length ≤ 256) :
    Calls Try.prog 17 #[.pointer (some ⟨R, 0, none⟩), .int .i64 k] w (RStopDone k S w b R v) := by
  have PL := Lib.hid (place_walk h k (by omega))
  have c0 := h.cell
  have f0 := h.frozen
  have H := Lib.hid h
  have lt0 := h.lt
  clear h
  go_enter Try.func17, Try.ntmps17
  go_wp2_with fail
  go_at_call 24
  refine PL.out.mono ?_
  rintro e w1 ⟨p, rfl, hp, rfl⟩
  rcases hp with ⟨hh, rfl⟩ | ⟨i, hi, hk, rfl⟩
  · have HH := Lib.hid hh
    clear hh
    go_wp2_with fail
    go_ret
    exact ⟨v, by rw [stopE, HH.out]; rfl, by rw [del_none HH.out]; exact RStep.refl H.out⟩
  · obtain ⟨u1, hu1, p1⟩ := part_to H.out.row i (by omega)
    obtain ⟨u2, hu2, p2⟩ := part_from H.out.row (i + 1) (by omega)
    have hd := del_at hids hi hk
    have hh : has k S = true := has_iff.2 ⟨_, List.getElem_mem hi, hk⟩
    have HP1 := Lib.hid p1
    have HP2 := Lib.hid p2
    have HD := Lib.hid hd
    have HH := Lib.hid hh
    have HI := Lib.hid hi
    have i0 : (0 : Int) ≤ (i : Int) := Int.natCast_nonneg _
    have i1 : (i : Int) < 256 := by omega
    rw [show (((i + 1 : Nat) : Int)) = (i : Int) + 1 by omega] at hu2
    clear p1 p2 hd hh hk hi PL
    have hm2 := Lib.hid hm
    clear hm
    have lt0' : (⟨R, 0, none⟩ : Addr).block < w.heap.size := lt0
    go_wp2_with (first
      | (at_builtin; refine wpList_append_part rfl _ _ rfl rfl rfl (nil_row w w.heap.size) HP1.out (by have := hm2.out; simp only [List.length_nil, List.length_take]; omega) (Nat.le_refl _) ?_; intro v1 w1 hr1 hg1 hat1; clear hat1; have bb1 := grown_below (nil_row w w.heap.size) (Nat.le_refl _) hg1; have c1 := (bb1.cell lt0').trans c0; have HP2' := Lib.hid (part_below HP2.out bb1); have hz1 := bb1.size; have BB1 := Lib.hid bb1; have HR1 := Lib.hid hr1; clear hg1 c0 f0 hr1 bb1)
      | (at_builtin; refine wpList_append_part rfl _ _ rfl rfl rfl HR1.out HP2'.out (by have := hm2.out; simp only [List.nil_append, List.length_take, List.length_drop]; omega) hz1 ?_; intro v2 w2 hr2 hg2 hat2; clear hat2; have bb2 := below_trans' BB1.out (grown_below HR1.out hz1 hg2); have c2 := (bb2.cell lt0').trans H.out.cell; have f2 := (bb2.frozen lt0').trans H.out.frozen; rw [List.nil_append, HD.out] at hr2; obtain ⟨a2, k2, rfl⟩ := row_form hr2; have ST := Lib.hid (H.out.stored bb2 hr2); clear hg2 bb2 hr2))
    go_ret
    exact ⟨_, by rw [stopE, HH.out]; rfl, ST.out⟩
end Go.Proofs.Ytphdmhjmaecddaa
