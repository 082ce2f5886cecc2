-- PRINTED BY print.sh 35421559b90ae4d0a3588c463048766b98c2df88dd9212a6774a882060cdf62d: not written by this session
import Derived.Test.YtpjjacdefafakaaPDelayBoundsx0
namespace Go.Proofs.Ytpjjacdefafakaa.PDelayBounds
open Go.RowKit Go.Proofs.YtpjjacdefafakaaW.PrintWords Go.Proofs.YtpjjacdefafakaaW.PrintLast Go.Proofs.YtpjjacdefafakaaW.PrintMore
attribute [local go_sem] max2_int min2_int max_two min_two max_three min_three max_four min_four   -- for this text's walks alone
set_option linter.unusedVariables false
set_option linter.unusedSimpArgs false

/-! ### backoff_Delay: function 8 -/
mutual
def backoff_Delay.j0 : Nat → Int → Int → Int → Int → Bool → Option (Int × Int)
  | 0, _, _, _, _, _ => none
  | k + 1, x0, x1, x2, x3, x37 => if x37 = true then (some (0, 1200)) else (backoff_Delay.l0 k x2 x3 x1 x0 0)
def backoff_Delay.l0 : Nat → Int → Int → Int → Int → Int → Option (Int × Int)
  | 0, _, _, _, _, _ => none
  | k + 1, x2, x3, x10, x39, x40 => if x40 < x39 then (if x10 > (wrap64 (Int.tdiv x2 2)) then (if (wrap64 ((wrap64 (Int.tdiv x2 4)) + 1)) = 0 then (none) else (some (wrap64 (x2 - (Int.tmod x3 (wrap64 ((wrap64 (Int.tdiv x2 4)) + 1)))), 0))) else (backoff_Delay.l0 k x2 x3 (wrap64 (x10 * 2)) x39 (wrap64 (x40 + 1)))) else (if (wrap64 ((wrap64 (Int.tdiv x10 4)) + 1)) = 0 then (none) else (some (wrap64 (x10 - (Int.tmod x3 (wrap64 ((wrap64 (Int.tdiv x10 4)) + 1)))), 0)))
end
def backoff_Delay.f (k : Nat) (a0 : Int) (a1 : Int) (a2 : Int) (a3 : Int) : Option (Int × Int) := if a0 < 0 then (backoff_Delay.j0 k a0 a1 a2 a3 true) else (if a0 > 62 then (backoff_Delay.j0 k a0 a1 a2 a3 true) else (if a1 < 1 then (backoff_Delay.j0 k a0 a1 a2 a3 true) else (if a1 > 4096 then (backoff_Delay.j0 k a0 a1 a2 a3 true) else (if a2 < a1 then (backoff_Delay.j0 k a0 a1 a2 a3 true) else (if a2 > 4096 then (backoff_Delay.j0 k a0 a1 a2 a3 true) else (backoff_Delay.j0 k a0 a1 a2 a3 (decide (a3 < 0))))))))
theorem backoff_Delay.mono_l : ∀ k, (∀ y0 y1 y2 y3 y4, LeO (backoff_Delay.j0 k y0 y1 y2 y3 y4) (backoff_Delay.j0 (k + 1) y0 y1 y2 y3 y4)) ∧ (∀ y0 y1 y2 y3 y4, LeO (backoff_Delay.l0 k y0 y1 y2 y3 y4) (backoff_Delay.l0 (k + 1) y0 y1 y2 y3 y4))
  | 0 => ⟨fun _ _ _ _ _ r h => by simp [backoff_Delay.j0] at h, fun _ _ _ _ _ r h => by simp [backoff_Delay.l0] at h⟩
  | k + 1 => by
    obtain ⟨ih0, ih1⟩ := backoff_Delay.mono_l k
    refine ⟨?_, ?_⟩
    · intro y0 y1 y2 y3 y4
      unfold backoff_Delay.j0
      repeat' first
      | (with_reducible exact ih0 _ _ _ _ _)
      | (with_reducible exact ih1 _ _ _ _ _)
      | (with_reducible exact LeO.refl _)
      | (with_reducible exact LeO.none _)
      | (with_reducible refine LeO.ite ?_ ?_)
      | (with_reducible refine LeO.bind ?_ (fun _ => ?_))
      | exact ih0 _ _ _ _ _
      | exact ih1 _ _ _ _ _
      | exact LeO.none _
      | refine LeO.ite ?_ ?_
      | refine LeO.bind ?_ (fun _ => ?_)
    · intro y0 y1 y2 y3 y4
      unfold backoff_Delay.l0
      repeat' first
      | (with_reducible exact ih0 _ _ _ _ _)
      | (with_reducible exact ih1 _ _ _ _ _)
      | (with_reducible exact LeO.refl _)
      | (with_reducible exact LeO.none _)
      | (with_reducible refine LeO.ite ?_ ?_)
      | (with_reducible refine LeO.bind ?_ (fun _ => ?_))
      | exact ih0 _ _ _ _ _
      | exact ih1 _ _ _ _ _
      | exact LeO.none _
      | refine LeO.ite ?_ ?_
      | refine LeO.bind ?_ (fun _ => ?_)
theorem backoff_Delay.mono : ∀ a0 a1 a2 a3 k, LeO (backoff_Delay.f k a0 a1 a2 a3) (backoff_Delay.f (k + 1) a0 a1 a2 a3) := by
  intro a0 a1 a2 a3 k
  obtain ⟨ih0, ih1⟩ := backoff_Delay.mono_l k
  unfold backoff_Delay.f
  repeat' first
      | (with_reducible exact ih0 _ _ _ _ _)
      | (with_reducible exact ih1 _ _ _ _ _)
      | (with_reducible exact LeO.refl _)
      | (with_reducible exact LeO.none _)
      | (with_reducible refine LeO.ite ?_ ?_)
      | (with_reducible refine LeO.bind ?_ (fun _ => ?_))
      | exact ih0 _ _ _ _ _
      | exact ih1 _ _ _ _ _
      | exact LeO.none _
      | refine LeO.ite ?_ ?_
      | refine LeO.bind ?_ (fun _ => ?_)
set_option maxHeartbeats 8000000 in
set_option maxRecDepth 100000 in
theorem backoff_Delay.calls (k : Nat) (a0 : Int) (a1 : Int) (a2 : Int) (a3 : Int) (r1 : Int) (r2 : Int) (w : World) (h : backoff_Delay.f k a0 a1 a2 a3 = some (r1, r2)) :
    Calls Try.prog 8 #[.int .i64 a0, .int .i64 a1, .int .i64 a2, .int .i64 a3] w fun e w' => e = .returned (.tuple #[.int .i64 r1, .int .i64 r2]) ∧ Drawn0 w w' := by
  have H : (if a0 < 0 then (backoff_Delay.j0 k a0 a1 a2 a3 true) else (if a0 > 62 then (backoff_Delay.j0 k a0 a1 a2 a3 true) else (if a1 < 1 then (backoff_Delay.j0 k a0 a1 a2 a3 true) else (if a1 > 4096 then (backoff_Delay.j0 k a0 a1 a2 a3 true) else (if a2 < a1 then (backoff_Delay.j0 k a0 a1 a2 a3 true) else (if a2 > 4096 then (backoff_Delay.j0 k a0 a1 a2 a3 true) else (backoff_Delay.j0 k a0 a1 a2 a3 (decide (a3 < 0))))))))) = some (r1, r2) := h
  clear h
  have HC5 := Aside0.mk H
  clear H
  go_enter Try.func8, Try.ntmps8
  go_upto_region 1 with (fail)
  go_cut [37] (fun v37 wc => ∃ (kq : Nat) (x37_4 : Bool), v37 = .bool x37_4 ∧ Aside0 (backoff_Delay.j0 kq a0 a1 a2 a3 x37_4 = some (r1, r2)) ∧ Aside0 (kq ≤ k) ∧ Drawn0 w wc)
  case first =>
    have H := HC5.out
    clear HC5
    by_cases c6 : a0 < 0
    · rw [if_pos c6] at H
      have c6b0 : decide (a0 < 0) = true := decide_eq_true c6
      clear c6
      (first | rw [c6b0] | (simp only [i64_w, i32_w]; rw [c6b0]) | skip)
      have H' := Aside0.mk H
      clear H
      go_wp2
      go_meet
      case rel => exact ⟨_, (true), (by first | rfl | (simp; done) | (simp [*]; done)), H', ⟨by first | omega | exact Nat.le_refl _⟩, by repeat (first | exact Drawn0.refl _ | apply Drawn0.step)⟩
    · rw [if_neg c6] at H
      have c6b0 : decide (a0 < 0) = false := decide_eq_false c6
      clear c6
      (first | rw [c6b0] | (simp only [i64_w, i32_w]; rw [c6b0]) | skip)
      by_cases c7 : a0 > 62
      · rw [if_pos c7] at H
        have c7b0 : decide (62 < a0) = true := decide_eq_true c7
        clear c7
        have H' := Aside0.mk H
        clear H
        go_wp2
        go_meet
        case rel => exact ⟨_, (true), (by first | rfl | (simp; done) | (simp [*]; done)), H', ⟨by first | omega | exact Nat.le_refl _⟩, by repeat (first | exact Drawn0.refl _ | apply Drawn0.step)⟩
      · rw [if_neg c7] at H
        have c7b0 : decide (62 < a0) = false := decide_eq_false c7
        clear c7
        by_cases c8 : a1 < 1
        · rw [if_pos c8] at H
          have c8b0 : decide (a1 < 1) = true := decide_eq_true c8
          clear c8
          have H' := Aside0.mk H
          clear H
          go_wp2
          go_meet
          case rel => exact ⟨_, (true), (by first | rfl | (simp; done) | (simp [*]; done)), H', ⟨by first | omega | exact Nat.le_refl _⟩, by repeat (first | exact Drawn0.refl _ | apply Drawn0.step)⟩
        · rw [if_neg c8] at H
          have c8b0 : decide (a1 < 1) = false := decide_eq_false c8
          clear c8
          by_cases c9 : a1 > 4096
          · rw [if_pos c9] at H
            have c9b0 : decide (4096 < a1) = true := decide_eq_true c9
            clear c9
            have H' := Aside0.mk H
            clear H
            go_wp2
            go_meet
            case rel => exact ⟨_, (true), (by first | rfl | (simp; done) | (simp [*]; done)), H', ⟨by first | omega | exact Nat.le_refl _⟩, by repeat (first | exact Drawn0.refl _ | apply Drawn0.step)⟩
          · rw [if_neg c9] at H
            have c9b0 : decide (4096 < a1) = false := decide_eq_false c9
            clear c9
            by_cases c10 : a2 < a1
            · rw [if_pos c10] at H
              have c10b0 : decide (a2 < a1) = true := decide_eq_true c10
              clear c10
              have H' := Aside0.mk H
              clear H
              go_wp2
              go_meet
              case rel => exact ⟨_, (true), (by first | rfl | (simp; done) | (simp [*]; done)), H', ⟨by first | omega | exact Nat.le_refl _⟩, by repeat (first | exact Drawn0.refl _ | apply Drawn0.step)⟩
            · rw [if_neg c10] at H
              have c10b0 : decide (a2 < a1) = false := decide_eq_false c10
              clear c10
              by_cases c11 : a2 > 4096
              · rw [if_pos c11] at H
                have c11b0 : decide (4096 < a2) = true := decide_eq_true c11
                clear c11
                have H' := Aside0.mk H
                clear H
                go_wp2
                go_meet
                case rel => exact ⟨_, (true), (by first | rfl | (simp; done) | (simp [*]; done)), H', ⟨by first | omega | exact Nat.le_refl _⟩, by repeat (first | exact Drawn0.refl _ | apply Drawn0.step)⟩
              · rw [if_neg c11] at H
                have c11b0 : decide (4096 < a2) = false := decide_eq_false c11
                clear c11
                have H' := Aside0.mk H
                clear H
                go_wp2
                go_meet
                case rel => exact ⟨_, (decide (a3 < 0)), (by first | rfl | (simp; done) | (simp [*]; done)), H', ⟨by first | omega | exact Nat.le_refl _⟩, by repeat (first | exact Drawn0.refl _ | apply Drawn0.step)⟩
  case rest =>
    clear HC5
    try clear c1
    try clear p2
    try clear c6
    try clear c6b0
    try clear c7
    try clear c7b0
    try clear c8
    try clear c8b0
    try clear c9
    try clear c9b0
    try clear c10
    try clear c10b0
    try clear c11
    try clear c11b0
    obtain ⟨kq, x37_4, rfl, HA, HJ4, ⟨mc4, rfl⟩⟩ := hcut
    cases kq with
    | zero => exact absurd HA.out (by simp [backoff_Delay.j0])
    | succ kj4 =>
      have H := HA.out
      clear HA
      simp only [backoff_Delay.j0] at H
      by_cases c12 : x37_4 = true
      · subst c12
        have H1 : (some (0, 1200)) = some (r1, r2) := by rw [if_pos rfl] at H; exact H
        clear H
        have H := H1
        clear H1
        simp only [Option.some.injEq, Prod.mk.injEq] at H
        obtain ⟨rfl, rfl⟩ := H
        go_wp2
        go_ret2
        exact ⟨by first | rfl | (simp; done) | (simp [*]; done), by repeat (first | exact Drawn0.refl _ | apply Drawn0.step)⟩
      · replace c12 := Bool.eq_false_iff.mpr c12
        subst c12
        have H1 : (backoff_Delay.l0 kj4 a2 a3 a1 a0 0) = some (r1, r2) := by rw [if_neg (show ¬ (false = true) by decide)] at H; exact H
        clear H
        have H := H1
        clear H1
        have H' := Aside0.mk H
        clear H
        go_wp2
        go_loopg [10, 40] kj4 (fun kq v10 v40 w' => ∃ (x10_2 : Int) (x40_2 : Int), v10 = .int .i64 x10_2 ∧ v40 = .int .i64 x40_2 ∧ Aside0 (backoff_Delay.l0 kq a2 a3 x10_2 a0 x40_2 = some (r1, r2)) ∧ Aside0 (kq ≤ kj4) ∧ Drawn0 w w')
        case atStart => exact ⟨(a1), (0), (by first | rfl | (simp; done) | (simp [*]; done)), (by first | rfl | (simp; done) | (simp [*]; done)), H', ⟨Nat.le_refl _⟩, by repeat (first | exact Drawn0.refl _ | apply Drawn0.step)⟩
        case round =>
          clear H'
          try clear c1
          try clear p2
          try clear c4
          try clear c6
          try clear c6b0
          try clear c7
          try clear c7b0
          try clear c8
          try clear c8b0
          try clear c9
          try clear c9b0
          try clear c10
          try clear c10b0
          try clear c11
          try clear c11b0
          try clear c12
          try clear p2
          obtain ⟨x10_2, x40_2, rfl, rfl, HA, HK2, ⟨m2, rfl⟩⟩ := hrel
          cases gk with
          | zero => exact absurd HA.out (by simp [backoff_Delay.l0])
          | succ k2 =>
            have H := HA.out
            clear HA
            simp only [backoff_Delay.l0] at H
            by_cases c13 : x40_2 < a0
            · rw [if_pos c13] at H
              have c13b0 : decide (x40_2 < a0) = true := decide_eq_true c13
              clear c13
              by_cases c14 : x10_2 > (wrap64 (Int.tdiv a2 2))
              · rw [if_pos c14] at H
                have c14b0 : decide ((wrap64 (Int.tdiv a2 2)) < x10_2) = true := decide_eq_true c14
                clear c14
                by_cases c15 : (wrap64 ((wrap64 (Int.tdiv a2 4)) + 1)) = 0
                · rw [if_pos c15] at H
                  exact absurd H (by simp)
                · rw [if_neg c15] at H
                  have c15b0 : ((wrap64 ((wrap64 (Int.tdiv a2 4)) + 1)) == 0) = false := beq_eq_false_iff_ne.mpr c15
                  have c15b1 : ((wrap64 ((wrap64 (Int.tdiv a2 4)) + 1)) != 0) = true := bne_iff_ne.mpr c15
                  simp only [Option.some.injEq, Prod.mk.injEq] at H
                  obtain ⟨rfl, rfl⟩ := H
                  go_wp2
                  go_ret2
                  exact ⟨by first | rfl | (simp; done) | (simp [*]; done), by repeat (first | exact Drawn0.refl _ | apply Drawn0.step)⟩
              · rw [if_neg c14] at H
                have c14b0 : decide ((wrap64 (Int.tdiv a2 2)) < x10_2) = false := decide_eq_false c14
                clear c14
                have H' := Aside0.mk H
                clear H
                go_wp2
                go_roundg k2
                case measure => have := HJ4.out; have := HK2.out; omega
                case rel => exact ⟨(wrap64 (x10_2 * 2)), (wrap64 (x40_2 + 1)), (by first | rfl | (simp; done) | (simp [*]; done)), (by first | rfl | (simp; done) | (simp [*]; done)), H', ⟨by have := HJ4.out; have := HK2.out; omega⟩, by repeat (first | exact Drawn0.refl _ | apply Drawn0.step)⟩
            · rw [if_neg c13] at H
              have c13b0 : decide (x40_2 < a0) = false := decide_eq_false c13
              clear c13
              by_cases c16 : (wrap64 ((wrap64 (Int.tdiv x10_2 4)) + 1)) = 0
              · rw [if_pos c16] at H
                exact absurd H (by simp)
              · rw [if_neg c16] at H
                have c16b0 : ((wrap64 ((wrap64 (Int.tdiv x10_2 4)) + 1)) == 0) = false := beq_eq_false_iff_ne.mpr c16
                have c16b1 : ((wrap64 ((wrap64 (Int.tdiv x10_2 4)) + 1)) != 0) = true := bne_iff_ne.mpr c16
                simp only [Option.some.injEq, Prod.mk.injEq] at H
                obtain ⟨rfl, rfl⟩ := H
                go_wp2
                go_ret2
                exact ⟨by first | rfl | (simp; done) | (simp [*]; done), by repeat (first | exact Drawn0.refl _ | apply Drawn0.step)⟩

/-! ### withylaw0_Num: function 10 -/
def withylaw0_Num.f (a0 : Int) : Option (Int) := some a0
set_option maxHeartbeats 8000000 in
set_option maxRecDepth 100000 in
theorem withylaw0_Num.calls (a0 : Int) (r : Int) (w : World) (h : withylaw0_Num.f a0 = some r) :
    Calls Try.prog 10 #[.int .i64 a0] w fun e w' => e = .returned (.int .i64 r) ∧ Drawn0 w w' := by
  have H : (some a0) = some r := h
  clear h
  obtain rfl := Option.some.inj H
  go_enter Try.func10, Try.ntmps10
  go_wp2
  go_ret
  exact ⟨by first | rfl | (simp; done) | (simp [*]; done), by repeat (first | exact Drawn0.refl _ | apply Drawn0.step)⟩

/-! ### withylaw12_awake: function 11 -/
def withylaw12_awake.f (k : Nat)  : Option (Bool) := (backoff_Delay.f k 3 2 10 0).bind fun bt101 => ((backoff_Delay.f k 1 2 10 1).bind fun bt103 => ((backoff_Delay.f k (-1) 2 10 0).bind fun bt105 => (if bt101.1 = 10 then ((withylaw0_Num.f bt101.2).bind fun t107 => (if t107 = 0 then (if bt103.1 = 3 then ((withylaw0_Num.f bt103.2).bind fun t108 => (if t108 = 0 then ((withylaw0_Num.f bt105.2).bind fun t109 => (some (t109 == 1200))) else (some false))) else (some false)) else (some false))) else (some false))))
theorem withylaw12_awake.mono : ∀ k, LeO (withylaw12_awake.f k ) (withylaw12_awake.f (k + 1) ) := by
  intro  k
  unfold withylaw12_awake.f
  repeat' first
      | (with_reducible exact backoff_Delay.mono _ _ _ _ _)
      | (with_reducible exact LeO.refl _)
      | (with_reducible exact LeO.none _)
      | (with_reducible refine LeO.ite ?_ ?_)
      | (with_reducible refine LeO.bind ?_ (fun _ => ?_))
      | exact backoff_Delay.mono _ _ _ _ _
      | exact LeO.none _
      | refine LeO.ite ?_ ?_
      | refine LeO.bind ?_ (fun _ => ?_)
set_option maxHeartbeats 8000000 in
set_option maxRecDepth 100000 in
theorem withylaw12_awake.calls (k : Nat)  (r : Bool) (w : World) (h : withylaw12_awake.f k  = some r) :
    Calls Try.prog 11 #[] w fun e w' => e = .returned (.bool r) ∧ Drawn0 w w' := by
  have H : ((backoff_Delay.f k 3 2 10 0).bind fun bt101 => ((backoff_Delay.f k 1 2 10 1).bind fun bt103 => ((backoff_Delay.f k (-1) 2 10 0).bind fun bt105 => (if bt101.1 = 10 then ((withylaw0_Num.f bt101.2).bind fun t107 => (if t107 = 0 then (if bt103.1 = 3 then ((withylaw0_Num.f bt103.2).bind fun t108 => (if t108 = 0 then ((withylaw0_Num.f bt105.2).bind fun t109 => (some (t109 == 1200))) else (some false))) else (some false)) else (some false))) else (some false))))) = some r := h
  clear h
  replace H := Option.bind_eq_some_iff.mp H
  obtain ⟨⟨t101, t102⟩, A10, H⟩ := H
  replace H : ((backoff_Delay.f k 1 2 10 1).bind fun bt103 => ((backoff_Delay.f k (-1) 2 10 0).bind fun bt105 => (if t101 = 10 then ((withylaw0_Num.f t102).bind fun t107 => (if t107 = 0 then (if bt103.1 = 3 then ((withylaw0_Num.f bt103.2).bind fun t108 => (if t108 = 0 then ((withylaw0_Num.f bt105.2).bind fun t109 => (some (t109 == 1200))) else (some false))) else (some false)) else (some false))) else (some false)))) = some r := H
  have A1 := Aside0.mk A10
  clear A10
  replace H := Option.bind_eq_some_iff.mp H
  obtain ⟨⟨t103, t104⟩, A20, H⟩ := H
  replace H : ((backoff_Delay.f k (-1) 2 10 0).bind fun bt105 => (if t101 = 10 then ((withylaw0_Num.f t102).bind fun t107 => (if t107 = 0 then (if t103 = 3 then ((withylaw0_Num.f t104).bind fun t108 => (if t108 = 0 then ((withylaw0_Num.f bt105.2).bind fun t109 => (some (t109 == 1200))) else (some false))) else (some false)) else (some false))) else (some false))) = some r := H
  have A2 := Aside0.mk A20
  clear A20
  replace H := Option.bind_eq_some_iff.mp H
  obtain ⟨⟨t105, t106⟩, A30, H⟩ := H
  replace H : (if t101 = 10 then ((withylaw0_Num.f t102).bind fun t107 => (if t107 = 0 then (if t103 = 3 then ((withylaw0_Num.f t104).bind fun t108 => (if t108 = 0 then ((withylaw0_Num.f t106).bind fun t109 => (some (t109 == 1200))) else (some false))) else (some false)) else (some false))) else (some false)) = some r := H
  have A3 := Aside0.mk A30
  clear A30
  by_cases c4 : t101 = 10
  · rw [if_pos c4] at H
    have c4b0 : (t101 == 10) = true := beq_iff_eq.mpr c4
    have c4b1 : (t101 != 10) = false := bne_eq_false_iff_eq.mpr c4
    clear c4
    replace H := Option.bind_eq_some_iff.mp H
    obtain ⟨t107, A50, H⟩ := H
    replace H : (if t107 = 0 then (if t103 = 3 then ((withylaw0_Num.f t104).bind fun t108 => (if t108 = 0 then ((withylaw0_Num.f t106).bind fun t109 => (some (t109 == 1200))) else (some false))) else (some false)) else (some false)) = some r := H
    have A5 := Aside0.mk A50
    clear A50
    by_cases c6 : t107 = 0
    · rw [if_pos c6] at H
      have c6b0 : (t107 == 0) = true := beq_iff_eq.mpr c6
      have c6b1 : (t107 != 0) = false := bne_eq_false_iff_eq.mpr c6
      clear c6
      by_cases c7 : t103 = 3
      · rw [if_pos c7] at H
        have c7b0 : (t103 == 3) = true := beq_iff_eq.mpr c7
        have c7b1 : (t103 != 3) = false := bne_eq_false_iff_eq.mpr c7
        clear c7
        replace H := Option.bind_eq_some_iff.mp H
        obtain ⟨t108, A80, H⟩ := H
        replace H : (if t108 = 0 then ((withylaw0_Num.f t106).bind fun t109 => (some (t109 == 1200))) else (some false)) = some r := H
        have A8 := Aside0.mk A80
        clear A80
        by_cases c9 : t108 = 0
        · rw [if_pos c9] at H
          have c9b0 : (t108 == 0) = true := beq_iff_eq.mpr c9
          have c9b1 : (t108 != 0) = false := bne_eq_false_iff_eq.mpr c9
          clear c9
          replace H := Option.bind_eq_some_iff.mp H
          obtain ⟨t109, A100, H⟩ := H
          replace H : (some (t109 == 1200)) = some r := H
          have A10 := Aside0.mk A100
          clear A100
          obtain rfl := Option.some.inj H
          go_enter Try.func11, Try.ntmps11
          go_wp2_with (first | ((with_reducible refine gate_callee (f := 8) rfl ?_); refine goesL_ (some 8) rfl rfl Try.func8 (by kernel_rfl) rfl #[.int .i64 3, .int .i64 2, .int .i64 10, .int .i64 0] rfl (by (try simp only [List.map_toArray, List.map_cons, List.map_nil]); first | done | rfl | (simp only [List.length_drop, List.length_take]; rfl)) ?_; (with_reducible refine (backoff_Delay.calls k 3 2 10 0 t101 t102 _ A1.out).mono ?_); rintro e w' ⟨rfl, ⟨nd, rfl⟩⟩; refine ⟨_, rfl, ?_⟩) | ((with_reducible refine gate_callee (f := 8) rfl ?_); refine goesL_ (some 12) rfl rfl Try.func8 (by kernel_rfl) rfl #[.int .i64 1, .int .i64 2, .int .i64 10, .int .i64 1] rfl (by (try simp only [List.map_toArray, List.map_cons, List.map_nil]); first | done | rfl | (simp only [List.length_drop, List.length_take]; rfl)) ?_; (with_reducible refine (backoff_Delay.calls k 1 2 10 1 t103 t104 _ A2.out).mono ?_); rintro e w' ⟨rfl, ⟨nd, rfl⟩⟩; refine ⟨_, rfl, ?_⟩) | ((with_reducible refine gate_callee (f := 8) rfl ?_); refine goesL_ (some 16) rfl rfl Try.func8 (by kernel_rfl) rfl #[.int .i64 (-1), .int .i64 2, .int .i64 10, .int .i64 0] rfl (by (try simp only [List.map_toArray, List.map_cons, List.map_nil]); first | done | rfl | (simp only [List.length_drop, List.length_take]; rfl)) ?_; (with_reducible refine (backoff_Delay.calls k (-1) 2 10 0 t105 t106 _ A3.out).mono ?_); rintro e w' ⟨rfl, ⟨nd, rfl⟩⟩; refine ⟨_, rfl, ?_⟩) | (go_at_call 10; (with_reducible refine (withylaw0_Num.calls t102 t107 _ A5.out).mono ?_); rintro e w' ⟨rfl, ⟨nd, rfl⟩⟩) | (go_at_call 10; (with_reducible refine (withylaw0_Num.calls t104 t108 _ A8.out).mono ?_); rintro e w' ⟨rfl, ⟨nd, rfl⟩⟩) | (go_at_call 10; (with_reducible refine (withylaw0_Num.calls t106 t109 _ A10.out).mono ?_); rintro e w' ⟨rfl, ⟨nd, rfl⟩⟩))
          go_ret
          exact ⟨by first | rfl | (simp; done) | (simp [*]; done), by repeat (first | exact Drawn0.refl _ | apply Drawn0.step)⟩
        · rw [if_neg c9] at H
          have c9b0 : (t108 == 0) = false := beq_eq_false_iff_ne.mpr c9
          have c9b1 : (t108 != 0) = true := bne_iff_ne.mpr c9
          obtain rfl := Option.some.inj H
          go_enter Try.func11, Try.ntmps11
          go_wp2_with (first | ((with_reducible refine gate_callee (f := 8) rfl ?_); refine goesL_ (some 8) rfl rfl Try.func8 (by kernel_rfl) rfl #[.int .i64 3, .int .i64 2, .int .i64 10, .int .i64 0] rfl (by (try simp only [List.map_toArray, List.map_cons, List.map_nil]); first | done | rfl | (simp only [List.length_drop, List.length_take]; rfl)) ?_; (with_reducible refine (backoff_Delay.calls k 3 2 10 0 t101 t102 _ A1.out).mono ?_); rintro e w' ⟨rfl, ⟨nd, rfl⟩⟩; refine ⟨_, rfl, ?_⟩) | ((with_reducible refine gate_callee (f := 8) rfl ?_); refine goesL_ (some 12) rfl rfl Try.func8 (by kernel_rfl) rfl #[.int .i64 1, .int .i64 2, .int .i64 10, .int .i64 1] rfl (by (try simp only [List.map_toArray, List.map_cons, List.map_nil]); first | done | rfl | (simp only [List.length_drop, List.length_take]; rfl)) ?_; (with_reducible refine (backoff_Delay.calls k 1 2 10 1 t103 t104 _ A2.out).mono ?_); rintro e w' ⟨rfl, ⟨nd, rfl⟩⟩; refine ⟨_, rfl, ?_⟩) | ((with_reducible refine gate_callee (f := 8) rfl ?_); refine goesL_ (some 16) rfl rfl Try.func8 (by kernel_rfl) rfl #[.int .i64 (-1), .int .i64 2, .int .i64 10, .int .i64 0] rfl (by (try simp only [List.map_toArray, List.map_cons, List.map_nil]); first | done | rfl | (simp only [List.length_drop, List.length_take]; rfl)) ?_; (with_reducible refine (backoff_Delay.calls k (-1) 2 10 0 t105 t106 _ A3.out).mono ?_); rintro e w' ⟨rfl, ⟨nd, rfl⟩⟩; refine ⟨_, rfl, ?_⟩) | (go_at_call 10; (with_reducible refine (withylaw0_Num.calls t102 t107 _ A5.out).mono ?_); rintro e w' ⟨rfl, ⟨nd, rfl⟩⟩) | (go_at_call 10; (with_reducible refine (withylaw0_Num.calls t104 t108 _ A8.out).mono ?_); rintro e w' ⟨rfl, ⟨nd, rfl⟩⟩))
          go_ret
          exact ⟨by first | rfl | (simp; done) | (simp [*]; done), by repeat (first | exact Drawn0.refl _ | apply Drawn0.step)⟩
      · rw [if_neg c7] at H
        have c7b0 : (t103 == 3) = false := beq_eq_false_iff_ne.mpr c7
        have c7b1 : (t103 != 3) = true := bne_iff_ne.mpr c7
        obtain rfl := Option.some.inj H
        go_enter Try.func11, Try.ntmps11
        go_wp2_with (first | ((with_reducible refine gate_callee (f := 8) rfl ?_); refine goesL_ (some 8) rfl rfl Try.func8 (by kernel_rfl) rfl #[.int .i64 3, .int .i64 2, .int .i64 10, .int .i64 0] rfl (by (try simp only [List.map_toArray, List.map_cons, List.map_nil]); first | done | rfl | (simp only [List.length_drop, List.length_take]; rfl)) ?_; (with_reducible refine (backoff_Delay.calls k 3 2 10 0 t101 t102 _ A1.out).mono ?_); rintro e w' ⟨rfl, ⟨nd, rfl⟩⟩; refine ⟨_, rfl, ?_⟩) | ((with_reducible refine gate_callee (f := 8) rfl ?_); refine goesL_ (some 12) rfl rfl Try.func8 (by kernel_rfl) rfl #[.int .i64 1, .int .i64 2, .int .i64 10, .int .i64 1] rfl (by (try simp only [List.map_toArray, List.map_cons, List.map_nil]); first | done | rfl | (simp only [List.length_drop, List.length_take]; rfl)) ?_; (with_reducible refine (backoff_Delay.calls k 1 2 10 1 t103 t104 _ A2.out).mono ?_); rintro e w' ⟨rfl, ⟨nd, rfl⟩⟩; refine ⟨_, rfl, ?_⟩) | ((with_reducible refine gate_callee (f := 8) rfl ?_); refine goesL_ (some 16) rfl rfl Try.func8 (by kernel_rfl) rfl #[.int .i64 (-1), .int .i64 2, .int .i64 10, .int .i64 0] rfl (by (try simp only [List.map_toArray, List.map_cons, List.map_nil]); first | done | rfl | (simp only [List.length_drop, List.length_take]; rfl)) ?_; (with_reducible refine (backoff_Delay.calls k (-1) 2 10 0 t105 t106 _ A3.out).mono ?_); rintro e w' ⟨rfl, ⟨nd, rfl⟩⟩; refine ⟨_, rfl, ?_⟩) | (go_at_call 10; (with_reducible refine (withylaw0_Num.calls t102 t107 _ A5.out).mono ?_); rintro e w' ⟨rfl, ⟨nd, rfl⟩⟩))
        go_ret
        exact ⟨by first | rfl | (simp; done) | (simp [*]; done), by repeat (first | exact Drawn0.refl _ | apply Drawn0.step)⟩
    · rw [if_neg c6] at H
      have c6b0 : (t107 == 0) = false := beq_eq_false_iff_ne.mpr c6
      have c6b1 : (t107 != 0) = true := bne_iff_ne.mpr c6
      obtain rfl := Option.some.inj H
      go_enter Try.func11, Try.ntmps11
      go_wp2_with (first | ((with_reducible refine gate_callee (f := 8) rfl ?_); refine goesL_ (some 8) rfl rfl Try.func8 (by kernel_rfl) rfl #[.int .i64 3, .int .i64 2, .int .i64 10, .int .i64 0] rfl (by (try simp only [List.map_toArray, List.map_cons, List.map_nil]); first | done | rfl | (simp only [List.length_drop, List.length_take]; rfl)) ?_; (with_reducible refine (backoff_Delay.calls k 3 2 10 0 t101 t102 _ A1.out).mono ?_); rintro e w' ⟨rfl, ⟨nd, rfl⟩⟩; refine ⟨_, rfl, ?_⟩) | ((with_reducible refine gate_callee (f := 8) rfl ?_); refine goesL_ (some 12) rfl rfl Try.func8 (by kernel_rfl) rfl #[.int .i64 1, .int .i64 2, .int .i64 10, .int .i64 1] rfl (by (try simp only [List.map_toArray, List.map_cons, List.map_nil]); first | done | rfl | (simp only [List.length_drop, List.length_take]; rfl)) ?_; (with_reducible refine (backoff_Delay.calls k 1 2 10 1 t103 t104 _ A2.out).mono ?_); rintro e w' ⟨rfl, ⟨nd, rfl⟩⟩; refine ⟨_, rfl, ?_⟩) | ((with_reducible refine gate_callee (f := 8) rfl ?_); refine goesL_ (some 16) rfl rfl Try.func8 (by kernel_rfl) rfl #[.int .i64 (-1), .int .i64 2, .int .i64 10, .int .i64 0] rfl (by (try simp only [List.map_toArray, List.map_cons, List.map_nil]); first | done | rfl | (simp only [List.length_drop, List.length_take]; rfl)) ?_; (with_reducible refine (backoff_Delay.calls k (-1) 2 10 0 t105 t106 _ A3.out).mono ?_); rintro e w' ⟨rfl, ⟨nd, rfl⟩⟩; refine ⟨_, rfl, ?_⟩) | (go_at_call 10; (with_reducible refine (withylaw0_Num.calls t102 t107 _ A5.out).mono ?_); rintro e w' ⟨rfl, ⟨nd, rfl⟩⟩))
      go_ret
      exact ⟨by first | rfl | (simp; done) | (simp [*]; done), by repeat (first | exact Drawn0.refl _ | apply Drawn0.step)⟩
  · rw [if_neg c4] at H
    have c4b0 : (t101 == 10) = false := beq_eq_false_iff_ne.mpr c4
    have c4b1 : (t101 != 10) = true := bne_iff_ne.mpr c4
    obtain rfl := Option.some.inj H
    go_enter Try.func11, Try.ntmps11
    go_wp2_with (first | ((with_reducible refine gate_callee (f := 8) rfl ?_); refine goesL_ (some 8) rfl rfl Try.func8 (by kernel_rfl) rfl #[.int .i64 3, .int .i64 2, .int .i64 10, .int .i64 0] rfl (by (try simp only [List.map_toArray, List.map_cons, List.map_nil]); first | done | rfl | (simp only [List.length_drop, List.length_take]; rfl)) ?_; (with_reducible refine (backoff_Delay.calls k 3 2 10 0 t101 t102 _ A1.out).mono ?_); rintro e w' ⟨rfl, ⟨nd, rfl⟩⟩; refine ⟨_, rfl, ?_⟩) | ((with_reducible refine gate_callee (f := 8) rfl ?_); refine goesL_ (some 12) rfl rfl Try.func8 (by kernel_rfl) rfl #[.int .i64 1, .int .i64 2, .int .i64 10, .int .i64 1] rfl (by (try simp only [List.map_toArray, List.map_cons, List.map_nil]); first | done | rfl | (simp only [List.length_drop, List.length_take]; rfl)) ?_; (with_reducible refine (backoff_Delay.calls k 1 2 10 1 t103 t104 _ A2.out).mono ?_); rintro e w' ⟨rfl, ⟨nd, rfl⟩⟩; refine ⟨_, rfl, ?_⟩) | ((with_reducible refine gate_callee (f := 8) rfl ?_); refine goesL_ (some 16) rfl rfl Try.func8 (by kernel_rfl) rfl #[.int .i64 (-1), .int .i64 2, .int .i64 10, .int .i64 0] rfl (by (try simp only [List.map_toArray, List.map_cons, List.map_nil]); first | done | rfl | (simp only [List.length_drop, List.length_take]; rfl)) ?_; (with_reducible refine (backoff_Delay.calls k (-1) 2 10 0 t105 t106 _ A3.out).mono ?_); rintro e w' ⟨rfl, ⟨nd, rfl⟩⟩; refine ⟨_, rfl, ?_⟩))
    go_ret
    exact ⟨by first | rfl | (simp; done) | (simp [*]; done), by repeat (first | exact Drawn0.refl _ | apply Drawn0.step)⟩

/-! ### withylaw12_DelayBounds: function 4 -/
def withylaw12_DelayBounds.f (k : Nat) (a0 : Int) (a1 : Int) (a2 : Int) (a3 : Int) : Option (Bool) := (withylaw12_awake.f k).bind fun t110 => (if t110 = true then ((backoff_Delay.f k (wrap64 (Int.tmod (IntKind.u64.wrap (a0)) 62)) (wrap64 (1 + (wrap64 (Int.tmod (IntKind.u64.wrap (a1)) 200)))) (wrap64 ((wrap64 (1 + (wrap64 (Int.tmod (IntKind.u64.wrap (a1)) 200)))) + (wrap64 (Int.tmod (IntKind.u64.wrap (a2)) 3000)))) (wrap64 (Int.tmod (IntKind.u64.wrap (a3)) 1000000))).bind fun bt111 => ((backoff_Delay.f k (wrap64 (Int.tmod (IntKind.u64.wrap (a0)) 62)) (wrap64 (1 + (wrap64 (Int.tmod (IntKind.u64.wrap (a1)) 200)))) (wrap64 ((wrap64 (1 + (wrap64 (Int.tmod (IntKind.u64.wrap (a1)) 200)))) + (wrap64 (Int.tmod (IntKind.u64.wrap (a2)) 3000)))) 0).bind fun bt113 => ((backoff_Delay.f k (wrap64 ((wrap64 (Int.tmod (IntKind.u64.wrap (a0)) 62)) + 1)) (wrap64 (1 + (wrap64 (Int.tmod (IntKind.u64.wrap (a1)) 200)))) (wrap64 ((wrap64 (1 + (wrap64 (Int.tmod (IntKind.u64.wrap (a1)) 200)))) + (wrap64 (Int.tmod (IntKind.u64.wrap (a2)) 3000)))) 0).bind fun bt115 => ((withylaw0_Num.f bt111.2).bind fun t117 => (if t117 = 0 then ((withylaw0_Num.f bt113.2).bind fun t118 => (if t118 = 0 then ((withylaw0_Num.f bt115.2).bind fun t119 => (if t119 = 0 then (if bt111.1 ≤ bt113.1 then (if (wrap64 (4 * bt111.1)) ≥ (wrap64 (3 * bt113.1)) then (if bt113.1 ≤ bt115.1 then (if bt115.1 ≤ (wrap64 ((wrap64 (1 + (wrap64 (Int.tmod (IntKind.u64.wrap (a1)) 200)))) + (wrap64 (Int.tmod (IntKind.u64.wrap (a2)) 3000)))) then (if bt115.1 ≤ (wrap64 (2 * bt113.1)) then (some (decide (bt113.1 ≥ (wrap64 (1 + (wrap64 (Int.tmod (IntKind.u64.wrap (a1)) 200))))))) else (some false)) else (some false)) else (some false)) else (some false)) else (some false)) else (some false))) else (some false))) else (some false)))))) else (some false))
theorem withylaw12_DelayBounds.mono : ∀ a0 a1 a2 a3 k, LeO (withylaw12_DelayBounds.f k a0 a1 a2 a3) (withylaw12_DelayBounds.f (k + 1) a0 a1 a2 a3) := by
  intro a0 a1 a2 a3 k
  unfold withylaw12_DelayBounds.f
  repeat' first
      | (with_reducible exact backoff_Delay.mono _ _ _ _ _)
      | (with_reducible exact withylaw12_awake.mono _)
      | (with_reducible exact LeO.refl _)
      | (with_reducible exact LeO.none _)
      | (with_reducible refine LeO.ite ?_ ?_)
      | (with_reducible refine LeO.bind ?_ (fun _ => ?_))
      | exact backoff_Delay.mono _ _ _ _ _
      | exact withylaw12_awake.mono _
      | exact LeO.none _
      | refine LeO.ite ?_ ?_
      | refine LeO.bind ?_ (fun _ => ?_)
set_option maxHeartbeats 8000000 in
set_option maxRecDepth 100000 in
theorem withylaw12_DelayBounds.calls (k : Nat) (a0 : Int) (a1 : Int) (a2 : Int) (a3 : Int) (r : Bool) (w : World) (h : withylaw12_DelayBounds.f k a0 a1 a2 a3 = some r) :
    Calls Try.prog 4 #[.int .i64 a0, .int .i64 a1, .int .i64 a2, .int .i64 a3] w fun e w' => e = .returned (.bool r) ∧ Drawn0 w w' := by
  have H : ((withylaw12_awake.f k).bind fun t110 => (if t110 = true then ((backoff_Delay.f k (wrap64 (Int.tmod (IntKind.u64.wrap (a0)) 62)) (wrap64 (1 + (wrap64 (Int.tmod (IntKind.u64.wrap (a1)) 200)))) (wrap64 ((wrap64 (1 + (wrap64 (Int.tmod (IntKind.u64.wrap (a1)) 200)))) + (wrap64 (Int.tmod (IntKind.u64.wrap (a2)) 3000)))) (wrap64 (Int.tmod (IntKind.u64.wrap (a3)) 1000000))).bind fun bt111 => ((backoff_Delay.f k (wrap64 (Int.tmod (IntKind.u64.wrap (a0)) 62)) (wrap64 (1 + (wrap64 (Int.tmod (IntKind.u64.wrap (a1)) 200)))) (wrap64 ((wrap64 (1 + (wrap64 (Int.tmod (IntKind.u64.wrap (a1)) 200)))) + (wrap64 (Int.tmod (IntKind.u64.wrap (a2)) 3000)))) 0).bind fun bt113 => ((backoff_Delay.f k (wrap64 ((wrap64 (Int.tmod (IntKind.u64.wrap (a0)) 62)) + 1)) (wrap64 (1 + (wrap64 (Int.tmod (IntKind.u64.wrap (a1)) 200)))) (wrap64 ((wrap64 (1 + (wrap64 (Int.tmod (IntKind.u64.wrap (a1)) 200)))) + (wrap64 (Int.tmod (IntKind.u64.wrap (a2)) 3000)))) 0).bind fun bt115 => ((withylaw0_Num.f bt111.2).bind fun t117 => (if t117 = 0 then ((withylaw0_Num.f bt113.2).bind fun t118 => (if t118 = 0 then ((withylaw0_Num.f bt115.2).bind fun t119 => (if t119 = 0 then (if bt111.1 ≤ bt113.1 then (if (wrap64 (4 * bt111.1)) ≥ (wrap64 (3 * bt113.1)) then (if bt113.1 ≤ bt115.1 then (if bt115.1 ≤ (wrap64 ((wrap64 (1 + (wrap64 (Int.tmod (IntKind.u64.wrap (a1)) 200)))) + (wrap64 (Int.tmod (IntKind.u64.wrap (a2)) 3000)))) then (if bt115.1 ≤ (wrap64 (2 * bt113.1)) then (some (decide (bt113.1 ≥ (wrap64 (1 + (wrap64 (Int.tmod (IntKind.u64.wrap (a1)) 200))))))) else (some false)) else (some false)) else (some false)) else (some false)) else (some false)) else (some false))) else (some false))) else (some false)))))) else (some false))) = some r := h
  clear h
  replace H := Option.bind_eq_some_iff.mp H
  obtain ⟨t110, A50, H⟩ := H
  replace H : (if t110 = true then ((backoff_Delay.f k (wrap64 (Int.tmod (IntKind.u64.wrap (a0)) 62)) (wrap64 (1 + (wrap64 (Int.tmod (IntKind.u64.wrap (a1)) 200)))) (wrap64 ((wrap64 (1 + (wrap64 (Int.tmod (IntKind.u64.wrap (a1)) 200)))) + (wrap64 (Int.tmod (IntKind.u64.wrap (a2)) 3000)))) (wrap64 (Int.tmod (IntKind.u64.wrap (a3)) 1000000))).bind fun bt111 => ((backoff_Delay.f k (wrap64 (Int.tmod (IntKind.u64.wrap (a0)) 62)) (wrap64 (1 + (wrap64 (Int.tmod (IntKind.u64.wrap (a1)) 200)))) (wrap64 ((wrap64 (1 + (wrap64 (Int.tmod (IntKind.u64.wrap (a1)) 200)))) + (wrap64 (Int.tmod (IntKind.u64.wrap (a2)) 3000)))) 0).bind fun bt113 => ((backoff_Delay.f k (wrap64 ((wrap64 (Int.tmod (IntKind.u64.wrap (a0)) 62)) + 1)) (wrap64 (1 + (wrap64 (Int.tmod (IntKind.u64.wrap (a1)) 200)))) (wrap64 ((wrap64 (1 + (wrap64 (Int.tmod (IntKind.u64.wrap (a1)) 200)))) + (wrap64 (Int.tmod (IntKind.u64.wrap (a2)) 3000)))) 0).bind fun bt115 => ((withylaw0_Num.f bt111.2).bind fun t117 => (if t117 = 0 then ((withylaw0_Num.f bt113.2).bind fun t118 => (if t118 = 0 then ((withylaw0_Num.f bt115.2).bind fun t119 => (if t119 = 0 then (if bt111.1 ≤ bt113.1 then (if (wrap64 (4 * bt111.1)) ≥ (wrap64 (3 * bt113.1)) then (if bt113.1 ≤ bt115.1 then (if bt115.1 ≤ (wrap64 ((wrap64 (1 + (wrap64 (Int.tmod (IntKind.u64.wrap (a1)) 200)))) + (wrap64 (Int.tmod (IntKind.u64.wrap (a2)) 3000)))) then (if bt115.1 ≤ (wrap64 (2 * bt113.1)) then (some (decide (bt113.1 ≥ (wrap64 (1 + (wrap64 (Int.tmod (IntKind.u64.wrap (a1)) 200))))))) else (some false)) else (some false)) else (some false)) else (some false)) else (some false)) else (some false))) else (some false))) else (some false)))))) else (some false)) = some r := H
  have A5 := Aside0.mk A50
  clear A50
  by_cases c6 : t110 = true
  · subst c6
    have H1 : ((backoff_Delay.f k (wrap64 (Int.tmod (IntKind.u64.wrap (a0)) 62)) (wrap64 (1 + (wrap64 (Int.tmod (IntKind.u64.wrap (a1)) 200)))) (wrap64 ((wrap64 (1 + (wrap64 (Int.tmod (IntKind.u64.wrap (a1)) 200)))) + (wrap64 (Int.tmod (IntKind.u64.wrap (a2)) 3000)))) (wrap64 (Int.tmod (IntKind.u64.wrap (a3)) 1000000))).bind fun bt111 => ((backoff_Delay.f k (wrap64 (Int.tmod (IntKind.u64.wrap (a0)) 62)) (wrap64 (1 + (wrap64 (Int.tmod (IntKind.u64.wrap (a1)) 200)))) (wrap64 ((wrap64 (1 + (wrap64 (Int.tmod (IntKind.u64.wrap (a1)) 200)))) + (wrap64 (Int.tmod (IntKind.u64.wrap (a2)) 3000)))) 0).bind fun bt113 => ((backoff_Delay.f k (wrap64 ((wrap64 (Int.tmod (IntKind.u64.wrap (a0)) 62)) + 1)) (wrap64 (1 + (wrap64 (Int.tmod (IntKind.u64.wrap (a1)) 200)))) (wrap64 ((wrap64 (1 + (wrap64 (Int.tmod (IntKind.u64.wrap (a1)) 200)))) + (wrap64 (Int.tmod (IntKind.u64.wrap (a2)) 3000)))) 0).bind fun bt115 => ((withylaw0_Num.f bt111.2).bind fun t117 => (if t117 = 0 then ((withylaw0_Num.f bt113.2).bind fun t118 => (if t118 = 0 then ((withylaw0_Num.f bt115.2).bind fun t119 => (if t119 = 0 then (if bt111.1 ≤ bt113.1 then (if (wrap64 (4 * bt111.1)) ≥ (wrap64 (3 * bt113.1)) then (if bt113.1 ≤ bt115.1 then (if bt115.1 ≤ (wrap64 ((wrap64 (1 + (wrap64 (Int.tmod (IntKind.u64.wrap (a1)) 200)))) + (wrap64 (Int.tmod (IntKind.u64.wrap (a2)) 3000)))) then (if bt115.1 ≤ (wrap64 (2 * bt113.1)) then (some (decide (bt113.1 ≥ (wrap64 (1 + (wrap64 (Int.tmod (IntKind.u64.wrap (a1)) 200))))))) else (some false)) else (some false)) else (some false)) else (some false)) else (some false)) else (some false))) else (some false))) else (some false)))))) = some r := by rw [if_pos rfl] at H; exact H
    clear H
    have H := H1
    clear H1
    replace H := Option.bind_eq_some_iff.mp H
    obtain ⟨⟨t111, t112⟩, A70, H⟩ := H
    replace H : ((backoff_Delay.f k (wrap64 (Int.tmod (IntKind.u64.wrap (a0)) 62)) (wrap64 (1 + (wrap64 (Int.tmod (IntKind.u64.wrap (a1)) 200)))) (wrap64 ((wrap64 (1 + (wrap64 (Int.tmod (IntKind.u64.wrap (a1)) 200)))) + (wrap64 (Int.tmod (IntKind.u64.wrap (a2)) 3000)))) 0).bind fun bt113 => ((backoff_Delay.f k (wrap64 ((wrap64 (Int.tmod (IntKind.u64.wrap (a0)) 62)) + 1)) (wrap64 (1 + (wrap64 (Int.tmod (IntKind.u64.wrap (a1)) 200)))) (wrap64 ((wrap64 (1 + (wrap64 (Int.tmod (IntKind.u64.wrap (a1)) 200)))) + (wrap64 (Int.tmod (IntKind.u64.wrap (a2)) 3000)))) 0).bind fun bt115 => ((withylaw0_Num.f t112).bind fun t117 => (if t117 = 0 then ((withylaw0_Num.f bt113.2).bind fun t118 => (if t118 = 0 then ((withylaw0_Num.f bt115.2).bind fun t119 => (if t119 = 0 then (if t111 ≤ bt113.1 then (if (wrap64 (4 * t111)) ≥ (wrap64 (3 * bt113.1)) then (if bt113.1 ≤ bt115.1 then (if bt115.1 ≤ (wrap64 ((wrap64 (1 + (wrap64 (Int.tmod (IntKind.u64.wrap (a1)) 200)))) + (wrap64 (Int.tmod (IntKind.u64.wrap (a2)) 3000)))) then (if bt115.1 ≤ (wrap64 (2 * bt113.1)) then (some (decide (bt113.1 ≥ (wrap64 (1 + (wrap64 (Int.tmod (IntKind.u64.wrap (a1)) 200))))))) else (some false)) else (some false)) else (some false)) else (some false)) else (some false)) else (some false))) else (some false))) else (some false))))) = some r := H
    have A7 := Aside0.mk A70
    clear A70
    replace H := Option.bind_eq_some_iff.mp H
    obtain ⟨⟨t113, t114⟩, A80, H⟩ := H
    replace H : ((backoff_Delay.f k (wrap64 ((wrap64 (Int.tmod (IntKind.u64.wrap (a0)) 62)) + 1)) (wrap64 (1 + (wrap64 (Int.tmod (IntKind.u64.wrap (a1)) 200)))) (wrap64 ((wrap64 (1 + (wrap64 (Int.tmod (IntKind.u64.wrap (a1)) 200)))) + (wrap64 (Int.tmod (IntKind.u64.wrap (a2)) 3000)))) 0).bind fun bt115 => ((withylaw0_Num.f t112).bind fun t117 => (if t117 = 0 then ((withylaw0_Num.f t114).bind fun t118 => (if t118 = 0 then ((withylaw0_Num.f bt115.2).bind fun t119 => (if t119 = 0 then (if t111 ≤ t113 then (if (wrap64 (4 * t111)) ≥ (wrap64 (3 * t113)) then (if t113 ≤ bt115.1 then (if bt115.1 ≤ (wrap64 ((wrap64 (1 + (wrap64 (Int.tmod (IntKind.u64.wrap (a1)) 200)))) + (wrap64 (Int.tmod (IntKind.u64.wrap (a2)) 3000)))) then (if bt115.1 ≤ (wrap64 (2 * t113)) then (some (decide (t113 ≥ (wrap64 (1 + (wrap64 (Int.tmod (IntKind.u64.wrap (a1)) 200))))))) else (some false)) else (some false)) else (some false)) else (some false)) else (some false)) else (some false))) else (some false))) else (some false)))) = some r := H
    have A8 := Aside0.mk A80
    clear A80
    replace H := Option.bind_eq_some_iff.mp H
    obtain ⟨⟨t115, t116⟩, A90, H⟩ := H
    replace H : ((withylaw0_Num.f t112).bind fun t117 => (if t117 = 0 then ((withylaw0_Num.f t114).bind fun t118 => (if t118 = 0 then ((withylaw0_Num.f t116).bind fun t119 => (if t119 = 0 then (if t111 ≤ t113 then (if (wrap64 (4 * t111)) ≥ (wrap64 (3 * t113)) then (if t113 ≤ t115 then (if t115 ≤ (wrap64 ((wrap64 (1 + (wrap64 (Int.tmod (IntKind.u64.wrap (a1)) 200)))) + (wrap64 (Int.tmod (IntKind.u64.wrap (a2)) 3000)))) then (if t115 ≤ (wrap64 (2 * t113)) then (some (decide (t113 ≥ (wrap64 (1 + (wrap64 (Int.tmod (IntKind.u64.wrap (a1)) 200))))))) else (some false)) else (some false)) else (some false)) else (some false)) else (some false)) else (some false))) else (some false))) else (some false))) = some r := H
    have A9 := Aside0.mk A90
    clear A90
    replace H := Option.bind_eq_some_iff.mp H
    obtain ⟨t117, A100, H⟩ := H
    replace H : (if t117 = 0 then ((withylaw0_Num.f t114).bind fun t118 => (if t118 = 0 then ((withylaw0_Num.f t116).bind fun t119 => (if t119 = 0 then (if t111 ≤ t113 then (if (wrap64 (4 * t111)) ≥ (wrap64 (3 * t113)) then (if t113 ≤ t115 then (if t115 ≤ (wrap64 ((wrap64 (1 + (wrap64 (Int.tmod (IntKind.u64.wrap (a1)) 200)))) + (wrap64 (Int.tmod (IntKind.u64.wrap (a2)) 3000)))) then (if t115 ≤ (wrap64 (2 * t113)) then (some (decide (t113 ≥ (wrap64 (1 + (wrap64 (Int.tmod (IntKind.u64.wrap (a1)) 200))))))) else (some false)) else (some false)) else (some false)) else (some false)) else (some false)) else (some false))) else (some false))) else (some false)) = some r := H
    have A10 := Aside0.mk A100
    clear A100
    by_cases c11 : t117 = 0
    · rw [if_pos c11] at H
      have c11b0 : (t117 == 0) = true := beq_iff_eq.mpr c11
      have c11b1 : (t117 != 0) = false := bne_eq_false_iff_eq.mpr c11
      clear c11
      replace H := Option.bind_eq_some_iff.mp H
      obtain ⟨t118, A120, H⟩ := H
      replace H : (if t118 = 0 then ((withylaw0_Num.f t116).bind fun t119 => (if t119 = 0 then (if t111 ≤ t113 then (if (wrap64 (4 * t111)) ≥ (wrap64 (3 * t113)) then (if t113 ≤ t115 then (if t115 ≤ (wrap64 ((wrap64 (1 + (wrap64 (Int.tmod (IntKind.u64.wrap (a1)) 200)))) + (wrap64 (Int.tmod (IntKind.u64.wrap (a2)) 3000)))) then (if t115 ≤ (wrap64 (2 * t113)) then (some (decide (t113 ≥ (wrap64 (1 + (wrap64 (Int.tmod (IntKind.u64.wrap (a1)) 200))))))) else (some false)) else (some false)) else (some false)) else (some false)) else (some false)) else (some false))) else (some false)) = some r := H
      have A12 := Aside0.mk A120
      clear A120
      by_cases c13 : t118 = 0
      · rw [if_pos c13] at H
        have c13b0 : (t118 == 0) = true := beq_iff_eq.mpr c13
        have c13b1 : (t118 != 0) = false := bne_eq_false_iff_eq.mpr c13
        clear c13
        replace H := Option.bind_eq_some_iff.mp H
        obtain ⟨t119, A140, H⟩ := H
        replace H : (if t119 = 0 then (if t111 ≤ t113 then (if (wrap64 (4 * t111)) ≥ (wrap64 (3 * t113)) then (if t113 ≤ t115 then (if t115 ≤ (wrap64 ((wrap64 (1 + (wrap64 (Int.tmod (IntKind.u64.wrap (a1)) 200)))) + (wrap64 (Int.tmod (IntKind.u64.wrap (a2)) 3000)))) then (if t115 ≤ (wrap64 (2 * t113)) then (some (decide (t113 ≥ (wrap64 (1 + (wrap64 (Int.tmod (IntKind.u64.wrap (a1)) 200))))))) else (some false)) else (some false)) else (some false)) else (some false)) else (some false)) else (some false)) = some r := H
        have A14 := Aside0.mk A140
        clear A140
        by_cases c15 : t119 = 0
        · rw [if_pos c15] at H
          have c15b0 : (t119 == 0) = true := beq_iff_eq.mpr c15
          have c15b1 : (t119 != 0) = false := bne_eq_false_iff_eq.mpr c15
          clear c15
          by_cases c16 : t111 ≤ t113
          · rw [if_pos c16] at H
            have c16b0 : decide (t111 ≤ t113) = true := decide_eq_true c16
            clear c16
            by_cases c17 : (wrap64 (4 * t111)) ≥ (wrap64 (3 * t113))
            · rw [if_pos c17] at H
              have c17b0 : decide ((wrap64 (3 * t113)) ≤ (wrap64 (4 * t111))) = true := decide_eq_true c17
              clear c17
              by_cases c18 : t113 ≤ t115
              · rw [if_pos c18] at H
                have c18b0 : decide (t113 ≤ t115) = true := decide_eq_true c18
                clear c18
                by_cases c19 : t115 ≤ (wrap64 ((wrap64 (1 + (wrap64 (Int.tmod (IntKind.u64.wrap (a1)) 200)))) + (wrap64 (Int.tmod (IntKind.u64.wrap (a2)) 3000))))
                · rw [if_pos c19] at H
                  have c19b0 : decide (t115 ≤ (wrap64 ((wrap64 (1 + (wrap64 (Int.tmod (IntKind.u64.wrap (a1)) 200)))) + (wrap64 (Int.tmod (IntKind.u64.wrap (a2)) 3000))))) = true := decide_eq_true c19
                  clear c19
                  by_cases c20 : t115 ≤ (wrap64 (2 * t113))
                  · rw [if_pos c20] at H
                    have c20b0 : decide (t115 ≤ (wrap64 (2 * t113))) = true := decide_eq_true c20
                    clear c20
                    obtain rfl := Option.some.inj H
                    go_enter Try.func4, Try.ntmps4
                    go_wp2_with (first | ((with_reducible refine gate_callee (f := 11) rfl ?_); refine goesL_ (some 19) rfl rfl Try.func11 (by kernel_rfl) rfl #[] rfl (by (try simp only [List.map_toArray, List.map_cons, List.map_nil]); first | done | rfl | (simp only [List.length_drop, List.length_take]; rfl)) ?_; (with_reducible refine (withylaw12_awake.calls k  true _ A5.out).mono ?_); rintro e w' ⟨rfl, ⟨nd, rfl⟩⟩; refine ⟨_, rfl, ?_⟩) | ((with_reducible refine gate_callee (f := 8) rfl ?_); refine goesL_ (some 45) rfl rfl Try.func8 (by kernel_rfl) rfl #[.int .i64 (wrap64 (Int.tmod (IntKind.u64.wrap (a0)) 62)), .int .i64 (wrap64 (1 + (wrap64 (Int.tmod (IntKind.u64.wrap (a1)) 200)))), .int .i64 (wrap64 ((wrap64 (1 + (wrap64 (Int.tmod (IntKind.u64.wrap (a1)) 200)))) + (wrap64 (Int.tmod (IntKind.u64.wrap (a2)) 3000)))), .int .i64 (wrap64 (Int.tmod (IntKind.u64.wrap (a3)) 1000000))] rfl (by (try simp only [List.map_toArray, List.map_cons, List.map_nil]); first | done | rfl | (simp only [List.length_drop, List.length_take]; rfl)) ?_; (with_reducible refine (backoff_Delay.calls k (wrap64 (Int.tmod (IntKind.u64.wrap (a0)) 62)) (wrap64 (1 + (wrap64 (Int.tmod (IntKind.u64.wrap (a1)) 200)))) (wrap64 ((wrap64 (1 + (wrap64 (Int.tmod (IntKind.u64.wrap (a1)) 200)))) + (wrap64 (Int.tmod (IntKind.u64.wrap (a2)) 3000)))) (wrap64 (Int.tmod (IntKind.u64.wrap (a3)) 1000000)) t111 t112 _ A7.out).mono ?_); rintro e w' ⟨rfl, ⟨nd, rfl⟩⟩; refine ⟨_, rfl, ?_⟩) | ((with_reducible refine gate_callee (f := 8) rfl ?_); refine goesL_ (some 52) rfl rfl Try.func8 (by kernel_rfl) rfl #[.int .i64 (wrap64 (Int.tmod (IntKind.u64.wrap (a0)) 62)), .int .i64 (wrap64 (1 + (wrap64 (Int.tmod (IntKind.u64.wrap (a1)) 200)))), .int .i64 (wrap64 ((wrap64 (1 + (wrap64 (Int.tmod (IntKind.u64.wrap (a1)) 200)))) + (wrap64 (Int.tmod (IntKind.u64.wrap (a2)) 3000)))), .int .i64 0] rfl (by (try simp only [List.map_toArray, List.map_cons, List.map_nil]); first | done | rfl | (simp only [List.length_drop, List.length_take]; rfl)) ?_; (with_reducible refine (backoff_Delay.calls k (wrap64 (Int.tmod (IntKind.u64.wrap (a0)) 62)) (wrap64 (1 + (wrap64 (Int.tmod (IntKind.u64.wrap (a1)) 200)))) (wrap64 ((wrap64 (1 + (wrap64 (Int.tmod (IntKind.u64.wrap (a1)) 200)))) + (wrap64 (Int.tmod (IntKind.u64.wrap (a2)) 3000)))) 0 t113 t114 _ A8.out).mono ?_); rintro e w' ⟨rfl, ⟨nd, rfl⟩⟩; refine ⟨_, rfl, ?_⟩) | ((with_reducible refine gate_callee (f := 8) rfl ?_); refine goesL_ (some 60) rfl rfl Try.func8 (by kernel_rfl) rfl #[.int .i64 (wrap64 ((wrap64 (Int.tmod (IntKind.u64.wrap (a0)) 62)) + 1)), .int .i64 (wrap64 (1 + (wrap64 (Int.tmod (IntKind.u64.wrap (a1)) 200)))), .int .i64 (wrap64 ((wrap64 (1 + (wrap64 (Int.tmod (IntKind.u64.wrap (a1)) 200)))) + (wrap64 (Int.tmod (IntKind.u64.wrap (a2)) 3000)))), .int .i64 0] rfl (by (try simp only [List.map_toArray, List.map_cons, List.map_nil]); first | done | rfl | (simp only [List.length_drop, List.length_take]; rfl)) ?_; (with_reducible refine (backoff_Delay.calls k (wrap64 ((wrap64 (Int.tmod (IntKind.u64.wrap (a0)) 62)) + 1)) (wrap64 (1 + (wrap64 (Int.tmod (IntKind.u64.wrap (a1)) 200)))) (wrap64 ((wrap64 (1 + (wrap64 (Int.tmod (IntKind.u64.wrap (a1)) 200)))) + (wrap64 (Int.tmod (IntKind.u64.wrap (a2)) 3000)))) 0 t115 t116 _ A9.out).mono ?_); rintro e w' ⟨rfl, ⟨nd, rfl⟩⟩; refine ⟨_, rfl, ?_⟩) | ((with_reducible refine gate_callee (f := 10) rfl ?_); refine goesL_ (some 64) rfl rfl Try.func10 (by kernel_rfl) rfl #[.int .i64 t112] rfl (by (try simp only [List.map_toArray, List.map_cons, List.map_nil]); first | done | rfl | (simp only [List.length_drop, List.length_take]; rfl)) ?_; (with_reducible refine (withylaw0_Num.calls t112 t117 _ A10.out).mono ?_); rintro e w' ⟨rfl, ⟨nd, rfl⟩⟩; refine ⟨_, rfl, ?_⟩) | (go_at_call 10; (with_reducible refine (withylaw0_Num.calls t114 t118 _ A12.out).mono ?_); rintro e w' ⟨rfl, ⟨nd, rfl⟩⟩) | (go_at_call 10; (with_reducible refine (withylaw0_Num.calls t116 t119 _ A14.out).mono ?_); rintro e w' ⟨rfl, ⟨nd, rfl⟩⟩))
                    go_ret
                    exact ⟨by first | rfl | (simp; done) | (simp [*]; done), by repeat (first | exact Drawn0.refl _ | apply Drawn0.step)⟩
                  · rw [if_neg c20] at H
                    have c20b0 : decide (t115 ≤ (wrap64 (2 * t113))) = false := decide_eq_false c20
                    clear c20
                    obtain rfl := Option.some.inj H
                    go_enter Try.func4, Try.ntmps4
                    go_wp2_with (first | ((with_reducible refine gate_callee (f := 11) rfl ?_); refine goesL_ (some 19) rfl rfl Try.func11 (by kernel_rfl) rfl #[] rfl (by (try simp only [List.map_toArray, List.map_cons, List.map_nil]); first | done | rfl | (simp only [List.length_drop, List.length_take]; rfl)) ?_; (with_reducible refine (withylaw12_awake.calls k  true _ A5.out).mono ?_); rintro e w' ⟨rfl, ⟨nd, rfl⟩⟩; refine ⟨_, rfl, ?_⟩) | ((with_reducible refine gate_callee (f := 8) rfl ?_); refine goesL_ (some 45) rfl rfl Try.func8 (by kernel_rfl) rfl #[.int .i64 (wrap64 (Int.tmod (IntKind.u64.wrap (a0)) 62)), .int .i64 (wrap64 (1 + (wrap64 (Int.tmod (IntKind.u64.wrap (a1)) 200)))), .int .i64 (wrap64 ((wrap64 (1 + (wrap64 (Int.tmod (IntKind.u64.wrap (a1)) 200)))) + (wrap64 (Int.tmod (IntKind.u64.wrap (a2)) 3000)))), .int .i64 (wrap64 (Int.tmod (IntKind.u64.wrap (a3)) 1000000))] rfl (by (try simp only [List.map_toArray, List.map_cons, List.map_nil]); first | done | rfl | (simp only [List.length_drop, List.length_take]; rfl)) ?_; (with_reducible refine (backoff_Delay.calls k (wrap64 (Int.tmod (IntKind.u64.wrap (a0)) 62)) (wrap64 (1 + (wrap64 (Int.tmod (IntKind.u64.wrap (a1)) 200)))) (wrap64 ((wrap64 (1 + (wrap64 (Int.tmod (IntKind.u64.wrap (a1)) 200)))) + (wrap64 (Int.tmod (IntKind.u64.wrap (a2)) 3000)))) (wrap64 (Int.tmod (IntKind.u64.wrap (a3)) 1000000)) t111 t112 _ A7.out).mono ?_); rintro e w' ⟨rfl, ⟨nd, rfl⟩⟩; refine ⟨_, rfl, ?_⟩) | ((with_reducible refine gate_callee (f := 8) rfl ?_); refine goesL_ (some 52) rfl rfl Try.func8 (by kernel_rfl) rfl #[.int .i64 (wrap64 (Int.tmod (IntKind.u64.wrap (a0)) 62)), .int .i64 (wrap64 (1 + (wrap64 (Int.tmod (IntKind.u64.wrap (a1)) 200)))), .int .i64 (wrap64 ((wrap64 (1 + (wrap64 (Int.tmod (IntKind.u64.wrap (a1)) 200)))) + (wrap64 (Int.tmod (IntKind.u64.wrap (a2)) 3000)))), .int .i64 0] rfl (by (try simp only [List.map_toArray, List.map_cons, List.map_nil]); first | done | rfl | (simp only [List.length_drop, List.length_take]; rfl)) ?_; (with_reducible refine (backoff_Delay.calls k (wrap64 (Int.tmod (IntKind.u64.wrap (a0)) 62)) (wrap64 (1 + (wrap64 (Int.tmod (IntKind.u64.wrap (a1)) 200)))) (wrap64 ((wrap64 (1 + (wrap64 (Int.tmod (IntKind.u64.wrap (a1)) 200)))) + (wrap64 (Int.tmod (IntKind.u64.wrap (a2)) 3000)))) 0 t113 t114 _ A8.out).mono ?_); rintro e w' ⟨rfl, ⟨nd, rfl⟩⟩; refine ⟨_, rfl, ?_⟩) | ((with_reducible refine gate_callee (f := 8) rfl ?_); refine goesL_ (some 60) rfl rfl Try.func8 (by kernel_rfl) rfl #[.int .i64 (wrap64 ((wrap64 (Int.tmod (IntKind.u64.wrap (a0)) 62)) + 1)), .int .i64 (wrap64 (1 + (wrap64 (Int.tmod (IntKind.u64.wrap (a1)) 200)))), .int .i64 (wrap64 ((wrap64 (1 + (wrap64 (Int.tmod (IntKind.u64.wrap (a1)) 200)))) + (wrap64 (Int.tmod (IntKind.u64.wrap (a2)) 3000)))), .int .i64 0] rfl (by (try simp only [List.map_toArray, List.map_cons, List.map_nil]); first | done | rfl | (simp only [List.length_drop, List.length_take]; rfl)) ?_; (with_reducible refine (backoff_Delay.calls k (wrap64 ((wrap64 (Int.tmod (IntKind.u64.wrap (a0)) 62)) + 1)) (wrap64 (1 + (wrap64 (Int.tmod (IntKind.u64.wrap (a1)) 200)))) (wrap64 ((wrap64 (1 + (wrap64 (Int.tmod (IntKind.u64.wrap (a1)) 200)))) + (wrap64 (Int.tmod (IntKind.u64.wrap (a2)) 3000)))) 0 t115 t116 _ A9.out).mono ?_); rintro e w' ⟨rfl, ⟨nd, rfl⟩⟩; refine ⟨_, rfl, ?_⟩) | ((with_reducible refine gate_callee (f := 10) rfl ?_); refine goesL_ (some 64) rfl rfl Try.func10 (by kernel_rfl) rfl #[.int .i64 t112] rfl (by (try simp only [List.map_toArray, List.map_cons, List.map_nil]); first | done | rfl | (simp only [List.length_drop, List.length_take]; rfl)) ?_; (with_reducible refine (withylaw0_Num.calls t112 t117 _ A10.out).mono ?_); rintro e w' ⟨rfl, ⟨nd, rfl⟩⟩; refine ⟨_, rfl, ?_⟩) | (go_at_call 10; (with_reducible refine (withylaw0_Num.calls t114 t118 _ A12.out).mono ?_); rintro e w' ⟨rfl, ⟨nd, rfl⟩⟩) | (go_at_call 10; (with_reducible refine (withylaw0_Num.calls t116 t119 _ A14.out).mono ?_); rintro e w' ⟨rfl, ⟨nd, rfl⟩⟩))
                    go_ret
                    exact ⟨by first | rfl | (simp; done) | (simp [*]; done), by repeat (first | exact Drawn0.refl _ | apply Drawn0.step)⟩
                · rw [if_neg c19] at H
                  have c19b0 : decide (t115 ≤ (wrap64 ((wrap64 (1 + (wrap64 (Int.tmod (IntKind.u64.wrap (a1)) 200)))) + (wrap64 (Int.tmod (IntKind.u64.wrap (a2)) 3000))))) = false := decide_eq_false c19
                  clear c19
                  obtain rfl := Option.some.inj H
                  go_enter Try.func4, Try.ntmps4
                  go_wp2_with (first | ((with_reducible refine gate_callee (f := 11) rfl ?_); refine goesL_ (some 19) rfl rfl Try.func11 (by kernel_rfl) rfl #[] rfl (by (try simp only [List.map_toArray, List.map_cons, List.map_nil]); first | done | rfl | (simp only [List.length_drop, List.length_take]; rfl)) ?_; (with_reducible refine (withylaw12_awake.calls k  true _ A5.out).mono ?_); rintro e w' ⟨rfl, ⟨nd, rfl⟩⟩; refine ⟨_, rfl, ?_⟩) | ((with_reducible refine gate_callee (f := 8) rfl ?_); refine goesL_ (some 45) rfl rfl Try.func8 (by kernel_rfl) rfl #[.int .i64 (wrap64 (Int.tmod (IntKind.u64.wrap (a0)) 62)), .int .i64 (wrap64 (1 + (wrap64 (Int.tmod (IntKind.u64.wrap (a1)) 200)))), .int .i64 (wrap64 ((wrap64 (1 + (wrap64 (Int.tmod (IntKind.u64.wrap (a1)) 200)))) + (wrap64 (Int.tmod (IntKind.u64.wrap (a2)) 3000)))), .int .i64 (wrap64 (Int.tmod (IntKind.u64.wrap (a3)) 1000000))] rfl (by (try simp only [List.map_toArray, List.map_cons, List.map_nil]); first | done | rfl | (simp only [List.length_drop, List.length_take]; rfl)) ?_; (with_reducible refine (backoff_Delay.calls k (wrap64 (Int.tmod (IntKind.u64.wrap (a0)) 62)) (wrap64 (1 + (wrap64 (Int.tmod (IntKind.u64.wrap (a1)) 200)))) (wrap64 ((wrap64 (1 + (wrap64 (Int.tmod (IntKind.u64.wrap (a1)) 200)))) + (wrap64 (Int.tmod (IntKind.u64.wrap (a2)) 3000)))) (wrap64 (Int.tmod (IntKind.u64.wrap (a3)) 1000000)) t111 t112 _ A7.out).mono ?_); rintro e w' ⟨rfl, ⟨nd, rfl⟩⟩; refine ⟨_, rfl, ?_⟩) | ((with_reducible refine gate_callee (f := 8) rfl ?_); refine goesL_ (some 52) rfl rfl Try.func8 (by kernel_rfl) rfl #[.int .i64 (wrap64 (Int.tmod (IntKind.u64.wrap (a0)) 62)), .int .i64 (wrap64 (1 + (wrap64 (Int.tmod (IntKind.u64.wrap (a1)) 200)))), .int .i64 (wrap64 ((wrap64 (1 + (wrap64 (Int.tmod (IntKind.u64.wrap (a1)) 200)))) + (wrap64 (Int.tmod (IntKind.u64.wrap (a2)) 3000)))), .int .i64 0] rfl (by (try simp only [List.map_toArray, List.map_cons, List.map_nil]); first | done | rfl | (simp only [List.length_drop, List.length_take]; rfl)) ?_; (with_reducible refine (backoff_Delay.calls k (wrap64 (Int.tmod (IntKind.u64.wrap (a0)) 62)) (wrap64 (1 + (wrap64 (Int.tmod (IntKind.u64.wrap (a1)) 200)))) (wrap64 ((wrap64 (1 + (wrap64 (Int.tmod (IntKind.u64.wrap (a1)) 200)))) + (wrap64 (Int.tmod (IntKind.u64.wrap (a2)) 3000)))) 0 t113 t114 _ A8.out).mono ?_); rintro e w' ⟨rfl, ⟨nd, rfl⟩⟩; refine ⟨_, rfl, ?_⟩) | ((with_reducible refine gate_callee (f := 8) rfl ?_); refine goesL_ (some 60) rfl rfl Try.func8 (by kernel_rfl) rfl #[.int .i64 (wrap64 ((wrap64 (Int.tmod (IntKind.u64.wrap (a0)) 62)) + 1)), .int .i64 (wrap64 (1 + (wrap64 (Int.tmod (IntKind.u64.wrap (a1)) 200)))), .int .i64 (wrap64 ((wrap64 (1 + (wrap64 (Int.tmod (IntKind.u64.wrap (a1)) 200)))) + (wrap64 (Int.tmod (IntKind.u64.wrap (a2)) 3000)))), .int .i64 0] rfl (by (try simp only [List.map_toArray, List.map_cons, List.map_nil]); first | done | rfl | (simp only [List.length_drop, List.length_take]; rfl)) ?_; (with_reducible refine (backoff_Delay.calls k (wrap64 ((wrap64 (Int.tmod (IntKind.u64.wrap (a0)) 62)) + 1)) (wrap64 (1 + (wrap64 (Int.tmod (IntKind.u64.wrap (a1)) 200)))) (wrap64 ((wrap64 (1 + (wrap64 (Int.tmod (IntKind.u64.wrap (a1)) 200)))) + (wrap64 (Int.tmod (IntKind.u64.wrap (a2)) 3000)))) 0 t115 t116 _ A9.out).mono ?_); rintro e w' ⟨rfl, ⟨nd, rfl⟩⟩; refine ⟨_, rfl, ?_⟩) | ((with_reducible refine gate_callee (f := 10) rfl ?_); refine goesL_ (some 64) rfl rfl Try.func10 (by kernel_rfl) rfl #[.int .i64 t112] rfl (by (try simp only [List.map_toArray, List.map_cons, List.map_nil]); first | done | rfl | (simp only [List.length_drop, List.length_take]; rfl)) ?_; (with_reducible refine (withylaw0_Num.calls t112 t117 _ A10.out).mono ?_); rintro e w' ⟨rfl, ⟨nd, rfl⟩⟩; refine ⟨_, rfl, ?_⟩) | (go_at_call 10; (with_reducible refine (withylaw0_Num.calls t114 t118 _ A12.out).mono ?_); rintro e w' ⟨rfl, ⟨nd, rfl⟩⟩) | (go_at_call 10; (with_reducible refine (withylaw0_Num.calls t116 t119 _ A14.out).mono ?_); rintro e w' ⟨rfl, ⟨nd, rfl⟩⟩))
                  go_ret
                  exact ⟨by first | rfl | (simp; done) | (simp [*]; done), by repeat (first | exact Drawn0.refl _ | apply Drawn0.step)⟩
              · rw [if_neg c18] at H
                have c18b0 : decide (t113 ≤ t115) = false := decide_eq_false c18
                clear c18
                obtain rfl := Option.some.inj H
                go_enter Try.func4, Try.ntmps4
                go_wp2_with (first | ((with_reducible refine gate_callee (f := 11) rfl ?_); refine goesL_ (some 19) rfl rfl Try.func11 (by kernel_rfl) rfl #[] rfl (by (try simp only [List.map_toArray, List.map_cons, List.map_nil]); first | done | rfl | (simp only [List.length_drop, List.length_take]; rfl)) ?_; (with_reducible refine (withylaw12_awake.calls k  true _ A5.out).mono ?_); rintro e w' ⟨rfl, ⟨nd, rfl⟩⟩; refine ⟨_, rfl, ?_⟩) | ((with_reducible refine gate_callee (f := 8) rfl ?_); refine goesL_ (some 45) rfl rfl Try.func8 (by kernel_rfl) rfl #[.int .i64 (wrap64 (Int.tmod (IntKind.u64.wrap (a0)) 62)), .int .i64 (wrap64 (1 + (wrap64 (Int.tmod (IntKind.u64.wrap (a1)) 200)))), .int .i64 (wrap64 ((wrap64 (1 + (wrap64 (Int.tmod (IntKind.u64.wrap (a1)) 200)))) + (wrap64 (Int.tmod (IntKind.u64.wrap (a2)) 3000)))), .int .i64 (wrap64 (Int.tmod (IntKind.u64.wrap (a3)) 1000000))] rfl (by (try simp only [List.map_toArray, List.map_cons, List.map_nil]); first | done | rfl | (simp only [List.length_drop, List.length_take]; rfl)) ?_; (with_reducible refine (backoff_Delay.calls k (wrap64 (Int.tmod (IntKind.u64.wrap (a0)) 62)) (wrap64 (1 + (wrap64 (Int.tmod (IntKind.u64.wrap (a1)) 200)))) (wrap64 ((wrap64 (1 + (wrap64 (Int.tmod (IntKind.u64.wrap (a1)) 200)))) + (wrap64 (Int.tmod (IntKind.u64.wrap (a2)) 3000)))) (wrap64 (Int.tmod (IntKind.u64.wrap (a3)) 1000000)) t111 t112 _ A7.out).mono ?_); rintro e w' ⟨rfl, ⟨nd, rfl⟩⟩; refine ⟨_, rfl, ?_⟩) | ((with_reducible refine gate_callee (f := 8) rfl ?_); refine goesL_ (some 52) rfl rfl Try.func8 (by kernel_rfl) rfl #[.int .i64 (wrap64 (Int.tmod (IntKind.u64.wrap (a0)) 62)), .int .i64 (wrap64 (1 + (wrap64 (Int.tmod (IntKind.u64.wrap (a1)) 200)))), .int .i64 (wrap64 ((wrap64 (1 + (wrap64 (Int.tmod (IntKind.u64.wrap (a1)) 200)))) + (wrap64 (Int.tmod (IntKind.u64.wrap (a2)) 3000)))), .int .i64 0] rfl (by (try simp only [List.map_toArray, List.map_cons, List.map_nil]); first | done | rfl | (simp only [List.length_drop, List.length_take]; rfl)) ?_; (with_reducible refine (backoff_Delay.calls k (wrap64 (Int.tmod (IntKind.u64.wrap (a0)) 62)) (wrap64 (1 + (wrap64 (Int.tmod (IntKind.u64.wrap (a1)) 200)))) (wrap64 ((wrap64 (1 + (wrap64 (Int.tmod (IntKind.u64.wrap (a1)) 200)))) + (wrap64 (Int.tmod (IntKind.u64.wrap (a2)) 3000)))) 0 t113 t114 _ A8.out).mono ?_); rintro e w' ⟨rfl, ⟨nd, rfl⟩⟩; refine ⟨_, rfl, ?_⟩) | ((with_reducible refine gate_callee (f := 8) rfl ?_); refine goesL_ (some 60) rfl rfl Try.func8 (by kernel_rfl) rfl #[.int .i64 (wrap64 ((wrap64 (Int.tmod (IntKind.u64.wrap (a0)) 62)) + 1)), .int .i64 (wrap64 (1 + (wrap64 (Int.tmod (IntKind.u64.wrap (a1)) 200)))), .int .i64 (wrap64 ((wrap64 (1 + (wrap64 (Int.tmod (IntKind.u64.wrap (a1)) 200)))) + (wrap64 (Int.tmod (IntKind.u64.wrap (a2)) 3000)))), .int .i64 0] rfl (by (try simp only [List.map_toArray, List.map_cons, List.map_nil]); first | done | rfl | (simp only [List.length_drop, List.length_take]; rfl)) ?_; (with_reducible refine (backoff_Delay.calls k (wrap64 ((wrap64 (Int.tmod (IntKind.u64.wrap (a0)) 62)) + 1)) (wrap64 (1 + (wrap64 (Int.tmod (IntKind.u64.wrap (a1)) 200)))) (wrap64 ((wrap64 (1 + (wrap64 (Int.tmod (IntKind.u64.wrap (a1)) 200)))) + (wrap64 (Int.tmod (IntKind.u64.wrap (a2)) 3000)))) 0 t115 t116 _ A9.out).mono ?_); rintro e w' ⟨rfl, ⟨nd, rfl⟩⟩; refine ⟨_, rfl, ?_⟩) | ((with_reducible refine gate_callee (f := 10) rfl ?_); refine goesL_ (some 64) rfl rfl Try.func10 (by kernel_rfl) rfl #[.int .i64 t112] rfl (by (try simp only [List.map_toArray, List.map_cons, List.map_nil]); first | done | rfl | (simp only [List.length_drop, List.length_take]; rfl)) ?_; (with_reducible refine (withylaw0_Num.calls t112 t117 _ A10.out).mono ?_); rintro e w' ⟨rfl, ⟨nd, rfl⟩⟩; refine ⟨_, rfl, ?_⟩) | (go_at_call 10; (with_reducible refine (withylaw0_Num.calls t114 t118 _ A12.out).mono ?_); rintro e w' ⟨rfl, ⟨nd, rfl⟩⟩) | (go_at_call 10; (with_reducible refine (withylaw0_Num.calls t116 t119 _ A14.out).mono ?_); rintro e w' ⟨rfl, ⟨nd, rfl⟩⟩))
                go_ret
                exact ⟨by first | rfl | (simp; done) | (simp [*]; done), by repeat (first | exact Drawn0.refl _ | apply Drawn0.step)⟩
            · rw [if_neg c17] at H
              have c17b0 : decide ((wrap64 (3 * t113)) ≤ (wrap64 (4 * t111))) = false := decide_eq_false c17
              clear c17
              obtain rfl := Option.some.inj H
              go_enter Try.func4, Try.ntmps4
              go_wp2_with (first | ((with_reducible refine gate_callee (f := 11) rfl ?_); refine goesL_ (some 19) rfl rfl Try.func11 (by kernel_rfl) rfl #[] rfl (by (try simp only [List.map_toArray, List.map_cons, List.map_nil]); first | done | rfl | (simp only [List.length_drop, List.length_take]; rfl)) ?_; (with_reducible refine (withylaw12_awake.calls k  true _ A5.out).mono ?_); rintro e w' ⟨rfl, ⟨nd, rfl⟩⟩; refine ⟨_, rfl, ?_⟩) | ((with_reducible refine gate_callee (f := 8) rfl ?_); refine goesL_ (some 45) rfl rfl Try.func8 (by kernel_rfl) rfl #[.int .i64 (wrap64 (Int.tmod (IntKind.u64.wrap (a0)) 62)), .int .i64 (wrap64 (1 + (wrap64 (Int.tmod (IntKind.u64.wrap (a1)) 200)))), .int .i64 (wrap64 ((wrap64 (1 + (wrap64 (Int.tmod (IntKind.u64.wrap (a1)) 200)))) + (wrap64 (Int.tmod (IntKind.u64.wrap (a2)) 3000)))), .int .i64 (wrap64 (Int.tmod (IntKind.u64.wrap (a3)) 1000000))] rfl (by (try simp only [List.map_toArray, List.map_cons, List.map_nil]); first | done | rfl | (simp only [List.length_drop, List.length_take]; rfl)) ?_; (with_reducible refine (backoff_Delay.calls k (wrap64 (Int.tmod (IntKind.u64.wrap (a0)) 62)) (wrap64 (1 + (wrap64 (Int.tmod (IntKind.u64.wrap (a1)) 200)))) (wrap64 ((wrap64 (1 + (wrap64 (Int.tmod (IntKind.u64.wrap (a1)) 200)))) + (wrap64 (Int.tmod (IntKind.u64.wrap (a2)) 3000)))) (wrap64 (Int.tmod (IntKind.u64.wrap (a3)) 1000000)) t111 t112 _ A7.out).mono ?_); rintro e w' ⟨rfl, ⟨nd, rfl⟩⟩; refine ⟨_, rfl, ?_⟩) | ((with_reducible refine gate_callee (f := 8) rfl ?_); refine goesL_ (some 52) rfl rfl Try.func8 (by kernel_rfl) rfl #[.int .i64 (wrap64 (Int.tmod (IntKind.u64.wrap (a0)) 62)), .int .i64 (wrap64 (1 + (wrap64 (Int.tmod (IntKind.u64.wrap (a1)) 200)))), .int .i64 (wrap64 ((wrap64 (1 + (wrap64 (Int.tmod (IntKind.u64.wrap (a1)) 200)))) + (wrap64 (Int.tmod (IntKind.u64.wrap (a2)) 3000)))), .int .i64 0] rfl (by (try simp only [List.map_toArray, List.map_cons, List.map_nil]); first | done | rfl | (simp only [List.length_drop, List.length_take]; rfl)) ?_; (with_reducible refine (backoff_Delay.calls k (wrap64 (Int.tmod (IntKind.u64.wrap (a0)) 62)) (wrap64 (1 + (wrap64 (Int.tmod (IntKind.u64.wrap (a1)) 200)))) (wrap64 ((wrap64 (1 + (wrap64 (Int.tmod (IntKind.u64.wrap (a1)) 200)))) + (wrap64 (Int.tmod (IntKind.u64.wrap (a2)) 3000)))) 0 t113 t114 _ A8.out).mono ?_); rintro e w' ⟨rfl, ⟨nd, rfl⟩⟩; refine ⟨_, rfl, ?_⟩) | ((with_reducible refine gate_callee (f := 8) rfl ?_); refine goesL_ (some 60) rfl rfl Try.func8 (by kernel_rfl) rfl #[.int .i64 (wrap64 ((wrap64 (Int.tmod (IntKind.u64.wrap (a0)) 62)) + 1)), .int .i64 (wrap64 (1 + (wrap64 (Int.tmod (IntKind.u64.wrap (a1)) 200)))), .int .i64 (wrap64 ((wrap64 (1 + (wrap64 (Int.tmod (IntKind.u64.wrap (a1)) 200)))) + (wrap64 (Int.tmod (IntKind.u64.wrap (a2)) 3000)))), .int .i64 0] rfl (by (try simp only [List.map_toArray, List.map_cons, List.map_nil]); first | done | rfl | (simp only [List.length_drop, List.length_take]; rfl)) ?_; (with_reducible refine (backoff_Delay.calls k (wrap64 ((wrap64 (Int.tmod (IntKind.u64.wrap (a0)) 62)) + 1)) (wrap64 (1 + (wrap64 (Int.tmod (IntKind.u64.wrap (a1)) 200)))) (wrap64 ((wrap64 (1 + (wrap64 (Int.tmod (IntKind.u64.wrap (a1)) 200)))) + (wrap64 (Int.tmod (IntKind.u64.wrap (a2)) 3000)))) 0 t115 t116 _ A9.out).mono ?_); rintro e w' ⟨rfl, ⟨nd, rfl⟩⟩; refine ⟨_, rfl, ?_⟩) | ((with_reducible refine gate_callee (f := 10) rfl ?_); refine goesL_ (some 64) rfl rfl Try.func10 (by kernel_rfl) rfl #[.int .i64 t112] rfl (by (try simp only [List.map_toArray, List.map_cons, List.map_nil]); first | done | rfl | (simp only [List.length_drop, List.length_take]; rfl)) ?_; (with_reducible refine (withylaw0_Num.calls t112 t117 _ A10.out).mono ?_); rintro e w' ⟨rfl, ⟨nd, rfl⟩⟩; refine ⟨_, rfl, ?_⟩) | (go_at_call 10; (with_reducible refine (withylaw0_Num.calls t114 t118 _ A12.out).mono ?_); rintro e w' ⟨rfl, ⟨nd, rfl⟩⟩) | (go_at_call 10; (with_reducible refine (withylaw0_Num.calls t116 t119 _ A14.out).mono ?_); rintro e w' ⟨rfl, ⟨nd, rfl⟩⟩))
              go_ret
              exact ⟨by first | rfl | (simp; done) | (simp [*]; done), by repeat (first | exact Drawn0.refl _ | apply Drawn0.step)⟩
          · rw [if_neg c16] at H
            have c16b0 : decide (t111 ≤ t113) = false := decide_eq_false c16
            clear c16
            obtain rfl := Option.some.inj H
            go_enter Try.func4, Try.ntmps4
            go_wp2_with (first | ((with_reducible refine gate_callee (f := 11) rfl ?_); refine goesL_ (some 19) rfl rfl Try.func11 (by kernel_rfl) rfl #[] rfl (by (try simp only [List.map_toArray, List.map_cons, List.map_nil]); first | done | rfl | (simp only [List.length_drop, List.length_take]; rfl)) ?_; (with_reducible refine (withylaw12_awake.calls k  true _ A5.out).mono ?_); rintro e w' ⟨rfl, ⟨nd, rfl⟩⟩; refine ⟨_, rfl, ?_⟩) | ((with_reducible refine gate_callee (f := 8) rfl ?_); refine goesL_ (some 45) rfl rfl Try.func8 (by kernel_rfl) rfl #[.int .i64 (wrap64 (Int.tmod (IntKind.u64.wrap (a0)) 62)), .int .i64 (wrap64 (1 + (wrap64 (Int.tmod (IntKind.u64.wrap (a1)) 200)))), .int .i64 (wrap64 ((wrap64 (1 + (wrap64 (Int.tmod (IntKind.u64.wrap (a1)) 200)))) + (wrap64 (Int.tmod (IntKind.u64.wrap (a2)) 3000)))), .int .i64 (wrap64 (Int.tmod (IntKind.u64.wrap (a3)) 1000000))] rfl (by (try simp only [List.map_toArray, List.map_cons, List.map_nil]); first | done | rfl | (simp only [List.length_drop, List.length_take]; rfl)) ?_; (with_reducible refine (backoff_Delay.calls k (wrap64 (Int.tmod (IntKind.u64.wrap (a0)) 62)) (wrap64 (1 + (wrap64 (Int.tmod (IntKind.u64.wrap (a1)) 200)))) (wrap64 ((wrap64 (1 + (wrap64 (Int.tmod (IntKind.u64.wrap (a1)) 200)))) + (wrap64 (Int.tmod (IntKind.u64.wrap (a2)) 3000)))) (wrap64 (Int.tmod (IntKind.u64.wrap (a3)) 1000000)) t111 t112 _ A7.out).mono ?_); rintro e w' ⟨rfl, ⟨nd, rfl⟩⟩; refine ⟨_, rfl, ?_⟩) | ((with_reducible refine gate_callee (f := 8) rfl ?_); refine goesL_ (some 52) rfl rfl Try.func8 (by kernel_rfl) rfl #[.int .i64 (wrap64 (Int.tmod (IntKind.u64.wrap (a0)) 62)), .int .i64 (wrap64 (1 + (wrap64 (Int.tmod (IntKind.u64.wrap (a1)) 200)))), .int .i64 (wrap64 ((wrap64 (1 + (wrap64 (Int.tmod (IntKind.u64.wrap (a1)) 200)))) + (wrap64 (Int.tmod (IntKind.u64.wrap (a2)) 3000)))), .int .i64 0] rfl (by (try simp only [List.map_toArray, List.map_cons, List.map_nil]); first | done | rfl | (simp only [List.length_drop, List.length_take]; rfl)) ?_; (with_reducible refine (backoff_Delay.calls k (wrap64 (Int.tmod (IntKind.u64.wrap (a0)) 62)) (wrap64 (1 + (wrap64 (Int.tmod (IntKind.u64.wrap (a1)) 200)))) (wrap64 ((wrap64 (1 + (wrap64 (Int.tmod (IntKind.u64.wrap (a1)) 200)))) + (wrap64 (Int.tmod (IntKind.u64.wrap (a2)) 3000)))) 0 t113 t114 _ A8.out).mono ?_); rintro e w' ⟨rfl, ⟨nd, rfl⟩⟩; refine ⟨_, rfl, ?_⟩) | ((with_reducible refine gate_callee (f := 8) rfl ?_); refine goesL_ (some 60) rfl rfl Try.func8 (by kernel_rfl) rfl #[.int .i64 (wrap64 ((wrap64 (Int.tmod (IntKind.u64.wrap (a0)) 62)) + 1)), .int .i64 (wrap64 (1 + (wrap64 (Int.tmod (IntKind.u64.wrap (a1)) 200)))), .int .i64 (wrap64 ((wrap64 (1 + (wrap64 (Int.tmod (IntKind.u64.wrap (a1)) 200)))) + (wrap64 (Int.tmod (IntKind.u64.wrap (a2)) 3000)))), .int .i64 0] rfl (by (try simp only [List.map_toArray, List.map_cons, List.map_nil]); first | done | rfl | (simp only [List.length_drop, List.length_take]; rfl)) ?_; (with_reducible refine (backoff_Delay.calls k (wrap64 ((wrap64 (Int.tmod (IntKind.u64.wrap (a0)) 62)) + 1)) (wrap64 (1 + (wrap64 (Int.tmod (IntKind.u64.wrap (a1)) 200)))) (wrap64 ((wrap64 (1 + (wrap64 (Int.tmod (IntKind.u64.wrap (a1)) 200)))) + (wrap64 (Int.tmod (IntKind.u64.wrap (a2)) 3000)))) 0 t115 t116 _ A9.out).mono ?_); rintro e w' ⟨rfl, ⟨nd, rfl⟩⟩; refine ⟨_, rfl, ?_⟩) | ((with_reducible refine gate_callee (f := 10) rfl ?_); refine goesL_ (some 64) rfl rfl Try.func10 (by kernel_rfl) rfl #[.int .i64 t112] rfl (by (try simp only [List.map_toArray, List.map_cons, List.map_nil]); first | done | rfl | (simp only [List.length_drop, List.length_take]; rfl)) ?_; (with_reducible refine (withylaw0_Num.calls t112 t117 _ A10.out).mono ?_); rintro e w' ⟨rfl, ⟨nd, rfl⟩⟩; refine ⟨_, rfl, ?_⟩) | (go_at_call 10; (with_reducible refine (withylaw0_Num.calls t114 t118 _ A12.out).mono ?_); rintro e w' ⟨rfl, ⟨nd, rfl⟩⟩) | (go_at_call 10; (with_reducible refine (withylaw0_Num.calls t116 t119 _ A14.out).mono ?_); rintro e w' ⟨rfl, ⟨nd, rfl⟩⟩))
            go_ret
            exact ⟨by first | rfl | (simp; done) | (simp [*]; done), by repeat (first | exact Drawn0.refl _ | apply Drawn0.step)⟩
        · rw [if_neg c15] at H
          have c15b0 : (t119 == 0) = false := beq_eq_false_iff_ne.mpr c15
          have c15b1 : (t119 != 0) = true := bne_iff_ne.mpr c15
          obtain rfl := Option.some.inj H
          go_enter Try.func4, Try.ntmps4
          go_wp2_with (first | ((with_reducible refine gate_callee (f := 11) rfl ?_); refine goesL_ (some 19) rfl rfl Try.func11 (by kernel_rfl) rfl #[] rfl (by (try simp only [List.map_toArray, List.map_cons, List.map_nil]); first | done | rfl | (simp only [List.length_drop, List.length_take]; rfl)) ?_; (with_reducible refine (withylaw12_awake.calls k  true _ A5.out).mono ?_); rintro e w' ⟨rfl, ⟨nd, rfl⟩⟩; refine ⟨_, rfl, ?_⟩) | ((with_reducible refine gate_callee (f := 8) rfl ?_); refine goesL_ (some 45) rfl rfl Try.func8 (by kernel_rfl) rfl #[.int .i64 (wrap64 (Int.tmod (IntKind.u64.wrap (a0)) 62)), .int .i64 (wrap64 (1 + (wrap64 (Int.tmod (IntKind.u64.wrap (a1)) 200)))), .int .i64 (wrap64 ((wrap64 (1 + (wrap64 (Int.tmod (IntKind.u64.wrap (a1)) 200)))) + (wrap64 (Int.tmod (IntKind.u64.wrap (a2)) 3000)))), .int .i64 (wrap64 (Int.tmod (IntKind.u64.wrap (a3)) 1000000))] rfl (by (try simp only [List.map_toArray, List.map_cons, List.map_nil]); first | done | rfl | (simp only [List.length_drop, List.length_take]; rfl)) ?_; (with_reducible refine (backoff_Delay.calls k (wrap64 (Int.tmod (IntKind.u64.wrap (a0)) 62)) (wrap64 (1 + (wrap64 (Int.tmod (IntKind.u64.wrap (a1)) 200)))) (wrap64 ((wrap64 (1 + (wrap64 (Int.tmod (IntKind.u64.wrap (a1)) 200)))) + (wrap64 (Int.tmod (IntKind.u64.wrap (a2)) 3000)))) (wrap64 (Int.tmod (IntKind.u64.wrap (a3)) 1000000)) t111 t112 _ A7.out).mono ?_); rintro e w' ⟨rfl, ⟨nd, rfl⟩⟩; refine ⟨_, rfl, ?_⟩) | ((with_reducible refine gate_callee (f := 8) rfl ?_); refine goesL_ (some 52) rfl rfl Try.func8 (by kernel_rfl) rfl #[.int .i64 (wrap64 (Int.tmod (IntKind.u64.wrap (a0)) 62)), .int .i64 (wrap64 (1 + (wrap64 (Int.tmod (IntKind.u64.wrap (a1)) 200)))), .int .i64 (wrap64 ((wrap64 (1 + (wrap64 (Int.tmod (IntKind.u64.wrap (a1)) 200)))) + (wrap64 (Int.tmod (IntKind.u64.wrap (a2)) 3000)))), .int .i64 0] rfl (by (try simp only [List.map_toArray, List.map_cons, List.map_nil]); first | done | rfl | (simp only [List.length_drop, List.length_take]; rfl)) ?_; (with_reducible refine (backoff_Delay.calls k (wrap64 (Int.tmod (IntKind.u64.wrap (a0)) 62)) (wrap64 (1 + (wrap64 (Int.tmod (IntKind.u64.wrap (a1)) 200)))) (wrap64 ((wrap64 (1 + (wrap64 (Int.tmod (IntKind.u64.wrap (a1)) 200)))) + (wrap64 (Int.tmod (IntKind.u64.wrap (a2)) 3000)))) 0 t113 t114 _ A8.out).mono ?_); rintro e w' ⟨rfl, ⟨nd, rfl⟩⟩; refine ⟨_, rfl, ?_⟩) | ((with_reducible refine gate_callee (f := 8) rfl ?_); refine goesL_ (some 60) rfl rfl Try.func8 (by kernel_rfl) rfl #[.int .i64 (wrap64 ((wrap64 (Int.tmod (IntKind.u64.wrap (a0)) 62)) + 1)), .int .i64 (wrap64 (1 + (wrap64 (Int.tmod (IntKind.u64.wrap (a1)) 200)))), .int .i64 (wrap64 ((wrap64 (1 + (wrap64 (Int.tmod (IntKind.u64.wrap (a1)) 200)))) + (wrap64 (Int.tmod (IntKind.u64.wrap (a2)) 3000)))), .int .i64 0] rfl (by (try simp only [List.map_toArray, List.map_cons, List.map_nil]); first | done | rfl | (simp only [List.length_drop, List.length_take]; rfl)) ?_; (with_reducible refine (backoff_Delay.calls k (wrap64 ((wrap64 (Int.tmod (IntKind.u64.wrap (a0)) 62)) + 1)) (wrap64 (1 + (wrap64 (Int.tmod (IntKind.u64.wrap (a1)) 200)))) (wrap64 ((wrap64 (1 + (wrap64 (Int.tmod (IntKind.u64.wrap (a1)) 200)))) + (wrap64 (Int.tmod (IntKind.u64.wrap (a2)) 3000)))) 0 t115 t116 _ A9.out).mono ?_); rintro e w' ⟨rfl, ⟨nd, rfl⟩⟩; refine ⟨_, rfl, ?_⟩) | ((with_reducible refine gate_callee (f := 10) rfl ?_); refine goesL_ (some 64) rfl rfl Try.func10 (by kernel_rfl) rfl #[.int .i64 t112] rfl (by (try simp only [List.map_toArray, List.map_cons, List.map_nil]); first | done | rfl | (simp only [List.length_drop, List.length_take]; rfl)) ?_; (with_reducible refine (withylaw0_Num.calls t112 t117 _ A10.out).mono ?_); rintro e w' ⟨rfl, ⟨nd, rfl⟩⟩; refine ⟨_, rfl, ?_⟩) | (go_at_call 10; (with_reducible refine (withylaw0_Num.calls t114 t118 _ A12.out).mono ?_); rintro e w' ⟨rfl, ⟨nd, rfl⟩⟩) | (go_at_call 10; (with_reducible refine (withylaw0_Num.calls t116 t119 _ A14.out).mono ?_); rintro e w' ⟨rfl, ⟨nd, rfl⟩⟩))
          go_ret
          exact ⟨by first | rfl | (simp; done) | (simp [*]; done), by repeat (first | exact Drawn0.refl _ | apply Drawn0.step)⟩
      · rw [if_neg c13] at H
        have c13b0 : (t118 == 0) = false := beq_eq_false_iff_ne.mpr c13
        have c13b1 : (t118 != 0) = true := bne_iff_ne.mpr c13
        obtain rfl := Option.some.inj H
        go_enter Try.func4, Try.ntmps4
        go_wp2_with (first | ((with_reducible refine gate_callee (f := 11) rfl ?_); refine goesL_ (some 19) rfl rfl Try.func11 (by kernel_rfl) rfl #[] rfl (by (try simp only [List.map_toArray, List.map_cons, List.map_nil]); first | done | rfl | (simp only [List.length_drop, List.length_take]; rfl)) ?_; (with_reducible refine (withylaw12_awake.calls k  true _ A5.out).mono ?_); rintro e w' ⟨rfl, ⟨nd, rfl⟩⟩; refine ⟨_, rfl, ?_⟩) | ((with_reducible refine gate_callee (f := 8) rfl ?_); refine goesL_ (some 45) rfl rfl Try.func8 (by kernel_rfl) rfl #[.int .i64 (wrap64 (Int.tmod (IntKind.u64.wrap (a0)) 62)), .int .i64 (wrap64 (1 + (wrap64 (Int.tmod (IntKind.u64.wrap (a1)) 200)))), .int .i64 (wrap64 ((wrap64 (1 + (wrap64 (Int.tmod (IntKind.u64.wrap (a1)) 200)))) + (wrap64 (Int.tmod (IntKind.u64.wrap (a2)) 3000)))), .int .i64 (wrap64 (Int.tmod (IntKind.u64.wrap (a3)) 1000000))] rfl (by (try simp only [List.map_toArray, List.map_cons, List.map_nil]); first | done | rfl | (simp only [List.length_drop, List.length_take]; rfl)) ?_; (with_reducible refine (backoff_Delay.calls k (wrap64 (Int.tmod (IntKind.u64.wrap (a0)) 62)) (wrap64 (1 + (wrap64 (Int.tmod (IntKind.u64.wrap (a1)) 200)))) (wrap64 ((wrap64 (1 + (wrap64 (Int.tmod (IntKind.u64.wrap (a1)) 200)))) + (wrap64 (Int.tmod (IntKind.u64.wrap (a2)) 3000)))) (wrap64 (Int.tmod (IntKind.u64.wrap (a3)) 1000000)) t111 t112 _ A7.out).mono ?_); rintro e w' ⟨rfl, ⟨nd, rfl⟩⟩; refine ⟨_, rfl, ?_⟩) | ((with_reducible refine gate_callee (f := 8) rfl ?_); refine goesL_ (some 52) rfl rfl Try.func8 (by kernel_rfl) rfl #[.int .i64 (wrap64 (Int.tmod (IntKind.u64.wrap (a0)) 62)), .int .i64 (wrap64 (1 + (wrap64 (Int.tmod (IntKind.u64.wrap (a1)) 200)))), .int .i64 (wrap64 ((wrap64 (1 + (wrap64 (Int.tmod (IntKind.u64.wrap (a1)) 200)))) + (wrap64 (Int.tmod (IntKind.u64.wrap (a2)) 3000)))), .int .i64 0] rfl (by (try simp only [List.map_toArray, List.map_cons, List.map_nil]); first | done | rfl | (simp only [List.length_drop, List.length_take]; rfl)) ?_; (with_reducible refine (backoff_Delay.calls k (wrap64 (Int.tmod (IntKind.u64.wrap (a0)) 62)) (wrap64 (1 + (wrap64 (Int.tmod (IntKind.u64.wrap (a1)) 200)))) (wrap64 ((wrap64 (1 + (wrap64 (Int.tmod (IntKind.u64.wrap (a1)) 200)))) + (wrap64 (Int.tmod (IntKind.u64.wrap (a2)) 3000)))) 0 t113 t114 _ A8.out).mono ?_); rintro e w' ⟨rfl, ⟨nd, rfl⟩⟩; refine ⟨_, rfl, ?_⟩) | ((with_reducible refine gate_callee (f := 8) rfl ?_); refine goesL_ (some 60) rfl rfl Try.func8 (by kernel_rfl) rfl #[.int .i64 (wrap64 ((wrap64 (Int.tmod (IntKind.u64.wrap (a0)) 62)) + 1)), .int .i64 (wrap64 (1 + (wrap64 (Int.tmod (IntKind.u64.wrap (a1)) 200)))), .int .i64 (wrap64 ((wrap64 (1 + (wrap64 (Int.tmod (IntKind.u64.wrap (a1)) 200)))) + (wrap64 (Int.tmod (IntKind.u64.wrap (a2)) 3000)))), .int .i64 0] rfl (by (try simp only [List.map_toArray, List.map_cons, List.map_nil]); first | done | rfl | (simp only [List.length_drop, List.length_take]; rfl)) ?_; (with_reducible refine (backoff_Delay.calls k (wrap64 ((wrap64 (Int.tmod (IntKind.u64.wrap (a0)) 62)) + 1)) (wrap64 (1 + (wrap64 (Int.tmod (IntKind.u64.wrap (a1)) 200)))) (wrap64 ((wrap64 (1 + (wrap64 (Int.tmod (IntKind.u64.wrap (a1)) 200)))) + (wrap64 (Int.tmod (IntKind.u64.wrap (a2)) 3000)))) 0 t115 t116 _ A9.out).mono ?_); rintro e w' ⟨rfl, ⟨nd, rfl⟩⟩; refine ⟨_, rfl, ?_⟩) | ((with_reducible refine gate_callee (f := 10) rfl ?_); refine goesL_ (some 64) rfl rfl Try.func10 (by kernel_rfl) rfl #[.int .i64 t112] rfl (by (try simp only [List.map_toArray, List.map_cons, List.map_nil]); first | done | rfl | (simp only [List.length_drop, List.length_take]; rfl)) ?_; (with_reducible refine (withylaw0_Num.calls t112 t117 _ A10.out).mono ?_); rintro e w' ⟨rfl, ⟨nd, rfl⟩⟩; refine ⟨_, rfl, ?_⟩) | (go_at_call 10; (with_reducible refine (withylaw0_Num.calls t114 t118 _ A12.out).mono ?_); rintro e w' ⟨rfl, ⟨nd, rfl⟩⟩))
        go_ret
        exact ⟨by first | rfl | (simp; done) | (simp [*]; done), by repeat (first | exact Drawn0.refl _ | apply Drawn0.step)⟩
    · rw [if_neg c11] at H
      have c11b0 : (t117 == 0) = false := beq_eq_false_iff_ne.mpr c11
      have c11b1 : (t117 != 0) = true := bne_iff_ne.mpr c11
      obtain rfl := Option.some.inj H
      go_enter Try.func4, Try.ntmps4
      go_wp2_with (first | ((with_reducible refine gate_callee (f := 11) rfl ?_); refine goesL_ (some 19) rfl rfl Try.func11 (by kernel_rfl) rfl #[] rfl (by (try simp only [List.map_toArray, List.map_cons, List.map_nil]); first | done | rfl | (simp only [List.length_drop, List.length_take]; rfl)) ?_; (with_reducible refine (withylaw12_awake.calls k  true _ A5.out).mono ?_); rintro e w' ⟨rfl, ⟨nd, rfl⟩⟩; refine ⟨_, rfl, ?_⟩) | ((with_reducible refine gate_callee (f := 8) rfl ?_); refine goesL_ (some 45) rfl rfl Try.func8 (by kernel_rfl) rfl #[.int .i64 (wrap64 (Int.tmod (IntKind.u64.wrap (a0)) 62)), .int .i64 (wrap64 (1 + (wrap64 (Int.tmod (IntKind.u64.wrap (a1)) 200)))), .int .i64 (wrap64 ((wrap64 (1 + (wrap64 (Int.tmod (IntKind.u64.wrap (a1)) 200)))) + (wrap64 (Int.tmod (IntKind.u64.wrap (a2)) 3000)))), .int .i64 (wrap64 (Int.tmod (IntKind.u64.wrap (a3)) 1000000))] rfl (by (try simp only [List.map_toArray, List.map_cons, List.map_nil]); first | done | rfl | (simp only [List.length_drop, List.length_take]; rfl)) ?_; (with_reducible refine (backoff_Delay.calls k (wrap64 (Int.tmod (IntKind.u64.wrap (a0)) 62)) (wrap64 (1 + (wrap64 (Int.tmod (IntKind.u64.wrap (a1)) 200)))) (wrap64 ((wrap64 (1 + (wrap64 (Int.tmod (IntKind.u64.wrap (a1)) 200)))) + (wrap64 (Int.tmod (IntKind.u64.wrap (a2)) 3000)))) (wrap64 (Int.tmod (IntKind.u64.wrap (a3)) 1000000)) t111 t112 _ A7.out).mono ?_); rintro e w' ⟨rfl, ⟨nd, rfl⟩⟩; refine ⟨_, rfl, ?_⟩) | ((with_reducible refine gate_callee (f := 8) rfl ?_); refine goesL_ (some 52) rfl rfl Try.func8 (by kernel_rfl) rfl #[.int .i64 (wrap64 (Int.tmod (IntKind.u64.wrap (a0)) 62)), .int .i64 (wrap64 (1 + (wrap64 (Int.tmod (IntKind.u64.wrap (a1)) 200)))), .int .i64 (wrap64 ((wrap64 (1 + (wrap64 (Int.tmod (IntKind.u64.wrap (a1)) 200)))) + (wrap64 (Int.tmod (IntKind.u64.wrap (a2)) 3000)))), .int .i64 0] rfl (by (try simp only [List.map_toArray, List.map_cons, List.map_nil]); first | done | rfl | (simp only [List.length_drop, List.length_take]; rfl)) ?_; (with_reducible refine (backoff_Delay.calls k (wrap64 (Int.tmod (IntKind.u64.wrap (a0)) 62)) (wrap64 (1 + (wrap64 (Int.tmod (IntKind.u64.wrap (a1)) 200)))) (wrap64 ((wrap64 (1 + (wrap64 (Int.tmod (IntKind.u64.wrap (a1)) 200)))) + (wrap64 (Int.tmod (IntKind.u64.wrap (a2)) 3000)))) 0 t113 t114 _ A8.out).mono ?_); rintro e w' ⟨rfl, ⟨nd, rfl⟩⟩; refine ⟨_, rfl, ?_⟩) | ((with_reducible refine gate_callee (f := 8) rfl ?_); refine goesL_ (some 60) rfl rfl Try.func8 (by kernel_rfl) rfl #[.int .i64 (wrap64 ((wrap64 (Int.tmod (IntKind.u64.wrap (a0)) 62)) + 1)), .int .i64 (wrap64 (1 + (wrap64 (Int.tmod (IntKind.u64.wrap (a1)) 200)))), .int .i64 (wrap64 ((wrap64 (1 + (wrap64 (Int.tmod (IntKind.u64.wrap (a1)) 200)))) + (wrap64 (Int.tmod (IntKind.u64.wrap (a2)) 3000)))), .int .i64 0] rfl (by (try simp only [List.map_toArray, List.map_cons, List.map_nil]); first | done | rfl | (simp only [List.length_drop, List.length_take]; rfl)) ?_; (with_reducible refine (backoff_Delay.calls k (wrap64 ((wrap64 (Int.tmod (IntKind.u64.wrap (a0)) 62)) + 1)) (wrap64 (1 + (wrap64 (Int.tmod (IntKind.u64.wrap (a1)) 200)))) (wrap64 ((wrap64 (1 + (wrap64 (Int.tmod (IntKind.u64.wrap (a1)) 200)))) + (wrap64 (Int.tmod (IntKind.u64.wrap (a2)) 3000)))) 0 t115 t116 _ A9.out).mono ?_); rintro e w' ⟨rfl, ⟨nd, rfl⟩⟩; refine ⟨_, rfl, ?_⟩) | ((with_reducible refine gate_callee (f := 10) rfl ?_); refine goesL_ (some 64) rfl rfl Try.func10 (by kernel_rfl) rfl #[.int .i64 t112] rfl (by (try simp only [List.map_toArray, List.map_cons, List.map_nil]); first | done | rfl | (simp only [List.length_drop, List.length_take]; rfl)) ?_; (with_reducible refine (withylaw0_Num.calls t112 t117 _ A10.out).mono ?_); rintro e w' ⟨rfl, ⟨nd, rfl⟩⟩; refine ⟨_, rfl, ?_⟩))
      go_ret
      exact ⟨by first | rfl | (simp; done) | (simp [*]; done), by repeat (first | exact Drawn0.refl _ | apply Drawn0.step)⟩
  · replace c6 := Bool.eq_false_iff.mpr c6
    subst c6
    have H1 : (some false) = some r := by rw [if_neg (show ¬ (false = true) by decide)] at H; exact H
    clear H
    have H := H1
    clear H1
    obtain rfl := Option.some.inj H
    go_enter Try.func4, Try.ntmps4
    go_wp2_with (first | ((with_reducible refine gate_callee (f := 11) rfl ?_); refine goesL_ (some 19) rfl rfl Try.func11 (by kernel_rfl) rfl #[] rfl (by (try simp only [List.map_toArray, List.map_cons, List.map_nil]); first | done | rfl | (simp only [List.length_drop, List.length_take]; rfl)) ?_; (with_reducible refine (withylaw12_awake.calls k  false _ A5.out).mono ?_); rintro e w' ⟨rfl, ⟨nd, rfl⟩⟩; refine ⟨_, rfl, ?_⟩))
    go_ret
    exact ⟨by first | rfl | (simp; done) | (simp [*]; done), by repeat (first | exact Drawn0.refl _ | apply Drawn0.step)⟩

/-- THE ONE PURE STATEMENT of withylaw12_DelayBounds: yours. -/
def withylaw12_DelayBounds.Pure : Prop := ∀ (a0 : Int) (a1 : Int) (a2 : Int) (a3 : Int), (Lit.int .i64 a0).wf = true → (Lit.int .i64 a1).wf = true → (Lit.int .i64 a2).wf = true → (Lit.int .i64 a3).wf = true → ∃ k, withylaw12_DelayBounds.f k a0 a1 a2 a3 = some true
theorem withylaw12_DelayBounds.walk (P : withylaw12_DelayBounds.Pure) (a0 : Int) (a1 : Int) (a2 : Int) (a3 : Int) (w : World) (w0 : (Lit.int .i64 a0).wf = true) (w1 : (Lit.int .i64 a1).wf = true) (w2 : (Lit.int .i64 a2).wf = true) (w3 : (Lit.int .i64 a3).wf = true) :
    Calls Try.prog 4 #[.int .i64 a0, .int .i64 a1, .int .i64 a2, .int .i64 a3] w fun e w' => e = .returned (.bool true) ∧ Below w.heap.size w w' := by
  obtain ⟨k, h⟩ := P a0 a1 a2 a3 w0 w1 w2 w3
  refine (withylaw12_DelayBounds.calls k a0 a1 a2 a3 true w h).mono ?_
  rintro e w' ⟨rfl, hd⟩
  exact ⟨rfl, hd.below⟩

end Go.Proofs.Ytpjjacdefafakaa.PDelayBounds
