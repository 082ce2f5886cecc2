-- PRINTED BY print.sh 35421559b90ae4d0a3588c463048766b98c2df88dd9212a6774a882060cdf62d: not written by this session
import Derived.Test.YtmkabpkcgpnpbaaPWithyNamesx0
import Derived.Test.YtmkabpkcgpnpbaaPWithyNamesx1
namespace Go.Proofs.Ytmkabpkcgpnpbaa.PWithyNames
open Go.RowKit Go.Proofs.YtmkabpkcgpnpbaaW.PrintWords Go.Proofs.YtmkabpkcgpnpbaaW.PrintLast Go.Proofs.YtmkabpkcgpnpbaaW.PrintMore
attribute [local go_sem] max2_int min2_int max_two min_two max_three min_three max_four min_four   -- for this text's walks alone
set_option linter.unusedVariables false
set_option linter.unusedSimpArgs false

/-! ### withylaw0_errors4: function 7 -/
def withylaw0_errors4.f  : Option (Bool) := (withylaw0_Num.f 2001).bind fun t143 => (if t143 = 2001 then ((withylaw0_Num.f 2002).bind fun t144 => (if t144 = 2002 then ((withylaw0_Num.f 2003).bind fun t145 => (if t145 = 2003 then ((withylaw0_Num.f 2100).bind fun t146 => (if t146 = 2100 then ((withylaw0_Num.f 2200).bind fun t147 => (if t147 = 2200 then ((withylaw0_Num.f 2201).bind fun t148 => (if t148 = 2201 then ((withylaw0_Num.f 2202).bind fun t149 => (if t149 = 2202 then ((withylaw0_Num.f 2300).bind fun t150 => (if t150 = 2300 then ((withylaw0_Num.f 2400).bind fun t151 => (if t151 = 2400 then ((withylaw0_Num.f 2500).bind fun t152 => (if t152 = 2500 then ((withylaw0_Num.f 2501).bind fun t153 => (if t153 = 2501 then ((withylaw0_Num.f 2502).bind fun t154 => (if t154 = 2502 then ((withylaw0_Num.f 2503).bind fun t155 => (if t155 = 2503 then ((withylaw0_Num.f 2600).bind fun t156 => (some (t156 == 2600))) else (some false))) else (some false))) else (some false))) else (some false))) else (some false))) else (some false))) else (some false))) else (some false))) else (some false))) else (some false))) else (some false))) else (some false))) else (some false))
set_option maxHeartbeats 8000000 in
set_option maxRecDepth 100000 in
theorem withylaw0_errors4.calls  (r : Bool) (w : World) (h : withylaw0_errors4.f  = some r) :
    Calls Try.prog 7 #[] w fun e w' => e = .returned (.bool r) ∧ Drawn0 w w' := by
  have H : ((withylaw0_Num.f 2001).bind fun t143 => (if t143 = 2001 then ((withylaw0_Num.f 2002).bind fun t144 => (if t144 = 2002 then ((withylaw0_Num.f 2003).bind fun t145 => (if t145 = 2003 then ((withylaw0_Num.f 2100).bind fun t146 => (if t146 = 2100 then ((withylaw0_Num.f 2200).bind fun t147 => (if t147 = 2200 then ((withylaw0_Num.f 2201).bind fun t148 => (if t148 = 2201 then ((withylaw0_Num.f 2202).bind fun t149 => (if t149 = 2202 then ((withylaw0_Num.f 2300).bind fun t150 => (if t150 = 2300 then ((withylaw0_Num.f 2400).bind fun t151 => (if t151 = 2400 then ((withylaw0_Num.f 2500).bind fun t152 => (if t152 = 2500 then ((withylaw0_Num.f 2501).bind fun t153 => (if t153 = 2501 then ((withylaw0_Num.f 2502).bind fun t154 => (if t154 = 2502 then ((withylaw0_Num.f 2503).bind fun t155 => (if t155 = 2503 then ((withylaw0_Num.f 2600).bind fun t156 => (some (t156 == 2600))) else (some false))) else (some false))) else (some false))) else (some false))) else (some false))) else (some false))) else (some false))) else (some false))) else (some false))) else (some false))) else (some false))) else (some false))) else (some false))) = some r := h
  clear h
  replace H := Option.bind_eq_some_iff.mp H
  obtain ⟨t143, A10, H⟩ := H
  replace H : (if t143 = 2001 then ((withylaw0_Num.f 2002).bind fun t144 => (if t144 = 2002 then ((withylaw0_Num.f 2003).bind fun t145 => (if t145 = 2003 then ((withylaw0_Num.f 2100).bind fun t146 => (if t146 = 2100 then ((withylaw0_Num.f 2200).bind fun t147 => (if t147 = 2200 then ((withylaw0_Num.f 2201).bind fun t148 => (if t148 = 2201 then ((withylaw0_Num.f 2202).bind fun t149 => (if t149 = 2202 then ((withylaw0_Num.f 2300).bind fun t150 => (if t150 = 2300 then ((withylaw0_Num.f 2400).bind fun t151 => (if t151 = 2400 then ((withylaw0_Num.f 2500).bind fun t152 => (if t152 = 2500 then ((withylaw0_Num.f 2501).bind fun t153 => (if t153 = 2501 then ((withylaw0_Num.f 2502).bind fun t154 => (if t154 = 2502 then ((withylaw0_Num.f 2503).bind fun t155 => (if t155 = 2503 then ((withylaw0_Num.f 2600).bind fun t156 => (some (t156 == 2600))) else (some false))) else (some false))) else (some false))) else (some false))) else (some false))) else (some false))) else (some false))) else (some false))) else (some false))) else (some false))) else (some false))) else (some false))) else (some false)) = some r := H
  have A1 := Aside0.mk A10
  clear A10
  by_cases c2 : t143 = 2001
  · rw [if_pos c2] at H
    have c2b0 : (t143 == 2001) = true := beq_iff_eq.mpr c2
    have c2b1 : (t143 != 2001) = false := bne_eq_false_iff_eq.mpr c2
    clear c2
    replace H := Option.bind_eq_some_iff.mp H
    obtain ⟨t144, A30, H⟩ := H
    replace H : (if t144 = 2002 then ((withylaw0_Num.f 2003).bind fun t145 => (if t145 = 2003 then ((withylaw0_Num.f 2100).bind fun t146 => (if t146 = 2100 then ((withylaw0_Num.f 2200).bind fun t147 => (if t147 = 2200 then ((withylaw0_Num.f 2201).bind fun t148 => (if t148 = 2201 then ((withylaw0_Num.f 2202).bind fun t149 => (if t149 = 2202 then ((withylaw0_Num.f 2300).bind fun t150 => (if t150 = 2300 then ((withylaw0_Num.f 2400).bind fun t151 => (if t151 = 2400 then ((withylaw0_Num.f 2500).bind fun t152 => (if t152 = 2500 then ((withylaw0_Num.f 2501).bind fun t153 => (if t153 = 2501 then ((withylaw0_Num.f 2502).bind fun t154 => (if t154 = 2502 then ((withylaw0_Num.f 2503).bind fun t155 => (if t155 = 2503 then ((withylaw0_Num.f 2600).bind fun t156 => (some (t156 == 2600))) else (some false))) else (some false))) else (some false))) else (some false))) else (some false))) else (some false))) else (some false))) else (some false))) else (some false))) else (some false))) else (some false))) else (some false)) = some r := H
    have A3 := Aside0.mk A30
    clear A30
    by_cases c4 : t144 = 2002
    · rw [if_pos c4] at H
      have c4b0 : (t144 == 2002) = true := beq_iff_eq.mpr c4
      have c4b1 : (t144 != 2002) = false := bne_eq_false_iff_eq.mpr c4
      clear c4
      replace H := Option.bind_eq_some_iff.mp H
      obtain ⟨t145, A50, H⟩ := H
      replace H : (if t145 = 2003 then ((withylaw0_Num.f 2100).bind fun t146 => (if t146 = 2100 then ((withylaw0_Num.f 2200).bind fun t147 => (if t147 = 2200 then ((withylaw0_Num.f 2201).bind fun t148 => (if t148 = 2201 then ((withylaw0_Num.f 2202).bind fun t149 => (if t149 = 2202 then ((withylaw0_Num.f 2300).bind fun t150 => (if t150 = 2300 then ((withylaw0_Num.f 2400).bind fun t151 => (if t151 = 2400 then ((withylaw0_Num.f 2500).bind fun t152 => (if t152 = 2500 then ((withylaw0_Num.f 2501).bind fun t153 => (if t153 = 2501 then ((withylaw0_Num.f 2502).bind fun t154 => (if t154 = 2502 then ((withylaw0_Num.f 2503).bind fun t155 => (if t155 = 2503 then ((withylaw0_Num.f 2600).bind fun t156 => (some (t156 == 2600))) else (some false))) else (some false))) else (some false))) else (some false))) else (some false))) else (some false))) else (some false))) else (some false))) else (some false))) else (some false))) else (some false)) = some r := H
      have A5 := Aside0.mk A50
      clear A50
      by_cases c6 : t145 = 2003
      · rw [if_pos c6] at H
        have c6b0 : (t145 == 2003) = true := beq_iff_eq.mpr c6
        have c6b1 : (t145 != 2003) = false := bne_eq_false_iff_eq.mpr c6
        clear c6
        replace H := Option.bind_eq_some_iff.mp H
        obtain ⟨t146, A70, H⟩ := H
        replace H : (if t146 = 2100 then ((withylaw0_Num.f 2200).bind fun t147 => (if t147 = 2200 then ((withylaw0_Num.f 2201).bind fun t148 => (if t148 = 2201 then ((withylaw0_Num.f 2202).bind fun t149 => (if t149 = 2202 then ((withylaw0_Num.f 2300).bind fun t150 => (if t150 = 2300 then ((withylaw0_Num.f 2400).bind fun t151 => (if t151 = 2400 then ((withylaw0_Num.f 2500).bind fun t152 => (if t152 = 2500 then ((withylaw0_Num.f 2501).bind fun t153 => (if t153 = 2501 then ((withylaw0_Num.f 2502).bind fun t154 => (if t154 = 2502 then ((withylaw0_Num.f 2503).bind fun t155 => (if t155 = 2503 then ((withylaw0_Num.f 2600).bind fun t156 => (some (t156 == 2600))) else (some false))) else (some false))) else (some false))) else (some false))) else (some false))) else (some false))) else (some false))) else (some false))) else (some false))) else (some false)) = some r := H
        have A7 := Aside0.mk A70
        clear A70
        by_cases c8 : t146 = 2100
        · rw [if_pos c8] at H
          have c8b0 : (t146 == 2100) = true := beq_iff_eq.mpr c8
          have c8b1 : (t146 != 2100) = false := bne_eq_false_iff_eq.mpr c8
          clear c8
          replace H := Option.bind_eq_some_iff.mp H
          obtain ⟨t147, A90, H⟩ := H
          replace H : (if t147 = 2200 then ((withylaw0_Num.f 2201).bind fun t148 => (if t148 = 2201 then ((withylaw0_Num.f 2202).bind fun t149 => (if t149 = 2202 then ((withylaw0_Num.f 2300).bind fun t150 => (if t150 = 2300 then ((withylaw0_Num.f 2400).bind fun t151 => (if t151 = 2400 then ((withylaw0_Num.f 2500).bind fun t152 => (if t152 = 2500 then ((withylaw0_Num.f 2501).bind fun t153 => (if t153 = 2501 then ((withylaw0_Num.f 2502).bind fun t154 => (if t154 = 2502 then ((withylaw0_Num.f 2503).bind fun t155 => (if t155 = 2503 then ((withylaw0_Num.f 2600).bind fun t156 => (some (t156 == 2600))) else (some false))) else (some false))) else (some false))) else (some false))) else (some false))) else (some false))) else (some false))) else (some false))) else (some false)) = some r := H
          have A9 := Aside0.mk A90
          clear A90
          by_cases c10 : t147 = 2200
          · rw [if_pos c10] at H
            have c10b0 : (t147 == 2200) = true := beq_iff_eq.mpr c10
            have c10b1 : (t147 != 2200) = false := bne_eq_false_iff_eq.mpr c10
            clear c10
            replace H := Option.bind_eq_some_iff.mp H
            obtain ⟨t148, A110, H⟩ := H
            replace H : (if t148 = 2201 then ((withylaw0_Num.f 2202).bind fun t149 => (if t149 = 2202 then ((withylaw0_Num.f 2300).bind fun t150 => (if t150 = 2300 then ((withylaw0_Num.f 2400).bind fun t151 => (if t151 = 2400 then ((withylaw0_Num.f 2500).bind fun t152 => (if t152 = 2500 then ((withylaw0_Num.f 2501).bind fun t153 => (if t153 = 2501 then ((withylaw0_Num.f 2502).bind fun t154 => (if t154 = 2502 then ((withylaw0_Num.f 2503).bind fun t155 => (if t155 = 2503 then ((withylaw0_Num.f 2600).bind fun t156 => (some (t156 == 2600))) else (some false))) else (some false))) else (some false))) else (some false))) else (some false))) else (some false))) else (some false))) else (some false)) = some r := H
            have A11 := Aside0.mk A110
            clear A110
            by_cases c12 : t148 = 2201
            · rw [if_pos c12] at H
              have c12b0 : (t148 == 2201) = true := beq_iff_eq.mpr c12
              have c12b1 : (t148 != 2201) = false := bne_eq_false_iff_eq.mpr c12
              clear c12
              replace H := Option.bind_eq_some_iff.mp H
              obtain ⟨t149, A130, H⟩ := H
              replace H : (if t149 = 2202 then ((withylaw0_Num.f 2300).bind fun t150 => (if t150 = 2300 then ((withylaw0_Num.f 2400).bind fun t151 => (if t151 = 2400 then ((withylaw0_Num.f 2500).bind fun t152 => (if t152 = 2500 then ((withylaw0_Num.f 2501).bind fun t153 => (if t153 = 2501 then ((withylaw0_Num.f 2502).bind fun t154 => (if t154 = 2502 then ((withylaw0_Num.f 2503).bind fun t155 => (if t155 = 2503 then ((withylaw0_Num.f 2600).bind fun t156 => (some (t156 == 2600))) else (some false))) else (some false))) else (some false))) else (some false))) else (some false))) else (some false))) else (some false)) = some r := H
              have A13 := Aside0.mk A130
              clear A130
              by_cases c14 : t149 = 2202
              · rw [if_pos c14] at H
                have c14b0 : (t149 == 2202) = true := beq_iff_eq.mpr c14
                have c14b1 : (t149 != 2202) = false := bne_eq_false_iff_eq.mpr c14
                clear c14
                replace H := Option.bind_eq_some_iff.mp H
                obtain ⟨t150, A150, H⟩ := H
                replace H : (if t150 = 2300 then ((withylaw0_Num.f 2400).bind fun t151 => (if t151 = 2400 then ((withylaw0_Num.f 2500).bind fun t152 => (if t152 = 2500 then ((withylaw0_Num.f 2501).bind fun t153 => (if t153 = 2501 then ((withylaw0_Num.f 2502).bind fun t154 => (if t154 = 2502 then ((withylaw0_Num.f 2503).bind fun t155 => (if t155 = 2503 then ((withylaw0_Num.f 2600).bind fun t156 => (some (t156 == 2600))) else (some false))) else (some false))) else (some false))) else (some false))) else (some false))) else (some false)) = some r := H
                have A15 := Aside0.mk A150
                clear A150
                by_cases c16 : t150 = 2300
                · rw [if_pos c16] at H
                  have c16b0 : (t150 == 2300) = true := beq_iff_eq.mpr c16
                  have c16b1 : (t150 != 2300) = false := bne_eq_false_iff_eq.mpr c16
                  clear c16
                  replace H := Option.bind_eq_some_iff.mp H
                  obtain ⟨t151, A170, H⟩ := H
                  replace H : (if t151 = 2400 then ((withylaw0_Num.f 2500).bind fun t152 => (if t152 = 2500 then ((withylaw0_Num.f 2501).bind fun t153 => (if t153 = 2501 then ((withylaw0_Num.f 2502).bind fun t154 => (if t154 = 2502 then ((withylaw0_Num.f 2503).bind fun t155 => (if t155 = 2503 then ((withylaw0_Num.f 2600).bind fun t156 => (some (t156 == 2600))) else (some false))) else (some false))) else (some false))) else (some false))) else (some false)) = some r := H
                  have A17 := Aside0.mk A170
                  clear A170
                  by_cases c18 : t151 = 2400
                  · rw [if_pos c18] at H
                    have c18b0 : (t151 == 2400) = true := beq_iff_eq.mpr c18
                    have c18b1 : (t151 != 2400) = false := bne_eq_false_iff_eq.mpr c18
                    clear c18
                    replace H := Option.bind_eq_some_iff.mp H
                    obtain ⟨t152, A190, H⟩ := H
                    replace H : (if t152 = 2500 then ((withylaw0_Num.f 2501).bind fun t153 => (if t153 = 2501 then ((withylaw0_Num.f 2502).bind fun t154 => (if t154 = 2502 then ((withylaw0_Num.f 2503).bind fun t155 => (if t155 = 2503 then ((withylaw0_Num.f 2600).bind fun t156 => (some (t156 == 2600))) else (some false))) else (some false))) else (some false))) else (some false)) = some r := H
                    have A19 := Aside0.mk A190
                    clear A190
                    by_cases c20 : t152 = 2500
                    · rw [if_pos c20] at H
                      have c20b0 : (t152 == 2500) = true := beq_iff_eq.mpr c20
                      have c20b1 : (t152 != 2500) = false := bne_eq_false_iff_eq.mpr c20
                      clear c20
                      replace H := Option.bind_eq_some_iff.mp H
                      obtain ⟨t153, A210, H⟩ := H
                      replace H : (if t153 = 2501 then ((withylaw0_Num.f 2502).bind fun t154 => (if t154 = 2502 then ((withylaw0_Num.f 2503).bind fun t155 => (if t155 = 2503 then ((withylaw0_Num.f 2600).bind fun t156 => (some (t156 == 2600))) else (some false))) else (some false))) else (some false)) = some r := H
                      have A21 := Aside0.mk A210
                      clear A210
                      by_cases c22 : t153 = 2501
                      · rw [if_pos c22] at H
                        have c22b0 : (t153 == 2501) = true := beq_iff_eq.mpr c22
                        have c22b1 : (t153 != 2501) = false := bne_eq_false_iff_eq.mpr c22
                        clear c22
                        replace H := Option.bind_eq_some_iff.mp H
                        obtain ⟨t154, A230, H⟩ := H
                        replace H : (if t154 = 2502 then ((withylaw0_Num.f 2503).bind fun t155 => (if t155 = 2503 then ((withylaw0_Num.f 2600).bind fun t156 => (some (t156 == 2600))) else (some false))) else (some false)) = some r := H
                        have A23 := Aside0.mk A230
                        clear A230
                        by_cases c24 : t154 = 2502
                        · rw [if_pos c24] at H
                          have c24b0 : (t154 == 2502) = true := beq_iff_eq.mpr c24
                          have c24b1 : (t154 != 2502) = false := bne_eq_false_iff_eq.mpr c24
                          clear c24
                          replace H := Option.bind_eq_some_iff.mp H
                          obtain ⟨t155, A250, H⟩ := H
                          replace H : (if t155 = 2503 then ((withylaw0_Num.f 2600).bind fun t156 => (some (t156 == 2600))) else (some false)) = some r := H
                          have A25 := Aside0.mk A250
                          clear A250
                          by_cases c26 : t155 = 2503
                          · rw [if_pos c26] at H
                            have c26b0 : (t155 == 2503) = true := beq_iff_eq.mpr c26
                            have c26b1 : (t155 != 2503) = false := bne_eq_false_iff_eq.mpr c26
                            clear c26
                            replace H := Option.bind_eq_some_iff.mp H
                            obtain ⟨t156, A270, H⟩ := H
                            replace H : (some (t156 == 2600)) = some r := H
                            have A27 := Aside0.mk A270
                            clear A270
                            obtain rfl := Option.some.inj H
                            go_enter Try.func7, Try.ntmps7
                            go_wp2_with (first | ((with_reducible refine gate_callee (f := 18) rfl ?_); refine goesL_ (some 1) rfl rfl Try.func18 (by kernel_rfl) rfl #[.int .i64 2001] rfl (by (try simp only [List.map_toArray, List.map_cons, List.map_nil]); first | done | rfl | (simp only [List.length_drop, List.length_take]; rfl)) ?_; (with_reducible refine (withylaw0_Num.calls 2001 t143 _ A1.out).mono ?_); rintro e w' ⟨rfl, ⟨nd, rfl⟩⟩; refine ⟨_, rfl, ?_⟩) | (go_at_call 18; (with_reducible refine (withylaw0_Num.calls 2002 t144 _ A3.out).mono ?_); rintro e w' ⟨rfl, ⟨nd, rfl⟩⟩) | (go_at_call 18; (with_reducible refine (withylaw0_Num.calls 2003 t145 _ A5.out).mono ?_); rintro e w' ⟨rfl, ⟨nd, rfl⟩⟩) | (go_at_call 18; (with_reducible refine (withylaw0_Num.calls 2100 t146 _ A7.out).mono ?_); rintro e w' ⟨rfl, ⟨nd, rfl⟩⟩) | (go_at_call 18; (with_reducible refine (withylaw0_Num.calls 2200 t147 _ A9.out).mono ?_); rintro e w' ⟨rfl, ⟨nd, rfl⟩⟩) | (go_at_call 18; (with_reducible refine (withylaw0_Num.calls 2201 t148 _ A11.out).mono ?_); rintro e w' ⟨rfl, ⟨nd, rfl⟩⟩) | (go_at_call 18; (with_reducible refine (withylaw0_Num.calls 2202 t149 _ A13.out).mono ?_); rintro e w' ⟨rfl, ⟨nd, rfl⟩⟩) | (go_at_call 18; (with_reducible refine (withylaw0_Num.calls 2300 t150 _ A15.out).mono ?_); rintro e w' ⟨rfl, ⟨nd, rfl⟩⟩) | (go_at_call 18; (with_reducible refine (withylaw0_Num.calls 2400 t151 _ A17.out).mono ?_); rintro e w' ⟨rfl, ⟨nd, rfl⟩⟩) | (go_at_call 18; (with_reducible refine (withylaw0_Num.calls 2500 t152 _ A19.out).mono ?_); rintro e w' ⟨rfl, ⟨nd, rfl⟩⟩) | (go_at_call 18; (with_reducible refine (withylaw0_Num.calls 2501 t153 _ A21.out).mono ?_); rintro e w' ⟨rfl, ⟨nd, rfl⟩⟩) | (go_at_call 18; (with_reducible refine (withylaw0_Num.calls 2502 t154 _ A23.out).mono ?_); rintro e w' ⟨rfl, ⟨nd, rfl⟩⟩) | (go_at_call 18; (with_reducible refine (withylaw0_Num.calls 2503 t155 _ A25.out).mono ?_); rintro e w' ⟨rfl, ⟨nd, rfl⟩⟩) | (go_at_call 18; (with_reducible refine (withylaw0_Num.calls 2600 t156 _ A27.out).mono ?_); rintro e w' ⟨rfl, ⟨nd, rfl⟩⟩))
                            go_ret
                            exact ⟨by first | rfl | (simp; done) | (simp [*]; done), by repeat (first | exact Drawn0.refl _ | apply Drawn0.step)⟩
                          · rw [if_neg c26] at H
                            have c26b0 : (t155 == 2503) = false := beq_eq_false_iff_ne.mpr c26
                            have c26b1 : (t155 != 2503) = true := bne_iff_ne.mpr c26
                            obtain rfl := Option.some.inj H
                            go_enter Try.func7, Try.ntmps7
                            go_wp2_with (first | ((with_reducible refine gate_callee (f := 18) rfl ?_); refine goesL_ (some 1) rfl rfl Try.func18 (by kernel_rfl) rfl #[.int .i64 2001] rfl (by (try simp only [List.map_toArray, List.map_cons, List.map_nil]); first | done | rfl | (simp only [List.length_drop, List.length_take]; rfl)) ?_; (with_reducible refine (withylaw0_Num.calls 2001 t143 _ A1.out).mono ?_); rintro e w' ⟨rfl, ⟨nd, rfl⟩⟩; refine ⟨_, rfl, ?_⟩) | (go_at_call 18; (with_reducible refine (withylaw0_Num.calls 2002 t144 _ A3.out).mono ?_); rintro e w' ⟨rfl, ⟨nd, rfl⟩⟩) | (go_at_call 18; (with_reducible refine (withylaw0_Num.calls 2003 t145 _ A5.out).mono ?_); rintro e w' ⟨rfl, ⟨nd, rfl⟩⟩) | (go_at_call 18; (with_reducible refine (withylaw0_Num.calls 2100 t146 _ A7.out).mono ?_); rintro e w' ⟨rfl, ⟨nd, rfl⟩⟩) | (go_at_call 18; (with_reducible refine (withylaw0_Num.calls 2200 t147 _ A9.out).mono ?_); rintro e w' ⟨rfl, ⟨nd, rfl⟩⟩) | (go_at_call 18; (with_reducible refine (withylaw0_Num.calls 2201 t148 _ A11.out).mono ?_); rintro e w' ⟨rfl, ⟨nd, rfl⟩⟩) | (go_at_call 18; (with_reducible refine (withylaw0_Num.calls 2202 t149 _ A13.out).mono ?_); rintro e w' ⟨rfl, ⟨nd, rfl⟩⟩) | (go_at_call 18; (with_reducible refine (withylaw0_Num.calls 2300 t150 _ A15.out).mono ?_); rintro e w' ⟨rfl, ⟨nd, rfl⟩⟩) | (go_at_call 18; (with_reducible refine (withylaw0_Num.calls 2400 t151 _ A17.out).mono ?_); rintro e w' ⟨rfl, ⟨nd, rfl⟩⟩) | (go_at_call 18; (with_reducible refine (withylaw0_Num.calls 2500 t152 _ A19.out).mono ?_); rintro e w' ⟨rfl, ⟨nd, rfl⟩⟩) | (go_at_call 18; (with_reducible refine (withylaw0_Num.calls 2501 t153 _ A21.out).mono ?_); rintro e w' ⟨rfl, ⟨nd, rfl⟩⟩) | (go_at_call 18; (with_reducible refine (withylaw0_Num.calls 2502 t154 _ A23.out).mono ?_); rintro e w' ⟨rfl, ⟨nd, rfl⟩⟩) | (go_at_call 18; (with_reducible refine (withylaw0_Num.calls 2503 t155 _ A25.out).mono ?_); rintro e w' ⟨rfl, ⟨nd, rfl⟩⟩))
                            go_ret
                            exact ⟨by first | rfl | (simp; done) | (simp [*]; done), by repeat (first | exact Drawn0.refl _ | apply Drawn0.step)⟩
                        · rw [if_neg c24] at H
                          have c24b0 : (t154 == 2502) = false := beq_eq_false_iff_ne.mpr c24
                          have c24b1 : (t154 != 2502) = true := bne_iff_ne.mpr c24
                          obtain rfl := Option.some.inj H
                          go_enter Try.func7, Try.ntmps7
                          go_wp2_with (first | ((with_reducible refine gate_callee (f := 18) rfl ?_); refine goesL_ (some 1) rfl rfl Try.func18 (by kernel_rfl) rfl #[.int .i64 2001] rfl (by (try simp only [List.map_toArray, List.map_cons, List.map_nil]); first | done | rfl | (simp only [List.length_drop, List.length_take]; rfl)) ?_; (with_reducible refine (withylaw0_Num.calls 2001 t143 _ A1.out).mono ?_); rintro e w' ⟨rfl, ⟨nd, rfl⟩⟩; refine ⟨_, rfl, ?_⟩) | (go_at_call 18; (with_reducible refine (withylaw0_Num.calls 2002 t144 _ A3.out).mono ?_); rintro e w' ⟨rfl, ⟨nd, rfl⟩⟩) | (go_at_call 18; (with_reducible refine (withylaw0_Num.calls 2003 t145 _ A5.out).mono ?_); rintro e w' ⟨rfl, ⟨nd, rfl⟩⟩) | (go_at_call 18; (with_reducible refine (withylaw0_Num.calls 2100 t146 _ A7.out).mono ?_); rintro e w' ⟨rfl, ⟨nd, rfl⟩⟩) | (go_at_call 18; (with_reducible refine (withylaw0_Num.calls 2200 t147 _ A9.out).mono ?_); rintro e w' ⟨rfl, ⟨nd, rfl⟩⟩) | (go_at_call 18; (with_reducible refine (withylaw0_Num.calls 2201 t148 _ A11.out).mono ?_); rintro e w' ⟨rfl, ⟨nd, rfl⟩⟩) | (go_at_call 18; (with_reducible refine (withylaw0_Num.calls 2202 t149 _ A13.out).mono ?_); rintro e w' ⟨rfl, ⟨nd, rfl⟩⟩) | (go_at_call 18; (with_reducible refine (withylaw0_Num.calls 2300 t150 _ A15.out).mono ?_); rintro e w' ⟨rfl, ⟨nd, rfl⟩⟩) | (go_at_call 18; (with_reducible refine (withylaw0_Num.calls 2400 t151 _ A17.out).mono ?_); rintro e w' ⟨rfl, ⟨nd, rfl⟩⟩) | (go_at_call 18; (with_reducible refine (withylaw0_Num.calls 2500 t152 _ A19.out).mono ?_); rintro e w' ⟨rfl, ⟨nd, rfl⟩⟩) | (go_at_call 18; (with_reducible refine (withylaw0_Num.calls 2501 t153 _ A21.out).mono ?_); rintro e w' ⟨rfl, ⟨nd, rfl⟩⟩) | (go_at_call 18; (with_reducible refine (withylaw0_Num.calls 2502 t154 _ A23.out).mono ?_); rintro e w' ⟨rfl, ⟨nd, rfl⟩⟩))
                          go_ret
                          exact ⟨by first | rfl | (simp; done) | (simp [*]; done), by repeat (first | exact Drawn0.refl _ | apply Drawn0.step)⟩
                      · rw [if_neg c22] at H
                        have c22b0 : (t153 == 2501) = false := beq_eq_false_iff_ne.mpr c22
                        have c22b1 : (t153 != 2501) = true := bne_iff_ne.mpr c22
                        obtain rfl := Option.some.inj H
                        go_enter Try.func7, Try.ntmps7
                        go_wp2_with (first | ((with_reducible refine gate_callee (f := 18) rfl ?_); refine goesL_ (some 1) rfl rfl Try.func18 (by kernel_rfl) rfl #[.int .i64 2001] rfl (by (try simp only [List.map_toArray, List.map_cons, List.map_nil]); first | done | rfl | (simp only [List.length_drop, List.length_take]; rfl)) ?_; (with_reducible refine (withylaw0_Num.calls 2001 t143 _ A1.out).mono ?_); rintro e w' ⟨rfl, ⟨nd, rfl⟩⟩; refine ⟨_, rfl, ?_⟩) | (go_at_call 18; (with_reducible refine (withylaw0_Num.calls 2002 t144 _ A3.out).mono ?_); rintro e w' ⟨rfl, ⟨nd, rfl⟩⟩) | (go_at_call 18; (with_reducible refine (withylaw0_Num.calls 2003 t145 _ A5.out).mono ?_); rintro e w' ⟨rfl, ⟨nd, rfl⟩⟩) | (go_at_call 18; (with_reducible refine (withylaw0_Num.calls 2100 t146 _ A7.out).mono ?_); rintro e w' ⟨rfl, ⟨nd, rfl⟩⟩) | (go_at_call 18; (with_reducible refine (withylaw0_Num.calls 2200 t147 _ A9.out).mono ?_); rintro e w' ⟨rfl, ⟨nd, rfl⟩⟩) | (go_at_call 18; (with_reducible refine (withylaw0_Num.calls 2201 t148 _ A11.out).mono ?_); rintro e w' ⟨rfl, ⟨nd, rfl⟩⟩) | (go_at_call 18; (with_reducible refine (withylaw0_Num.calls 2202 t149 _ A13.out).mono ?_); rintro e w' ⟨rfl, ⟨nd, rfl⟩⟩) | (go_at_call 18; (with_reducible refine (withylaw0_Num.calls 2300 t150 _ A15.out).mono ?_); rintro e w' ⟨rfl, ⟨nd, rfl⟩⟩) | (go_at_call 18; (with_reducible refine (withylaw0_Num.calls 2400 t151 _ A17.out).mono ?_); rintro e w' ⟨rfl, ⟨nd, rfl⟩⟩) | (go_at_call 18; (with_reducible refine (withylaw0_Num.calls 2500 t152 _ A19.out).mono ?_); rintro e w' ⟨rfl, ⟨nd, rfl⟩⟩) | (go_at_call 18; (with_reducible refine (withylaw0_Num.calls 2501 t153 _ A21.out).mono ?_); rintro e w' ⟨rfl, ⟨nd, rfl⟩⟩))
                        go_ret
                        exact ⟨by first | rfl | (simp; done) | (simp [*]; done), by repeat (first | exact Drawn0.refl _ | apply Drawn0.step)⟩
                    · rw [if_neg c20] at H
                      have c20b0 : (t152 == 2500) = false := beq_eq_false_iff_ne.mpr c20
                      have c20b1 : (t152 != 2500) = true := bne_iff_ne.mpr c20
                      obtain rfl := Option.some.inj H
                      go_enter Try.func7, Try.ntmps7
                      go_wp2_with (first | ((with_reducible refine gate_callee (f := 18) rfl ?_); refine goesL_ (some 1) rfl rfl Try.func18 (by kernel_rfl) rfl #[.int .i64 2001] rfl (by (try simp only [List.map_toArray, List.map_cons, List.map_nil]); first | done | rfl | (simp only [List.length_drop, List.length_take]; rfl)) ?_; (with_reducible refine (withylaw0_Num.calls 2001 t143 _ A1.out).mono ?_); rintro e w' ⟨rfl, ⟨nd, rfl⟩⟩; refine ⟨_, rfl, ?_⟩) | (go_at_call 18; (with_reducible refine (withylaw0_Num.calls 2002 t144 _ A3.out).mono ?_); rintro e w' ⟨rfl, ⟨nd, rfl⟩⟩) | (go_at_call 18; (with_reducible refine (withylaw0_Num.calls 2003 t145 _ A5.out).mono ?_); rintro e w' ⟨rfl, ⟨nd, rfl⟩⟩) | (go_at_call 18; (with_reducible refine (withylaw0_Num.calls 2100 t146 _ A7.out).mono ?_); rintro e w' ⟨rfl, ⟨nd, rfl⟩⟩) | (go_at_call 18; (with_reducible refine (withylaw0_Num.calls 2200 t147 _ A9.out).mono ?_); rintro e w' ⟨rfl, ⟨nd, rfl⟩⟩) | (go_at_call 18; (with_reducible refine (withylaw0_Num.calls 2201 t148 _ A11.out).mono ?_); rintro e w' ⟨rfl, ⟨nd, rfl⟩⟩) | (go_at_call 18; (with_reducible refine (withylaw0_Num.calls 2202 t149 _ A13.out).mono ?_); rintro e w' ⟨rfl, ⟨nd, rfl⟩⟩) | (go_at_call 18; (with_reducible refine (withylaw0_Num.calls 2300 t150 _ A15.out).mono ?_); rintro e w' ⟨rfl, ⟨nd, rfl⟩⟩) | (go_at_call 18; (with_reducible refine (withylaw0_Num.calls 2400 t151 _ A17.out).mono ?_); rintro e w' ⟨rfl, ⟨nd, rfl⟩⟩) | (go_at_call 18; (with_reducible refine (withylaw0_Num.calls 2500 t152 _ A19.out).mono ?_); rintro e w' ⟨rfl, ⟨nd, rfl⟩⟩))
                      go_ret
                      exact ⟨by first | rfl | (simp; done) | (simp [*]; done), by repeat (first | exact Drawn0.refl _ | apply Drawn0.step)⟩
                  · rw [if_neg c18] at H
                    have c18b0 : (t151 == 2400) = false := beq_eq_false_iff_ne.mpr c18
                    have c18b1 : (t151 != 2400) = true := bne_iff_ne.mpr c18
                    obtain rfl := Option.some.inj H
                    go_enter Try.func7, Try.ntmps7
                    go_wp2_with (first | ((with_reducible refine gate_callee (f := 18) rfl ?_); refine goesL_ (some 1) rfl rfl Try.func18 (by kernel_rfl) rfl #[.int .i64 2001] rfl (by (try simp only [List.map_toArray, List.map_cons, List.map_nil]); first | done | rfl | (simp only [List.length_drop, List.length_take]; rfl)) ?_; (with_reducible refine (withylaw0_Num.calls 2001 t143 _ A1.out).mono ?_); rintro e w' ⟨rfl, ⟨nd, rfl⟩⟩; refine ⟨_, rfl, ?_⟩) | (go_at_call 18; (with_reducible refine (withylaw0_Num.calls 2002 t144 _ A3.out).mono ?_); rintro e w' ⟨rfl, ⟨nd, rfl⟩⟩) | (go_at_call 18; (with_reducible refine (withylaw0_Num.calls 2003 t145 _ A5.out).mono ?_); rintro e w' ⟨rfl, ⟨nd, rfl⟩⟩) | (go_at_call 18; (with_reducible refine (withylaw0_Num.calls 2100 t146 _ A7.out).mono ?_); rintro e w' ⟨rfl, ⟨nd, rfl⟩⟩) | (go_at_call 18; (with_reducible refine (withylaw0_Num.calls 2200 t147 _ A9.out).mono ?_); rintro e w' ⟨rfl, ⟨nd, rfl⟩⟩) | (go_at_call 18; (with_reducible refine (withylaw0_Num.calls 2201 t148 _ A11.out).mono ?_); rintro e w' ⟨rfl, ⟨nd, rfl⟩⟩) | (go_at_call 18; (with_reducible refine (withylaw0_Num.calls 2202 t149 _ A13.out).mono ?_); rintro e w' ⟨rfl, ⟨nd, rfl⟩⟩) | (go_at_call 18; (with_reducible refine (withylaw0_Num.calls 2300 t150 _ A15.out).mono ?_); rintro e w' ⟨rfl, ⟨nd, rfl⟩⟩) | (go_at_call 18; (with_reducible refine (withylaw0_Num.calls 2400 t151 _ A17.out).mono ?_); rintro e w' ⟨rfl, ⟨nd, rfl⟩⟩))
                    go_ret
                    exact ⟨by first | rfl | (simp; done) | (simp [*]; done), by repeat (first | exact Drawn0.refl _ | apply Drawn0.step)⟩
                · rw [if_neg c16] at H
                  have c16b0 : (t150 == 2300) = false := beq_eq_false_iff_ne.mpr c16
                  have c16b1 : (t150 != 2300) = true := bne_iff_ne.mpr c16
                  obtain rfl := Option.some.inj H
                  go_enter Try.func7, Try.ntmps7
                  go_wp2_with (first | ((with_reducible refine gate_callee (f := 18) rfl ?_); refine goesL_ (some 1) rfl rfl Try.func18 (by kernel_rfl) rfl #[.int .i64 2001] rfl (by (try simp only [List.map_toArray, List.map_cons, List.map_nil]); first | done | rfl | (simp only [List.length_drop, List.length_take]; rfl)) ?_; (with_reducible refine (withylaw0_Num.calls 2001 t143 _ A1.out).mono ?_); rintro e w' ⟨rfl, ⟨nd, rfl⟩⟩; refine ⟨_, rfl, ?_⟩) | (go_at_call 18; (with_reducible refine (withylaw0_Num.calls 2002 t144 _ A3.out).mono ?_); rintro e w' ⟨rfl, ⟨nd, rfl⟩⟩) | (go_at_call 18; (with_reducible refine (withylaw0_Num.calls 2003 t145 _ A5.out).mono ?_); rintro e w' ⟨rfl, ⟨nd, rfl⟩⟩) | (go_at_call 18; (with_reducible refine (withylaw0_Num.calls 2100 t146 _ A7.out).mono ?_); rintro e w' ⟨rfl, ⟨nd, rfl⟩⟩) | (go_at_call 18; (with_reducible refine (withylaw0_Num.calls 2200 t147 _ A9.out).mono ?_); rintro e w' ⟨rfl, ⟨nd, rfl⟩⟩) | (go_at_call 18; (with_reducible refine (withylaw0_Num.calls 2201 t148 _ A11.out).mono ?_); rintro e w' ⟨rfl, ⟨nd, rfl⟩⟩) | (go_at_call 18; (with_reducible refine (withylaw0_Num.calls 2202 t149 _ A13.out).mono ?_); rintro e w' ⟨rfl, ⟨nd, rfl⟩⟩) | (go_at_call 18; (with_reducible refine (withylaw0_Num.calls 2300 t150 _ A15.out).mono ?_); rintro e w' ⟨rfl, ⟨nd, rfl⟩⟩))
                  go_ret
                  exact ⟨by first | rfl | (simp; done) | (simp [*]; done), by repeat (first | exact Drawn0.refl _ | apply Drawn0.step)⟩
              · rw [if_neg c14] at H
                have c14b0 : (t149 == 2202) = false := beq_eq_false_iff_ne.mpr c14
                have c14b1 : (t149 != 2202) = true := bne_iff_ne.mpr c14
                obtain rfl := Option.some.inj H
                go_enter Try.func7, Try.ntmps7
                go_wp2_with (first | ((with_reducible refine gate_callee (f := 18) rfl ?_); refine goesL_ (some 1) rfl rfl Try.func18 (by kernel_rfl) rfl #[.int .i64 2001] rfl (by (try simp only [List.map_toArray, List.map_cons, List.map_nil]); first | done | rfl | (simp only [List.length_drop, List.length_take]; rfl)) ?_; (with_reducible refine (withylaw0_Num.calls 2001 t143 _ A1.out).mono ?_); rintro e w' ⟨rfl, ⟨nd, rfl⟩⟩; refine ⟨_, rfl, ?_⟩) | (go_at_call 18; (with_reducible refine (withylaw0_Num.calls 2002 t144 _ A3.out).mono ?_); rintro e w' ⟨rfl, ⟨nd, rfl⟩⟩) | (go_at_call 18; (with_reducible refine (withylaw0_Num.calls 2003 t145 _ A5.out).mono ?_); rintro e w' ⟨rfl, ⟨nd, rfl⟩⟩) | (go_at_call 18; (with_reducible refine (withylaw0_Num.calls 2100 t146 _ A7.out).mono ?_); rintro e w' ⟨rfl, ⟨nd, rfl⟩⟩) | (go_at_call 18; (with_reducible refine (withylaw0_Num.calls 2200 t147 _ A9.out).mono ?_); rintro e w' ⟨rfl, ⟨nd, rfl⟩⟩) | (go_at_call 18; (with_reducible refine (withylaw0_Num.calls 2201 t148 _ A11.out).mono ?_); rintro e w' ⟨rfl, ⟨nd, rfl⟩⟩) | (go_at_call 18; (with_reducible refine (withylaw0_Num.calls 2202 t149 _ A13.out).mono ?_); rintro e w' ⟨rfl, ⟨nd, rfl⟩⟩))
                go_ret
                exact ⟨by first | rfl | (simp; done) | (simp [*]; done), by repeat (first | exact Drawn0.refl _ | apply Drawn0.step)⟩
            · rw [if_neg c12] at H
              have c12b0 : (t148 == 2201) = false := beq_eq_false_iff_ne.mpr c12
              have c12b1 : (t148 != 2201) = true := bne_iff_ne.mpr c12
              obtain rfl := Option.some.inj H
              go_enter Try.func7, Try.ntmps7
              go_wp2_with (first | ((with_reducible refine gate_callee (f := 18) rfl ?_); refine goesL_ (some 1) rfl rfl Try.func18 (by kernel_rfl) rfl #[.int .i64 2001] rfl (by (try simp only [List.map_toArray, List.map_cons, List.map_nil]); first | done | rfl | (simp only [List.length_drop, List.length_take]; rfl)) ?_; (with_reducible refine (withylaw0_Num.calls 2001 t143 _ A1.out).mono ?_); rintro e w' ⟨rfl, ⟨nd, rfl⟩⟩; refine ⟨_, rfl, ?_⟩) | (go_at_call 18; (with_reducible refine (withylaw0_Num.calls 2002 t144 _ A3.out).mono ?_); rintro e w' ⟨rfl, ⟨nd, rfl⟩⟩) | (go_at_call 18; (with_reducible refine (withylaw0_Num.calls 2003 t145 _ A5.out).mono ?_); rintro e w' ⟨rfl, ⟨nd, rfl⟩⟩) | (go_at_call 18; (with_reducible refine (withylaw0_Num.calls 2100 t146 _ A7.out).mono ?_); rintro e w' ⟨rfl, ⟨nd, rfl⟩⟩) | (go_at_call 18; (with_reducible refine (withylaw0_Num.calls 2200 t147 _ A9.out).mono ?_); rintro e w' ⟨rfl, ⟨nd, rfl⟩⟩) | (go_at_call 18; (with_reducible refine (withylaw0_Num.calls 2201 t148 _ A11.out).mono ?_); rintro e w' ⟨rfl, ⟨nd, rfl⟩⟩))
              go_ret
              exact ⟨by first | rfl | (simp; done) | (simp [*]; done), by repeat (first | exact Drawn0.refl _ | apply Drawn0.step)⟩
          · rw [if_neg c10] at H
            have c10b0 : (t147 == 2200) = false := beq_eq_false_iff_ne.mpr c10
            have c10b1 : (t147 != 2200) = true := bne_iff_ne.mpr c10
            obtain rfl := Option.some.inj H
            go_enter Try.func7, Try.ntmps7
            go_wp2_with (first | ((with_reducible refine gate_callee (f := 18) rfl ?_); refine goesL_ (some 1) rfl rfl Try.func18 (by kernel_rfl) rfl #[.int .i64 2001] rfl (by (try simp only [List.map_toArray, List.map_cons, List.map_nil]); first | done | rfl | (simp only [List.length_drop, List.length_take]; rfl)) ?_; (with_reducible refine (withylaw0_Num.calls 2001 t143 _ A1.out).mono ?_); rintro e w' ⟨rfl, ⟨nd, rfl⟩⟩; refine ⟨_, rfl, ?_⟩) | (go_at_call 18; (with_reducible refine (withylaw0_Num.calls 2002 t144 _ A3.out).mono ?_); rintro e w' ⟨rfl, ⟨nd, rfl⟩⟩) | (go_at_call 18; (with_reducible refine (withylaw0_Num.calls 2003 t145 _ A5.out).mono ?_); rintro e w' ⟨rfl, ⟨nd, rfl⟩⟩) | (go_at_call 18; (with_reducible refine (withylaw0_Num.calls 2100 t146 _ A7.out).mono ?_); rintro e w' ⟨rfl, ⟨nd, rfl⟩⟩) | (go_at_call 18; (with_reducible refine (withylaw0_Num.calls 2200 t147 _ A9.out).mono ?_); rintro e w' ⟨rfl, ⟨nd, rfl⟩⟩))
            go_ret
            exact ⟨by first | rfl | (simp; done) | (simp [*]; done), by repeat (first | exact Drawn0.refl _ | apply Drawn0.step)⟩
        · rw [if_neg c8] at H
          have c8b0 : (t146 == 2100) = false := beq_eq_false_iff_ne.mpr c8
          have c8b1 : (t146 != 2100) = true := bne_iff_ne.mpr c8
          obtain rfl := Option.some.inj H
          go_enter Try.func7, Try.ntmps7
          go_wp2_with (first | ((with_reducible refine gate_callee (f := 18) rfl ?_); refine goesL_ (some 1) rfl rfl Try.func18 (by kernel_rfl) rfl #[.int .i64 2001] rfl (by (try simp only [List.map_toArray, List.map_cons, List.map_nil]); first | done | rfl | (simp only [List.length_drop, List.length_take]; rfl)) ?_; (with_reducible refine (withylaw0_Num.calls 2001 t143 _ A1.out).mono ?_); rintro e w' ⟨rfl, ⟨nd, rfl⟩⟩; refine ⟨_, rfl, ?_⟩) | (go_at_call 18; (with_reducible refine (withylaw0_Num.calls 2002 t144 _ A3.out).mono ?_); rintro e w' ⟨rfl, ⟨nd, rfl⟩⟩) | (go_at_call 18; (with_reducible refine (withylaw0_Num.calls 2003 t145 _ A5.out).mono ?_); rintro e w' ⟨rfl, ⟨nd, rfl⟩⟩) | (go_at_call 18; (with_reducible refine (withylaw0_Num.calls 2100 t146 _ A7.out).mono ?_); rintro e w' ⟨rfl, ⟨nd, rfl⟩⟩))
          go_ret
          exact ⟨by first | rfl | (simp; done) | (simp [*]; done), by repeat (first | exact Drawn0.refl _ | apply Drawn0.step)⟩
      · rw [if_neg c6] at H
        have c6b0 : (t145 == 2003) = false := beq_eq_false_iff_ne.mpr c6
        have c6b1 : (t145 != 2003) = true := bne_iff_ne.mpr c6
        obtain rfl := Option.some.inj H
        go_enter Try.func7, Try.ntmps7
        go_wp2_with (first | ((with_reducible refine gate_callee (f := 18) rfl ?_); refine goesL_ (some 1) rfl rfl Try.func18 (by kernel_rfl) rfl #[.int .i64 2001] rfl (by (try simp only [List.map_toArray, List.map_cons, List.map_nil]); first | done | rfl | (simp only [List.length_drop, List.length_take]; rfl)) ?_; (with_reducible refine (withylaw0_Num.calls 2001 t143 _ A1.out).mono ?_); rintro e w' ⟨rfl, ⟨nd, rfl⟩⟩; refine ⟨_, rfl, ?_⟩) | (go_at_call 18; (with_reducible refine (withylaw0_Num.calls 2002 t144 _ A3.out).mono ?_); rintro e w' ⟨rfl, ⟨nd, rfl⟩⟩) | (go_at_call 18; (with_reducible refine (withylaw0_Num.calls 2003 t145 _ A5.out).mono ?_); rintro e w' ⟨rfl, ⟨nd, rfl⟩⟩))
        go_ret
        exact ⟨by first | rfl | (simp; done) | (simp [*]; done), by repeat (first | exact Drawn0.refl _ | apply Drawn0.step)⟩
    · rw [if_neg c4] at H
      have c4b0 : (t144 == 2002) = false := beq_eq_false_iff_ne.mpr c4
      have c4b1 : (t144 != 2002) = true := bne_iff_ne.mpr c4
      obtain rfl := Option.some.inj H
      go_enter Try.func7, Try.ntmps7
      go_wp2_with (first | ((with_reducible refine gate_callee (f := 18) rfl ?_); refine goesL_ (some 1) rfl rfl Try.func18 (by kernel_rfl) rfl #[.int .i64 2001] rfl (by (try simp only [List.map_toArray, List.map_cons, List.map_nil]); first | done | rfl | (simp only [List.length_drop, List.length_take]; rfl)) ?_; (with_reducible refine (withylaw0_Num.calls 2001 t143 _ A1.out).mono ?_); rintro e w' ⟨rfl, ⟨nd, rfl⟩⟩; refine ⟨_, rfl, ?_⟩) | (go_at_call 18; (with_reducible refine (withylaw0_Num.calls 2002 t144 _ A3.out).mono ?_); rintro e w' ⟨rfl, ⟨nd, rfl⟩⟩))
      go_ret
      exact ⟨by first | rfl | (simp; done) | (simp [*]; done), by repeat (first | exact Drawn0.refl _ | apply Drawn0.step)⟩
  · rw [if_neg c2] at H
    have c2b0 : (t143 == 2001) = false := beq_eq_false_iff_ne.mpr c2
    have c2b1 : (t143 != 2001) = true := bne_iff_ne.mpr c2
    obtain rfl := Option.some.inj H
    go_enter Try.func7, Try.ntmps7
    go_wp2_with (first | ((with_reducible refine gate_callee (f := 18) rfl ?_); refine goesL_ (some 1) rfl rfl Try.func18 (by kernel_rfl) rfl #[.int .i64 2001] rfl (by (try simp only [List.map_toArray, List.map_cons, List.map_nil]); first | done | rfl | (simp only [List.length_drop, List.length_take]; rfl)) ?_; (with_reducible refine (withylaw0_Num.calls 2001 t143 _ A1.out).mono ?_); rintro e w' ⟨rfl, ⟨nd, rfl⟩⟩; refine ⟨_, rfl, ?_⟩))
    go_ret
    exact ⟨by first | rfl | (simp; done) | (simp [*]; done), by repeat (first | exact Drawn0.refl _ | apply Drawn0.step)⟩

/-! ### withylaw0_errors5: function 8 -/
def withylaw0_errors5.f  : Option (Bool) := (withylaw0_Num.f 2601).bind fun t157 => (if t157 = 2601 then ((withylaw0_Num.f 2602).bind fun t158 => (if t158 = 2602 then ((withylaw0_Num.f 2603).bind fun t159 => (if t159 = 2603 then ((withylaw0_Num.f 2700).bind fun t160 => (if t160 = 2700 then ((withylaw0_Num.f 2800).bind fun t161 => (if t161 = 2800 then ((withylaw0_Num.f 2801).bind fun t162 => (some (t162 == 2801))) else (some false))) else (some false))) else (some false))) else (some false))) else (some false))
set_option maxHeartbeats 8000000 in
set_option maxRecDepth 100000 in
theorem withylaw0_errors5.calls  (r : Bool) (w : World) (h : withylaw0_errors5.f  = some r) :
    Calls Try.prog 8 #[] w fun e w' => e = .returned (.bool r) ∧ Drawn0 w w' := by
  have H : ((withylaw0_Num.f 2601).bind fun t157 => (if t157 = 2601 then ((withylaw0_Num.f 2602).bind fun t158 => (if t158 = 2602 then ((withylaw0_Num.f 2603).bind fun t159 => (if t159 = 2603 then ((withylaw0_Num.f 2700).bind fun t160 => (if t160 = 2700 then ((withylaw0_Num.f 2800).bind fun t161 => (if t161 = 2800 then ((withylaw0_Num.f 2801).bind fun t162 => (some (t162 == 2801))) else (some false))) else (some false))) else (some false))) else (some false))) else (some false))) = some r := h
  clear h
  replace H := Option.bind_eq_some_iff.mp H
  obtain ⟨t157, A10, H⟩ := H
  replace H : (if t157 = 2601 then ((withylaw0_Num.f 2602).bind fun t158 => (if t158 = 2602 then ((withylaw0_Num.f 2603).bind fun t159 => (if t159 = 2603 then ((withylaw0_Num.f 2700).bind fun t160 => (if t160 = 2700 then ((withylaw0_Num.f 2800).bind fun t161 => (if t161 = 2800 then ((withylaw0_Num.f 2801).bind fun t162 => (some (t162 == 2801))) else (some false))) else (some false))) else (some false))) else (some false))) else (some false)) = some r := H
  have A1 := Aside0.mk A10
  clear A10
  by_cases c2 : t157 = 2601
  · rw [if_pos c2] at H
    have c2b0 : (t157 == 2601) = true := beq_iff_eq.mpr c2
    have c2b1 : (t157 != 2601) = false := bne_eq_false_iff_eq.mpr c2
    clear c2
    replace H := Option.bind_eq_some_iff.mp H
    obtain ⟨t158, A30, H⟩ := H
    replace H : (if t158 = 2602 then ((withylaw0_Num.f 2603).bind fun t159 => (if t159 = 2603 then ((withylaw0_Num.f 2700).bind fun t160 => (if t160 = 2700 then ((withylaw0_Num.f 2800).bind fun t161 => (if t161 = 2800 then ((withylaw0_Num.f 2801).bind fun t162 => (some (t162 == 2801))) else (some false))) else (some false))) else (some false))) else (some false)) = some r := H
    have A3 := Aside0.mk A30
    clear A30
    by_cases c4 : t158 = 2602
    · rw [if_pos c4] at H
      have c4b0 : (t158 == 2602) = true := beq_iff_eq.mpr c4
      have c4b1 : (t158 != 2602) = false := bne_eq_false_iff_eq.mpr c4
      clear c4
      replace H := Option.bind_eq_some_iff.mp H
      obtain ⟨t159, A50, H⟩ := H
      replace H : (if t159 = 2603 then ((withylaw0_Num.f 2700).bind fun t160 => (if t160 = 2700 then ((withylaw0_Num.f 2800).bind fun t161 => (if t161 = 2800 then ((withylaw0_Num.f 2801).bind fun t162 => (some (t162 == 2801))) else (some false))) else (some false))) else (some false)) = some r := H
      have A5 := Aside0.mk A50
      clear A50
      by_cases c6 : t159 = 2603
      · rw [if_pos c6] at H
        have c6b0 : (t159 == 2603) = true := beq_iff_eq.mpr c6
        have c6b1 : (t159 != 2603) = false := bne_eq_false_iff_eq.mpr c6
        clear c6
        replace H := Option.bind_eq_some_iff.mp H
        obtain ⟨t160, A70, H⟩ := H
        replace H : (if t160 = 2700 then ((withylaw0_Num.f 2800).bind fun t161 => (if t161 = 2800 then ((withylaw0_Num.f 2801).bind fun t162 => (some (t162 == 2801))) else (some false))) else (some false)) = some r := H
        have A7 := Aside0.mk A70
        clear A70
        by_cases c8 : t160 = 2700
        · rw [if_pos c8] at H
          have c8b0 : (t160 == 2700) = true := beq_iff_eq.mpr c8
          have c8b1 : (t160 != 2700) = false := bne_eq_false_iff_eq.mpr c8
          clear c8
          replace H := Option.bind_eq_some_iff.mp H
          obtain ⟨t161, A90, H⟩ := H
          replace H : (if t161 = 2800 then ((withylaw0_Num.f 2801).bind fun t162 => (some (t162 == 2801))) else (some false)) = some r := H
          have A9 := Aside0.mk A90
          clear A90
          by_cases c10 : t161 = 2800
          · rw [if_pos c10] at H
            have c10b0 : (t161 == 2800) = true := beq_iff_eq.mpr c10
            have c10b1 : (t161 != 2800) = false := bne_eq_false_iff_eq.mpr c10
            clear c10
            replace H := Option.bind_eq_some_iff.mp H
            obtain ⟨t162, A110, H⟩ := H
            replace H : (some (t162 == 2801)) = some r := H
            have A11 := Aside0.mk A110
            clear A110
            obtain rfl := Option.some.inj H
            go_enter Try.func8, Try.ntmps8
            go_wp2_with (first | ((with_reducible refine gate_callee (f := 18) rfl ?_); refine goesL_ (some 1) rfl rfl Try.func18 (by kernel_rfl) rfl #[.int .i64 2601] rfl (by (try simp only [List.map_toArray, List.map_cons, List.map_nil]); first | done | rfl | (simp only [List.length_drop, List.length_take]; rfl)) ?_; (with_reducible refine (withylaw0_Num.calls 2601 t157 _ A1.out).mono ?_); rintro e w' ⟨rfl, ⟨nd, rfl⟩⟩; refine ⟨_, rfl, ?_⟩) | (go_at_call 18; (with_reducible refine (withylaw0_Num.calls 2602 t158 _ A3.out).mono ?_); rintro e w' ⟨rfl, ⟨nd, rfl⟩⟩) | (go_at_call 18; (with_reducible refine (withylaw0_Num.calls 2603 t159 _ A5.out).mono ?_); rintro e w' ⟨rfl, ⟨nd, rfl⟩⟩) | (go_at_call 18; (with_reducible refine (withylaw0_Num.calls 2700 t160 _ A7.out).mono ?_); rintro e w' ⟨rfl, ⟨nd, rfl⟩⟩) | (go_at_call 18; (with_reducible refine (withylaw0_Num.calls 2800 t161 _ A9.out).mono ?_); rintro e w' ⟨rfl, ⟨nd, rfl⟩⟩) | (go_at_call 18; (with_reducible refine (withylaw0_Num.calls 2801 t162 _ A11.out).mono ?_); rintro e w' ⟨rfl, ⟨nd, rfl⟩⟩))
            go_ret
            exact ⟨by first | rfl | (simp; done) | (simp [*]; done), by repeat (first | exact Drawn0.refl _ | apply Drawn0.step)⟩
          · rw [if_neg c10] at H
            have c10b0 : (t161 == 2800) = false := beq_eq_false_iff_ne.mpr c10
            have c10b1 : (t161 != 2800) = true := bne_iff_ne.mpr c10
            obtain rfl := Option.some.inj H
            go_enter Try.func8, Try.ntmps8
            go_wp2_with (first | ((with_reducible refine gate_callee (f := 18) rfl ?_); refine goesL_ (some 1) rfl rfl Try.func18 (by kernel_rfl) rfl #[.int .i64 2601] rfl (by (try simp only [List.map_toArray, List.map_cons, List.map_nil]); first | done | rfl | (simp only [List.length_drop, List.length_take]; rfl)) ?_; (with_reducible refine (withylaw0_Num.calls 2601 t157 _ A1.out).mono ?_); rintro e w' ⟨rfl, ⟨nd, rfl⟩⟩; refine ⟨_, rfl, ?_⟩) | (go_at_call 18; (with_reducible refine (withylaw0_Num.calls 2602 t158 _ A3.out).mono ?_); rintro e w' ⟨rfl, ⟨nd, rfl⟩⟩) | (go_at_call 18; (with_reducible refine (withylaw0_Num.calls 2603 t159 _ A5.out).mono ?_); rintro e w' ⟨rfl, ⟨nd, rfl⟩⟩) | (go_at_call 18; (with_reducible refine (withylaw0_Num.calls 2700 t160 _ A7.out).mono ?_); rintro e w' ⟨rfl, ⟨nd, rfl⟩⟩) | (go_at_call 18; (with_reducible refine (withylaw0_Num.calls 2800 t161 _ A9.out).mono ?_); rintro e w' ⟨rfl, ⟨nd, rfl⟩⟩))
            go_ret
            exact ⟨by first | rfl | (simp; done) | (simp [*]; done), by repeat (first | exact Drawn0.refl _ | apply Drawn0.step)⟩
        · rw [if_neg c8] at H
          have c8b0 : (t160 == 2700) = false := beq_eq_false_iff_ne.mpr c8
          have c8b1 : (t160 != 2700) = true := bne_iff_ne.mpr c8
          obtain rfl := Option.some.inj H
          go_enter Try.func8, Try.ntmps8
          go_wp2_with (first | ((with_reducible refine gate_callee (f := 18) rfl ?_); refine goesL_ (some 1) rfl rfl Try.func18 (by kernel_rfl) rfl #[.int .i64 2601] rfl (by (try simp only [List.map_toArray, List.map_cons, List.map_nil]); first | done | rfl | (simp only [List.length_drop, List.length_take]; rfl)) ?_; (with_reducible refine (withylaw0_Num.calls 2601 t157 _ A1.out).mono ?_); rintro e w' ⟨rfl, ⟨nd, rfl⟩⟩; refine ⟨_, rfl, ?_⟩) | (go_at_call 18; (with_reducible refine (withylaw0_Num.calls 2602 t158 _ A3.out).mono ?_); rintro e w' ⟨rfl, ⟨nd, rfl⟩⟩) | (go_at_call 18; (with_reducible refine (withylaw0_Num.calls 2603 t159 _ A5.out).mono ?_); rintro e w' ⟨rfl, ⟨nd, rfl⟩⟩) | (go_at_call 18; (with_reducible refine (withylaw0_Num.calls 2700 t160 _ A7.out).mono ?_); rintro e w' ⟨rfl, ⟨nd, rfl⟩⟩))
          go_ret
          exact ⟨by first | rfl | (simp; done) | (simp [*]; done), by repeat (first | exact Drawn0.refl _ | apply Drawn0.step)⟩
      · rw [if_neg c6] at H
        have c6b0 : (t159 == 2603) = false := beq_eq_false_iff_ne.mpr c6
        have c6b1 : (t159 != 2603) = true := bne_iff_ne.mpr c6
        obtain rfl := Option.some.inj H
        go_enter Try.func8, Try.ntmps8
        go_wp2_with (first | ((with_reducible refine gate_callee (f := 18) rfl ?_); refine goesL_ (some 1) rfl rfl Try.func18 (by kernel_rfl) rfl #[.int .i64 2601] rfl (by (try simp only [List.map_toArray, List.map_cons, List.map_nil]); first | done | rfl | (simp only [List.length_drop, List.length_take]; rfl)) ?_; (with_reducible refine (withylaw0_Num.calls 2601 t157 _ A1.out).mono ?_); rintro e w' ⟨rfl, ⟨nd, rfl⟩⟩; refine ⟨_, rfl, ?_⟩) | (go_at_call 18; (with_reducible refine (withylaw0_Num.calls 2602 t158 _ A3.out).mono ?_); rintro e w' ⟨rfl, ⟨nd, rfl⟩⟩) | (go_at_call 18; (with_reducible refine (withylaw0_Num.calls 2603 t159 _ A5.out).mono ?_); rintro e w' ⟨rfl, ⟨nd, rfl⟩⟩))
        go_ret
        exact ⟨by first | rfl | (simp; done) | (simp [*]; done), by repeat (first | exact Drawn0.refl _ | apply Drawn0.step)⟩
    · rw [if_neg c4] at H
      have c4b0 : (t158 == 2602) = false := beq_eq_false_iff_ne.mpr c4
      have c4b1 : (t158 != 2602) = true := bne_iff_ne.mpr c4
      obtain rfl := Option.some.inj H
      go_enter Try.func8, Try.ntmps8
      go_wp2_with (first | ((with_reducible refine gate_callee (f := 18) rfl ?_); refine goesL_ (some 1) rfl rfl Try.func18 (by kernel_rfl) rfl #[.int .i64 2601] rfl (by (try simp only [List.map_toArray, List.map_cons, List.map_nil]); first | done | rfl | (simp only [List.length_drop, List.length_take]; rfl)) ?_; (with_reducible refine (withylaw0_Num.calls 2601 t157 _ A1.out).mono ?_); rintro e w' ⟨rfl, ⟨nd, rfl⟩⟩; refine ⟨_, rfl, ?_⟩) | (go_at_call 18; (with_reducible refine (withylaw0_Num.calls 2602 t158 _ A3.out).mono ?_); rintro e w' ⟨rfl, ⟨nd, rfl⟩⟩))
      go_ret
      exact ⟨by first | rfl | (simp; done) | (simp [*]; done), by repeat (first | exact Drawn0.refl _ | apply Drawn0.step)⟩
  · rw [if_neg c2] at H
    have c2b0 : (t157 == 2601) = false := beq_eq_false_iff_ne.mpr c2
    have c2b1 : (t157 != 2601) = true := bne_iff_ne.mpr c2
    obtain rfl := Option.some.inj H
    go_enter Try.func8, Try.ntmps8
    go_wp2_with (first | ((with_reducible refine gate_callee (f := 18) rfl ?_); refine goesL_ (some 1) rfl rfl Try.func18 (by kernel_rfl) rfl #[.int .i64 2601] rfl (by (try simp only [List.map_toArray, List.map_cons, List.map_nil]); first | done | rfl | (simp only [List.length_drop, List.length_take]; rfl)) ?_; (with_reducible refine (withylaw0_Num.calls 2601 t157 _ A1.out).mono ?_); rintro e w' ⟨rfl, ⟨nd, rfl⟩⟩; refine ⟨_, rfl, ?_⟩))
    go_ret
    exact ⟨by first | rfl | (simp; done) | (simp [*]; done), by repeat (first | exact Drawn0.refl _ | apply Drawn0.step)⟩

/-! ### withylaw0_numbers1: function 9 -/
def withylaw0_numbers1.f  : Option (Bool) := some true
set_option maxHeartbeats 8000000 in
set_option maxRecDepth 100000 in
theorem withylaw0_numbers1.calls  (r : Bool) (w : World) (h : withylaw0_numbers1.f  = some r) :
    Calls Try.prog 9 #[] w fun e w' => e = .returned (.bool r) ∧ Drawn0 w w' := by
  have H : (some true) = some r := h
  clear h
  obtain rfl := Option.some.inj H
  go_enter Try.func9, Try.ntmps9
  go_wp2
  go_ret
  exact ⟨by first | rfl | (simp; done) | (simp [*]; done), by repeat (first | exact Drawn0.refl _ | apply Drawn0.step)⟩

/-! ### withylaw0_numbers2: function 10 -/
def withylaw0_numbers2.f  : Option (Bool) := some true
set_option maxHeartbeats 8000000 in
set_option maxRecDepth 100000 in
theorem withylaw0_numbers2.calls  (r : Bool) (w : World) (h : withylaw0_numbers2.f  = some r) :
    Calls Try.prog 10 #[] w fun e w' => e = .returned (.bool r) ∧ Drawn0 w w' := by
  have H : (some true) = some r := h
  clear h
  obtain rfl := Option.some.inj H
  go_enter Try.func10, Try.ntmps10
  go_wp2
  go_ret
  exact ⟨by first | rfl | (simp; done) | (simp [*]; done), by repeat (first | exact Drawn0.refl _ | apply Drawn0.step)⟩

/-! ### withylaw0_numbers3: function 11 -/
def withylaw0_numbers3.f  : Option (Bool) := some true
set_option maxHeartbeats 8000000 in
set_option maxRecDepth 100000 in
theorem withylaw0_numbers3.calls  (r : Bool) (w : World) (h : withylaw0_numbers3.f  = some r) :
    Calls Try.prog 11 #[] w fun e w' => e = .returned (.bool r) ∧ Drawn0 w w' := by
  have H : (some true) = some r := h
  clear h
  obtain rfl := Option.some.inj H
  go_enter Try.func11, Try.ntmps11
  go_wp2
  go_ret
  exact ⟨by first | rfl | (simp; done) | (simp [*]; done), by repeat (first | exact Drawn0.refl _ | apply Drawn0.step)⟩

/-! ### withylaw0_numbers4: function 12 -/
def withylaw0_numbers4.f  : Option (Bool) := some true
set_option maxHeartbeats 8000000 in
set_option maxRecDepth 100000 in
theorem withylaw0_numbers4.calls  (r : Bool) (w : World) (h : withylaw0_numbers4.f  = some r) :
    Calls Try.prog 12 #[] w fun e w' => e = .returned (.bool r) ∧ Drawn0 w w' := by
  have H : (some true) = some r := h
  clear h
  obtain rfl := Option.some.inj H
  go_enter Try.func12, Try.ntmps12
  go_wp2
  go_ret
  exact ⟨by first | rfl | (simp; done) | (simp [*]; done), by repeat (first | exact Drawn0.refl _ | apply Drawn0.step)⟩

/-! ### withylaw0_numbers5: function 13 -/
def withylaw0_numbers5.f  : Option (Bool) := some true
set_option maxHeartbeats 8000000 in
set_option maxRecDepth 100000 in
theorem withylaw0_numbers5.calls  (r : Bool) (w : World) (h : withylaw0_numbers5.f  = some r) :
    Calls Try.prog 13 #[] w fun e w' => e = .returned (.bool r) ∧ Drawn0 w w' := by
  have H : (some true) = some r := h
  clear h
  obtain rfl := Option.some.inj H
  go_enter Try.func13, Try.ntmps13
  go_wp2
  go_ret
  exact ⟨by first | rfl | (simp; done) | (simp [*]; done), by repeat (first | exact Drawn0.refl _ | apply Drawn0.step)⟩

/-! ### withylaw0_numbers6: function 14 -/
def withylaw0_numbers6.f  : Option (Bool) := some true
set_option maxHeartbeats 8000000 in
set_option maxRecDepth 100000 in
theorem withylaw0_numbers6.calls  (r : Bool) (w : World) (h : withylaw0_numbers6.f  = some r) :
    Calls Try.prog 14 #[] w fun e w' => e = .returned (.bool r) ∧ Drawn0 w w' := by
  have H : (some true) = some r := h
  clear h
  obtain rfl := Option.some.inj H
  go_enter Try.func14, Try.ntmps14
  go_wp2
  go_ret
  exact ⟨by first | rfl | (simp; done) | (simp [*]; done), by repeat (first | exact Drawn0.refl _ | apply Drawn0.step)⟩

/-! ### withylaw0_numbers7: function 15 -/
def withylaw0_numbers7.f  : Option (Bool) := some true
set_option maxHeartbeats 8000000 in
set_option maxRecDepth 100000 in
theorem withylaw0_numbers7.calls  (r : Bool) (w : World) (h : withylaw0_numbers7.f  = some r) :
    Calls Try.prog 15 #[] w fun e w' => e = .returned (.bool r) ∧ Drawn0 w w' := by
  have H : (some true) = some r := h
  clear h
  obtain rfl := Option.some.inj H
  go_enter Try.func15, Try.ntmps15
  go_wp2
  go_ret
  exact ⟨by first | rfl | (simp; done) | (simp [*]; done), by repeat (first | exact Drawn0.refl _ | apply Drawn0.step)⟩

/-! ### withylaw0_numbers8: function 16 -/
def withylaw0_numbers8.f  : Option (Bool) := some true
set_option maxHeartbeats 8000000 in
set_option maxRecDepth 100000 in
theorem withylaw0_numbers8.calls  (r : Bool) (w : World) (h : withylaw0_numbers8.f  = some r) :
    Calls Try.prog 16 #[] w fun e w' => e = .returned (.bool r) ∧ Drawn0 w w' := by
  have H : (some true) = some r := h
  clear h
  obtain rfl := Option.some.inj H
  go_enter Try.func16, Try.ntmps16
  go_wp2
  go_ret
  exact ⟨by first | rfl | (simp; done) | (simp [*]; done), by repeat (first | exact Drawn0.refl _ | apply Drawn0.step)⟩

/-! ### withylaw0_numbers9: function 17 -/
def withylaw0_numbers9.f  : Option (Bool) := some true
set_option maxHeartbeats 8000000 in
set_option maxRecDepth 100000 in
theorem withylaw0_numbers9.calls  (r : Bool) (w : World) (h : withylaw0_numbers9.f  = some r) :
    Calls Try.prog 17 #[] w fun e w' => e = .returned (.bool r) ∧ Drawn0 w w' := by
  have H : (some true) = some r := h
  clear h
  obtain rfl := Option.some.inj H
  go_enter Try.func17, Try.ntmps17
  go_wp2
  go_ret
  exact ⟨by first | rfl | (simp; done) | (simp [*]; done), by repeat (first | exact Drawn0.refl _ | apply Drawn0.step)⟩

/-! ### withylaw0_WithyNames: function 3 -/
def withylaw0_WithyNames.f  : Option (Bool) := (withylaw0_errors1.f).bind fun t163 => (if t163 = true then ((withylaw0_errors2.f).bind fun t164 => (if t164 = true then ((withylaw0_errors3.f).bind fun t165 => (if t165 = true then ((withylaw0_errors4.f).bind fun t166 => (if t166 = true then ((withylaw0_errors5.f).bind fun t167 => (if t167 = true then ((withylaw0_numbers1.f).bind fun t168 => (if t168 = true then ((withylaw0_numbers2.f).bind fun t169 => (if t169 = true then ((withylaw0_numbers3.f).bind fun t170 => (if t170 = true then ((withylaw0_numbers4.f).bind fun t171 => (if t171 = true then ((withylaw0_numbers5.f).bind fun t172 => (if t172 = true then ((withylaw0_numbers6.f).bind fun t173 => (if t173 = true then ((withylaw0_numbers7.f).bind fun t174 => (if t174 = true then ((withylaw0_numbers8.f).bind fun t175 => (if t175 = true then ((withylaw0_numbers9.f).bind fun t176 => (some t176)) else (some false))) else (some false))) else (some false))) else (some false))) else (some false))) else (some false))) else (some false))) else (some false))) else (some false))) else (some false))) else (some false))) else (some false))) else (some false))
set_option maxHeartbeats 8000000 in
set_option maxRecDepth 100000 in
theorem withylaw0_WithyNames.calls  (r : Bool) (w : World) (h : withylaw0_WithyNames.f  = some r) :
    Calls Try.prog 3 #[] w fun e w' => e = .returned (.bool r) ∧ Drawn0 w w' := by
  have H : ((withylaw0_errors1.f).bind fun t163 => (if t163 = true then ((withylaw0_errors2.f).bind fun t164 => (if t164 = true then ((withylaw0_errors3.f).bind fun t165 => (if t165 = true then ((withylaw0_errors4.f).bind fun t166 => (if t166 = true then ((withylaw0_errors5.f).bind fun t167 => (if t167 = true then ((withylaw0_numbers1.f).bind fun t168 => (if t168 = true then ((withylaw0_numbers2.f).bind fun t169 => (if t169 = true then ((withylaw0_numbers3.f).bind fun t170 => (if t170 = true then ((withylaw0_numbers4.f).bind fun t171 => (if t171 = true then ((withylaw0_numbers5.f).bind fun t172 => (if t172 = true then ((withylaw0_numbers6.f).bind fun t173 => (if t173 = true then ((withylaw0_numbers7.f).bind fun t174 => (if t174 = true then ((withylaw0_numbers8.f).bind fun t175 => (if t175 = true then ((withylaw0_numbers9.f).bind fun t176 => (some t176)) else (some false))) else (some false))) else (some false))) else (some false))) else (some false))) else (some false))) else (some false))) else (some false))) else (some false))) else (some false))) else (some false))) else (some false))) else (some false))) = some r := h
  clear h
  replace H := Option.bind_eq_some_iff.mp H
  obtain ⟨t163, A10, H⟩ := H
  replace H : (if t163 = true then ((withylaw0_errors2.f).bind fun t164 => (if t164 = true then ((withylaw0_errors3.f).bind fun t165 => (if t165 = true then ((withylaw0_errors4.f).bind fun t166 => (if t166 = true then ((withylaw0_errors5.f).bind fun t167 => (if t167 = true then ((withylaw0_numbers1.f).bind fun t168 => (if t168 = true then ((withylaw0_numbers2.f).bind fun t169 => (if t169 = true then ((withylaw0_numbers3.f).bind fun t170 => (if t170 = true then ((withylaw0_numbers4.f).bind fun t171 => (if t171 = true then ((withylaw0_numbers5.f).bind fun t172 => (if t172 = true then ((withylaw0_numbers6.f).bind fun t173 => (if t173 = true then ((withylaw0_numbers7.f).bind fun t174 => (if t174 = true then ((withylaw0_numbers8.f).bind fun t175 => (if t175 = true then ((withylaw0_numbers9.f).bind fun t176 => (some t176)) else (some false))) else (some false))) else (some false))) else (some false))) else (some false))) else (some false))) else (some false))) else (some false))) else (some false))) else (some false))) else (some false))) else (some false))) else (some false)) = some r := H
  have A1 := Aside0.mk A10
  clear A10
  by_cases c2 : t163 = true
  · subst c2
    have H1 : ((withylaw0_errors2.f).bind fun t164 => (if t164 = true then ((withylaw0_errors3.f).bind fun t165 => (if t165 = true then ((withylaw0_errors4.f).bind fun t166 => (if t166 = true then ((withylaw0_errors5.f).bind fun t167 => (if t167 = true then ((withylaw0_numbers1.f).bind fun t168 => (if t168 = true then ((withylaw0_numbers2.f).bind fun t169 => (if t169 = true then ((withylaw0_numbers3.f).bind fun t170 => (if t170 = true then ((withylaw0_numbers4.f).bind fun t171 => (if t171 = true then ((withylaw0_numbers5.f).bind fun t172 => (if t172 = true then ((withylaw0_numbers6.f).bind fun t173 => (if t173 = true then ((withylaw0_numbers7.f).bind fun t174 => (if t174 = true then ((withylaw0_numbers8.f).bind fun t175 => (if t175 = true then ((withylaw0_numbers9.f).bind fun t176 => (some t176)) else (some false))) else (some false))) else (some false))) else (some false))) else (some false))) else (some false))) else (some false))) else (some false))) else (some false))) else (some false))) else (some false))) else (some false))) = some r := by rw [if_pos rfl] at H; exact H
    clear H
    have H := H1
    clear H1
    replace H := Option.bind_eq_some_iff.mp H
    obtain ⟨t164, A30, H⟩ := H
    replace H : (if t164 = true then ((withylaw0_errors3.f).bind fun t165 => (if t165 = true then ((withylaw0_errors4.f).bind fun t166 => (if t166 = true then ((withylaw0_errors5.f).bind fun t167 => (if t167 = true then ((withylaw0_numbers1.f).bind fun t168 => (if t168 = true then ((withylaw0_numbers2.f).bind fun t169 => (if t169 = true then ((withylaw0_numbers3.f).bind fun t170 => (if t170 = true then ((withylaw0_numbers4.f).bind fun t171 => (if t171 = true then ((withylaw0_numbers5.f).bind fun t172 => (if t172 = true then ((withylaw0_numbers6.f).bind fun t173 => (if t173 = true then ((withylaw0_numbers7.f).bind fun t174 => (if t174 = true then ((withylaw0_numbers8.f).bind fun t175 => (if t175 = true then ((withylaw0_numbers9.f).bind fun t176 => (some t176)) else (some false))) else (some false))) else (some false))) else (some false))) else (some false))) else (some false))) else (some false))) else (some false))) else (some false))) else (some false))) else (some false))) else (some false)) = some r := H
    have A3 := Aside0.mk A30
    clear A30
    by_cases c4 : t164 = true
    · subst c4
      have H1 : ((withylaw0_errors3.f).bind fun t165 => (if t165 = true then ((withylaw0_errors4.f).bind fun t166 => (if t166 = true then ((withylaw0_errors5.f).bind fun t167 => (if t167 = true then ((withylaw0_numbers1.f).bind fun t168 => (if t168 = true then ((withylaw0_numbers2.f).bind fun t169 => (if t169 = true then ((withylaw0_numbers3.f).bind fun t170 => (if t170 = true then ((withylaw0_numbers4.f).bind fun t171 => (if t171 = true then ((withylaw0_numbers5.f).bind fun t172 => (if t172 = true then ((withylaw0_numbers6.f).bind fun t173 => (if t173 = true then ((withylaw0_numbers7.f).bind fun t174 => (if t174 = true then ((withylaw0_numbers8.f).bind fun t175 => (if t175 = true then ((withylaw0_numbers9.f).bind fun t176 => (some t176)) else (some false))) else (some false))) else (some false))) else (some false))) else (some false))) else (some false))) else (some false))) else (some false))) else (some false))) else (some false))) else (some false))) = some r := by rw [if_pos rfl] at H; exact H
      clear H
      have H := H1
      clear H1
      replace H := Option.bind_eq_some_iff.mp H
      obtain ⟨t165, A50, H⟩ := H
      replace H : (if t165 = true then ((withylaw0_errors4.f).bind fun t166 => (if t166 = true then ((withylaw0_errors5.f).bind fun t167 => (if t167 = true then ((withylaw0_numbers1.f).bind fun t168 => (if t168 = true then ((withylaw0_numbers2.f).bind fun t169 => (if t169 = true then ((withylaw0_numbers3.f).bind fun t170 => (if t170 = true then ((withylaw0_numbers4.f).bind fun t171 => (if t171 = true then ((withylaw0_numbers5.f).bind fun t172 => (if t172 = true then ((withylaw0_numbers6.f).bind fun t173 => (if t173 = true then ((withylaw0_numbers7.f).bind fun t174 => (if t174 = true then ((withylaw0_numbers8.f).bind fun t175 => (if t175 = true then ((withylaw0_numbers9.f).bind fun t176 => (some t176)) else (some false))) else (some false))) else (some false))) else (some false))) else (some false))) else (some false))) else (some false))) else (some false))) else (some false))) else (some false))) else (some false)) = some r := H
      have A5 := Aside0.mk A50
      clear A50
      by_cases c6 : t165 = true
      · subst c6
        have H1 : ((withylaw0_errors4.f).bind fun t166 => (if t166 = true then ((withylaw0_errors5.f).bind fun t167 => (if t167 = true then ((withylaw0_numbers1.f).bind fun t168 => (if t168 = true then ((withylaw0_numbers2.f).bind fun t169 => (if t169 = true then ((withylaw0_numbers3.f).bind fun t170 => (if t170 = true then ((withylaw0_numbers4.f).bind fun t171 => (if t171 = true then ((withylaw0_numbers5.f).bind fun t172 => (if t172 = true then ((withylaw0_numbers6.f).bind fun t173 => (if t173 = true then ((withylaw0_numbers7.f).bind fun t174 => (if t174 = true then ((withylaw0_numbers8.f).bind fun t175 => (if t175 = true then ((withylaw0_numbers9.f).bind fun t176 => (some t176)) else (some false))) else (some false))) else (some false))) else (some false))) else (some false))) else (some false))) else (some false))) else (some false))) else (some false))) else (some false))) = some r := by rw [if_pos rfl] at H; exact H
        clear H
        have H := H1
        clear H1
        replace H := Option.bind_eq_some_iff.mp H
        obtain ⟨t166, A70, H⟩ := H
        replace H : (if t166 = true then ((withylaw0_errors5.f).bind fun t167 => (if t167 = true then ((withylaw0_numbers1.f).bind fun t168 => (if t168 = true then ((withylaw0_numbers2.f).bind fun t169 => (if t169 = true then ((withylaw0_numbers3.f).bind fun t170 => (if t170 = true then ((withylaw0_numbers4.f).bind fun t171 => (if t171 = true then ((withylaw0_numbers5.f).bind fun t172 => (if t172 = true then ((withylaw0_numbers6.f).bind fun t173 => (if t173 = true then ((withylaw0_numbers7.f).bind fun t174 => (if t174 = true then ((withylaw0_numbers8.f).bind fun t175 => (if t175 = true then ((withylaw0_numbers9.f).bind fun t176 => (some t176)) else (some false))) else (some false))) else (some false))) else (some false))) else (some false))) else (some false))) else (some false))) else (some false))) else (some false))) else (some false)) = some r := H
        have A7 := Aside0.mk A70
        clear A70
        by_cases c8 : t166 = true
        · subst c8
          have H1 : ((withylaw0_errors5.f).bind fun t167 => (if t167 = true then ((withylaw0_numbers1.f).bind fun t168 => (if t168 = true then ((withylaw0_numbers2.f).bind fun t169 => (if t169 = true then ((withylaw0_numbers3.f).bind fun t170 => (if t170 = true then ((withylaw0_numbers4.f).bind fun t171 => (if t171 = true then ((withylaw0_numbers5.f).bind fun t172 => (if t172 = true then ((withylaw0_numbers6.f).bind fun t173 => (if t173 = true then ((withylaw0_numbers7.f).bind fun t174 => (if t174 = true then ((withylaw0_numbers8.f).bind fun t175 => (if t175 = true then ((withylaw0_numbers9.f).bind fun t176 => (some t176)) else (some false))) else (some false))) else (some false))) else (some false))) else (some false))) else (some false))) else (some false))) else (some false))) else (some false))) = some r := by rw [if_pos rfl] at H; exact H
          clear H
          have H := H1
          clear H1
          replace H := Option.bind_eq_some_iff.mp H
          obtain ⟨t167, A90, H⟩ := H
          replace H : (if t167 = true then ((withylaw0_numbers1.f).bind fun t168 => (if t168 = true then ((withylaw0_numbers2.f).bind fun t169 => (if t169 = true then ((withylaw0_numbers3.f).bind fun t170 => (if t170 = true then ((withylaw0_numbers4.f).bind fun t171 => (if t171 = true then ((withylaw0_numbers5.f).bind fun t172 => (if t172 = true then ((withylaw0_numbers6.f).bind fun t173 => (if t173 = true then ((withylaw0_numbers7.f).bind fun t174 => (if t174 = true then ((withylaw0_numbers8.f).bind fun t175 => (if t175 = true then ((withylaw0_numbers9.f).bind fun t176 => (some t176)) else (some false))) else (some false))) else (some false))) else (some false))) else (some false))) else (some false))) else (some false))) else (some false))) else (some false)) = some r := H
          have A9 := Aside0.mk A90
          clear A90
          by_cases c10 : t167 = true
          · subst c10
            have H1 : ((withylaw0_numbers1.f).bind fun t168 => (if t168 = true then ((withylaw0_numbers2.f).bind fun t169 => (if t169 = true then ((withylaw0_numbers3.f).bind fun t170 => (if t170 = true then ((withylaw0_numbers4.f).bind fun t171 => (if t171 = true then ((withylaw0_numbers5.f).bind fun t172 => (if t172 = true then ((withylaw0_numbers6.f).bind fun t173 => (if t173 = true then ((withylaw0_numbers7.f).bind fun t174 => (if t174 = true then ((withylaw0_numbers8.f).bind fun t175 => (if t175 = true then ((withylaw0_numbers9.f).bind fun t176 => (some t176)) else (some false))) else (some false))) else (some false))) else (some false))) else (some false))) else (some false))) else (some false))) else (some false))) = some r := by rw [if_pos rfl] at H; exact H
            clear H
            have H := H1
            clear H1
            replace H := Option.bind_eq_some_iff.mp H
            obtain ⟨t168, A110, H⟩ := H
            replace H : (if t168 = true then ((withylaw0_numbers2.f).bind fun t169 => (if t169 = true then ((withylaw0_numbers3.f).bind fun t170 => (if t170 = true then ((withylaw0_numbers4.f).bind fun t171 => (if t171 = true then ((withylaw0_numbers5.f).bind fun t172 => (if t172 = true then ((withylaw0_numbers6.f).bind fun t173 => (if t173 = true then ((withylaw0_numbers7.f).bind fun t174 => (if t174 = true then ((withylaw0_numbers8.f).bind fun t175 => (if t175 = true then ((withylaw0_numbers9.f).bind fun t176 => (some t176)) else (some false))) else (some false))) else (some false))) else (some false))) else (some false))) else (some false))) else (some false))) else (some false)) = some r := H
            have A11 := Aside0.mk A110
            clear A110
            by_cases c12 : t168 = true
            · subst c12
              have H1 : ((withylaw0_numbers2.f).bind fun t169 => (if t169 = true then ((withylaw0_numbers3.f).bind fun t170 => (if t170 = true then ((withylaw0_numbers4.f).bind fun t171 => (if t171 = true then ((withylaw0_numbers5.f).bind fun t172 => (if t172 = true then ((withylaw0_numbers6.f).bind fun t173 => (if t173 = true then ((withylaw0_numbers7.f).bind fun t174 => (if t174 = true then ((withylaw0_numbers8.f).bind fun t175 => (if t175 = true then ((withylaw0_numbers9.f).bind fun t176 => (some t176)) else (some false))) else (some false))) else (some false))) else (some false))) else (some false))) else (some false))) else (some false))) = some r := by rw [if_pos rfl] at H; exact H
              clear H
              have H := H1
              clear H1
              replace H := Option.bind_eq_some_iff.mp H
              obtain ⟨t169, A130, H⟩ := H
              replace H : (if t169 = true then ((withylaw0_numbers3.f).bind fun t170 => (if t170 = true then ((withylaw0_numbers4.f).bind fun t171 => (if t171 = true then ((withylaw0_numbers5.f).bind fun t172 => (if t172 = true then ((withylaw0_numbers6.f).bind fun t173 => (if t173 = true then ((withylaw0_numbers7.f).bind fun t174 => (if t174 = true then ((withylaw0_numbers8.f).bind fun t175 => (if t175 = true then ((withylaw0_numbers9.f).bind fun t176 => (some t176)) else (some false))) else (some false))) else (some false))) else (some false))) else (some false))) else (some false))) else (some false)) = some r := H
              have A13 := Aside0.mk A130
              clear A130
              by_cases c14 : t169 = true
              · subst c14
                have H1 : ((withylaw0_numbers3.f).bind fun t170 => (if t170 = true then ((withylaw0_numbers4.f).bind fun t171 => (if t171 = true then ((withylaw0_numbers5.f).bind fun t172 => (if t172 = true then ((withylaw0_numbers6.f).bind fun t173 => (if t173 = true then ((withylaw0_numbers7.f).bind fun t174 => (if t174 = true then ((withylaw0_numbers8.f).bind fun t175 => (if t175 = true then ((withylaw0_numbers9.f).bind fun t176 => (some t176)) else (some false))) else (some false))) else (some false))) else (some false))) else (some false))) else (some false))) = some r := by rw [if_pos rfl] at H; exact H
                clear H
                have H := H1
                clear H1
                replace H := Option.bind_eq_some_iff.mp H
                obtain ⟨t170, A150, H⟩ := H
                replace H : (if t170 = true then ((withylaw0_numbers4.f).bind fun t171 => (if t171 = true then ((withylaw0_numbers5.f).bind fun t172 => (if t172 = true then ((withylaw0_numbers6.f).bind fun t173 => (if t173 = true then ((withylaw0_numbers7.f).bind fun t174 => (if t174 = true then ((withylaw0_numbers8.f).bind fun t175 => (if t175 = true then ((withylaw0_numbers9.f).bind fun t176 => (some t176)) else (some false))) else (some false))) else (some false))) else (some false))) else (some false))) else (some false)) = some r := H
                have A15 := Aside0.mk A150
                clear A150
                by_cases c16 : t170 = true
                · subst c16
                  have H1 : ((withylaw0_numbers4.f).bind fun t171 => (if t171 = true then ((withylaw0_numbers5.f).bind fun t172 => (if t172 = true then ((withylaw0_numbers6.f).bind fun t173 => (if t173 = true then ((withylaw0_numbers7.f).bind fun t174 => (if t174 = true then ((withylaw0_numbers8.f).bind fun t175 => (if t175 = true then ((withylaw0_numbers9.f).bind fun t176 => (some t176)) else (some false))) else (some false))) else (some false))) else (some false))) else (some false))) = some r := by rw [if_pos rfl] at H; exact H
                  clear H
                  have H := H1
                  clear H1
                  replace H := Option.bind_eq_some_iff.mp H
                  obtain ⟨t171, A170, H⟩ := H
                  replace H : (if t171 = true then ((withylaw0_numbers5.f).bind fun t172 => (if t172 = true then ((withylaw0_numbers6.f).bind fun t173 => (if t173 = true then ((withylaw0_numbers7.f).bind fun t174 => (if t174 = true then ((withylaw0_numbers8.f).bind fun t175 => (if t175 = true then ((withylaw0_numbers9.f).bind fun t176 => (some t176)) else (some false))) else (some false))) else (some false))) else (some false))) else (some false)) = some r := H
                  have A17 := Aside0.mk A170
                  clear A170
                  by_cases c18 : t171 = true
                  · subst c18
                    have H1 : ((withylaw0_numbers5.f).bind fun t172 => (if t172 = true then ((withylaw0_numbers6.f).bind fun t173 => (if t173 = true then ((withylaw0_numbers7.f).bind fun t174 => (if t174 = true then ((withylaw0_numbers8.f).bind fun t175 => (if t175 = true then ((withylaw0_numbers9.f).bind fun t176 => (some t176)) else (some false))) else (some false))) else (some false))) else (some false))) = some r := by rw [if_pos rfl] at H; exact H
                    clear H
                    have H := H1
                    clear H1
                    replace H := Option.bind_eq_some_iff.mp H
                    obtain ⟨t172, A190, H⟩ := H
                    replace H : (if t172 = true then ((withylaw0_numbers6.f).bind fun t173 => (if t173 = true then ((withylaw0_numbers7.f).bind fun t174 => (if t174 = true then ((withylaw0_numbers8.f).bind fun t175 => (if t175 = true then ((withylaw0_numbers9.f).bind fun t176 => (some t176)) else (some false))) else (some false))) else (some false))) else (some false)) = some r := H
                    have A19 := Aside0.mk A190
                    clear A190
                    by_cases c20 : t172 = true
                    · subst c20
                      have H1 : ((withylaw0_numbers6.f).bind fun t173 => (if t173 = true then ((withylaw0_numbers7.f).bind fun t174 => (if t174 = true then ((withylaw0_numbers8.f).bind fun t175 => (if t175 = true then ((withylaw0_numbers9.f).bind fun t176 => (some t176)) else (some false))) else (some false))) else (some false))) = some r := by rw [if_pos rfl] at H; exact H
                      clear H
                      have H := H1
                      clear H1
                      replace H := Option.bind_eq_some_iff.mp H
                      obtain ⟨t173, A210, H⟩ := H
                      replace H : (if t173 = true then ((withylaw0_numbers7.f).bind fun t174 => (if t174 = true then ((withylaw0_numbers8.f).bind fun t175 => (if t175 = true then ((withylaw0_numbers9.f).bind fun t176 => (some t176)) else (some false))) else (some false))) else (some false)) = some r := H
                      have A21 := Aside0.mk A210
                      clear A210
                      by_cases c22 : t173 = true
                      · subst c22
                        have H1 : ((withylaw0_numbers7.f).bind fun t174 => (if t174 = true then ((withylaw0_numbers8.f).bind fun t175 => (if t175 = true then ((withylaw0_numbers9.f).bind fun t176 => (some t176)) else (some false))) else (some false))) = some r := by rw [if_pos rfl] at H; exact H
                        clear H
                        have H := H1
                        clear H1
                        replace H := Option.bind_eq_some_iff.mp H
                        obtain ⟨t174, A230, H⟩ := H
                        replace H : (if t174 = true then ((withylaw0_numbers8.f).bind fun t175 => (if t175 = true then ((withylaw0_numbers9.f).bind fun t176 => (some t176)) else (some false))) else (some false)) = some r := H
                        have A23 := Aside0.mk A230
                        clear A230
                        by_cases c24 : t174 = true
                        · subst c24
                          have H1 : ((withylaw0_numbers8.f).bind fun t175 => (if t175 = true then ((withylaw0_numbers9.f).bind fun t176 => (some t176)) else (some false))) = some r := by rw [if_pos rfl] at H; exact H
                          clear H
                          have H := H1
                          clear H1
                          replace H := Option.bind_eq_some_iff.mp H
                          obtain ⟨t175, A250, H⟩ := H
                          replace H : (if t175 = true then ((withylaw0_numbers9.f).bind fun t176 => (some t176)) else (some false)) = some r := H
                          have A25 := Aside0.mk A250
                          clear A250
                          by_cases c26 : t175 = true
                          · subst c26
                            have H1 : ((withylaw0_numbers9.f).bind fun t176 => (some t176)) = some r := by rw [if_pos rfl] at H; exact H
                            clear H
                            have H := H1
                            clear H1
                            replace H := Option.bind_eq_some_iff.mp H
                            obtain ⟨t176, A270, H⟩ := H
                            replace H : (some t176) = some r := H
                            have A27 := Aside0.mk A270
                            clear A270
                            obtain rfl := Option.some.inj H
                            go_enter Try.func3, Try.ntmps3
                            go_wp2_with (first | ((with_reducible refine gate_callee (f := 4) rfl ?_); refine goesL_ (some 1) rfl rfl Try.func4 (by kernel_rfl) rfl #[] rfl (by (try simp only [List.map_toArray, List.map_cons, List.map_nil]); first | done | rfl | (simp only [List.length_drop, List.length_take]; rfl)) ?_; (with_reducible refine (withylaw0_errors1.calls  true _ A1.out).mono ?_); rintro e w' ⟨rfl, ⟨nd, rfl⟩⟩; refine ⟨_, rfl, ?_⟩) | (go_at_call 5; (with_reducible refine (withylaw0_errors2.calls  true _ A3.out).mono ?_); rintro e w' ⟨rfl, ⟨nd, rfl⟩⟩) | (go_at_call 6; (with_reducible refine (withylaw0_errors3.calls  true _ A5.out).mono ?_); rintro e w' ⟨rfl, ⟨nd, rfl⟩⟩) | (go_at_call 7; (with_reducible refine (withylaw0_errors4.calls  true _ A7.out).mono ?_); rintro e w' ⟨rfl, ⟨nd, rfl⟩⟩) | (go_at_call 8; (with_reducible refine (withylaw0_errors5.calls  true _ A9.out).mono ?_); rintro e w' ⟨rfl, ⟨nd, rfl⟩⟩) | (go_at_call 9; (with_reducible refine (withylaw0_numbers1.calls  true _ A11.out).mono ?_); rintro e w' ⟨rfl, ⟨nd, rfl⟩⟩) | (go_at_call 10; (with_reducible refine (withylaw0_numbers2.calls  true _ A13.out).mono ?_); rintro e w' ⟨rfl, ⟨nd, rfl⟩⟩) | (go_at_call 11; (with_reducible refine (withylaw0_numbers3.calls  true _ A15.out).mono ?_); rintro e w' ⟨rfl, ⟨nd, rfl⟩⟩) | (go_at_call 12; (with_reducible refine (withylaw0_numbers4.calls  true _ A17.out).mono ?_); rintro e w' ⟨rfl, ⟨nd, rfl⟩⟩) | (go_at_call 13; (with_reducible refine (withylaw0_numbers5.calls  true _ A19.out).mono ?_); rintro e w' ⟨rfl, ⟨nd, rfl⟩⟩) | (go_at_call 14; (with_reducible refine (withylaw0_numbers6.calls  true _ A21.out).mono ?_); rintro e w' ⟨rfl, ⟨nd, rfl⟩⟩) | (go_at_call 15; (with_reducible refine (withylaw0_numbers7.calls  true _ A23.out).mono ?_); rintro e w' ⟨rfl, ⟨nd, rfl⟩⟩) | (go_at_call 16; (with_reducible refine (withylaw0_numbers8.calls  true _ A25.out).mono ?_); rintro e w' ⟨rfl, ⟨nd, rfl⟩⟩) | (go_at_call 17; (with_reducible refine (withylaw0_numbers9.calls  t176 _ A27.out).mono ?_); rintro e w' ⟨rfl, ⟨nd, rfl⟩⟩))
                            go_ret
                            exact ⟨by first | rfl | (simp; done) | (simp [*]; done), by repeat (first | exact Drawn0.refl _ | apply Drawn0.step)⟩
                          · replace c26 := Bool.eq_false_iff.mpr c26
                            subst c26
                            have H1 : (some false) = some r := by rw [if_neg (show ¬ (false = true) by decide)] at H; exact H
                            clear H
                            have H := H1
                            clear H1
                            obtain rfl := Option.some.inj H
                            go_enter Try.func3, Try.ntmps3
                            go_wp2_with (first | ((with_reducible refine gate_callee (f := 4) rfl ?_); refine goesL_ (some 1) rfl rfl Try.func4 (by kernel_rfl) rfl #[] rfl (by (try simp only [List.map_toArray, List.map_cons, List.map_nil]); first | done | rfl | (simp only [List.length_drop, List.length_take]; rfl)) ?_; (with_reducible refine (withylaw0_errors1.calls  true _ A1.out).mono ?_); rintro e w' ⟨rfl, ⟨nd, rfl⟩⟩; refine ⟨_, rfl, ?_⟩) | (go_at_call 5; (with_reducible refine (withylaw0_errors2.calls  true _ A3.out).mono ?_); rintro e w' ⟨rfl, ⟨nd, rfl⟩⟩) | (go_at_call 6; (with_reducible refine (withylaw0_errors3.calls  true _ A5.out).mono ?_); rintro e w' ⟨rfl, ⟨nd, rfl⟩⟩) | (go_at_call 7; (with_reducible refine (withylaw0_errors4.calls  true _ A7.out).mono ?_); rintro e w' ⟨rfl, ⟨nd, rfl⟩⟩) | (go_at_call 8; (with_reducible refine (withylaw0_errors5.calls  true _ A9.out).mono ?_); rintro e w' ⟨rfl, ⟨nd, rfl⟩⟩) | (go_at_call 9; (with_reducible refine (withylaw0_numbers1.calls  true _ A11.out).mono ?_); rintro e w' ⟨rfl, ⟨nd, rfl⟩⟩) | (go_at_call 10; (with_reducible refine (withylaw0_numbers2.calls  true _ A13.out).mono ?_); rintro e w' ⟨rfl, ⟨nd, rfl⟩⟩) | (go_at_call 11; (with_reducible refine (withylaw0_numbers3.calls  true _ A15.out).mono ?_); rintro e w' ⟨rfl, ⟨nd, rfl⟩⟩) | (go_at_call 12; (with_reducible refine (withylaw0_numbers4.calls  true _ A17.out).mono ?_); rintro e w' ⟨rfl, ⟨nd, rfl⟩⟩) | (go_at_call 13; (with_reducible refine (withylaw0_numbers5.calls  true _ A19.out).mono ?_); rintro e w' ⟨rfl, ⟨nd, rfl⟩⟩) | (go_at_call 14; (with_reducible refine (withylaw0_numbers6.calls  true _ A21.out).mono ?_); rintro e w' ⟨rfl, ⟨nd, rfl⟩⟩) | (go_at_call 15; (with_reducible refine (withylaw0_numbers7.calls  true _ A23.out).mono ?_); rintro e w' ⟨rfl, ⟨nd, rfl⟩⟩) | (go_at_call 16; (with_reducible refine (withylaw0_numbers8.calls  false _ A25.out).mono ?_); rintro e w' ⟨rfl, ⟨nd, rfl⟩⟩))
                            go_ret
                            exact ⟨by first | rfl | (simp; done) | (simp [*]; done), by repeat (first | exact Drawn0.refl _ | apply Drawn0.step)⟩
                        · replace c24 := Bool.eq_false_iff.mpr c24
                          subst c24
                          have H1 : (some false) = some r := by rw [if_neg (show ¬ (false = true) by decide)] at H; exact H
                          clear H
                          have H := H1
                          clear H1
                          obtain rfl := Option.some.inj H
                          go_enter Try.func3, Try.ntmps3
                          go_wp2_with (first | ((with_reducible refine gate_callee (f := 4) rfl ?_); refine goesL_ (some 1) rfl rfl Try.func4 (by kernel_rfl) rfl #[] rfl (by (try simp only [List.map_toArray, List.map_cons, List.map_nil]); first | done | rfl | (simp only [List.length_drop, List.length_take]; rfl)) ?_; (with_reducible refine (withylaw0_errors1.calls  true _ A1.out).mono ?_); rintro e w' ⟨rfl, ⟨nd, rfl⟩⟩; refine ⟨_, rfl, ?_⟩) | (go_at_call 5; (with_reducible refine (withylaw0_errors2.calls  true _ A3.out).mono ?_); rintro e w' ⟨rfl, ⟨nd, rfl⟩⟩) | (go_at_call 6; (with_reducible refine (withylaw0_errors3.calls  true _ A5.out).mono ?_); rintro e w' ⟨rfl, ⟨nd, rfl⟩⟩) | (go_at_call 7; (with_reducible refine (withylaw0_errors4.calls  true _ A7.out).mono ?_); rintro e w' ⟨rfl, ⟨nd, rfl⟩⟩) | (go_at_call 8; (with_reducible refine (withylaw0_errors5.calls  true _ A9.out).mono ?_); rintro e w' ⟨rfl, ⟨nd, rfl⟩⟩) | (go_at_call 9; (with_reducible refine (withylaw0_numbers1.calls  true _ A11.out).mono ?_); rintro e w' ⟨rfl, ⟨nd, rfl⟩⟩) | (go_at_call 10; (with_reducible refine (withylaw0_numbers2.calls  true _ A13.out).mono ?_); rintro e w' ⟨rfl, ⟨nd, rfl⟩⟩) | (go_at_call 11; (with_reducible refine (withylaw0_numbers3.calls  true _ A15.out).mono ?_); rintro e w' ⟨rfl, ⟨nd, rfl⟩⟩) | (go_at_call 12; (with_reducible refine (withylaw0_numbers4.calls  true _ A17.out).mono ?_); rintro e w' ⟨rfl, ⟨nd, rfl⟩⟩) | (go_at_call 13; (with_reducible refine (withylaw0_numbers5.calls  true _ A19.out).mono ?_); rintro e w' ⟨rfl, ⟨nd, rfl⟩⟩) | (go_at_call 14; (with_reducible refine (withylaw0_numbers6.calls  true _ A21.out).mono ?_); rintro e w' ⟨rfl, ⟨nd, rfl⟩⟩) | (go_at_call 15; (with_reducible refine (withylaw0_numbers7.calls  false _ A23.out).mono ?_); rintro e w' ⟨rfl, ⟨nd, rfl⟩⟩))
                          go_ret
                          exact ⟨by first | rfl | (simp; done) | (simp [*]; done), by repeat (first | exact Drawn0.refl _ | apply Drawn0.step)⟩
                      · replace c22 := Bool.eq_false_iff.mpr c22
                        subst c22
                        have H1 : (some false) = some r := by rw [if_neg (show ¬ (false = true) by decide)] at H; exact H
                        clear H
                        have H := H1
                        clear H1
                        obtain rfl := Option.some.inj H
                        go_enter Try.func3, Try.ntmps3
                        go_wp2_with (first | ((with_reducible refine gate_callee (f := 4) rfl ?_); refine goesL_ (some 1) rfl rfl Try.func4 (by kernel_rfl) rfl #[] rfl (by (try simp only [List.map_toArray, List.map_cons, List.map_nil]); first | done | rfl | (simp only [List.length_drop, List.length_take]; rfl)) ?_; (with_reducible refine (withylaw0_errors1.calls  true _ A1.out).mono ?_); rintro e w' ⟨rfl, ⟨nd, rfl⟩⟩; refine ⟨_, rfl, ?_⟩) | (go_at_call 5; (with_reducible refine (withylaw0_errors2.calls  true _ A3.out).mono ?_); rintro e w' ⟨rfl, ⟨nd, rfl⟩⟩) | (go_at_call 6; (with_reducible refine (withylaw0_errors3.calls  true _ A5.out).mono ?_); rintro e w' ⟨rfl, ⟨nd, rfl⟩⟩) | (go_at_call 7; (with_reducible refine (withylaw0_errors4.calls  true _ A7.out).mono ?_); rintro e w' ⟨rfl, ⟨nd, rfl⟩⟩) | (go_at_call 8; (with_reducible refine (withylaw0_errors5.calls  true _ A9.out).mono ?_); rintro e w' ⟨rfl, ⟨nd, rfl⟩⟩) | (go_at_call 9; (with_reducible refine (withylaw0_numbers1.calls  true _ A11.out).mono ?_); rintro e w' ⟨rfl, ⟨nd, rfl⟩⟩) | (go_at_call 10; (with_reducible refine (withylaw0_numbers2.calls  true _ A13.out).mono ?_); rintro e w' ⟨rfl, ⟨nd, rfl⟩⟩) | (go_at_call 11; (with_reducible refine (withylaw0_numbers3.calls  true _ A15.out).mono ?_); rintro e w' ⟨rfl, ⟨nd, rfl⟩⟩) | (go_at_call 12; (with_reducible refine (withylaw0_numbers4.calls  true _ A17.out).mono ?_); rintro e w' ⟨rfl, ⟨nd, rfl⟩⟩) | (go_at_call 13; (with_reducible refine (withylaw0_numbers5.calls  true _ A19.out).mono ?_); rintro e w' ⟨rfl, ⟨nd, rfl⟩⟩) | (go_at_call 14; (with_reducible refine (withylaw0_numbers6.calls  false _ A21.out).mono ?_); rintro e w' ⟨rfl, ⟨nd, rfl⟩⟩))
                        go_ret
                        exact ⟨by first | rfl | (simp; done) | (simp [*]; done), by repeat (first | exact Drawn0.refl _ | apply Drawn0.step)⟩
                    · replace c20 := Bool.eq_false_iff.mpr c20
                      subst c20
                      have H1 : (some false) = some r := by rw [if_neg (show ¬ (false = true) by decide)] at H; exact H
                      clear H
                      have H := H1
                      clear H1
                      obtain rfl := Option.some.inj H
                      go_enter Try.func3, Try.ntmps3
                      go_wp2_with (first | ((with_reducible refine gate_callee (f := 4) rfl ?_); refine goesL_ (some 1) rfl rfl Try.func4 (by kernel_rfl) rfl #[] rfl (by (try simp only [List.map_toArray, List.map_cons, List.map_nil]); first | done | rfl | (simp only [List.length_drop, List.length_take]; rfl)) ?_; (with_reducible refine (withylaw0_errors1.calls  true _ A1.out).mono ?_); rintro e w' ⟨rfl, ⟨nd, rfl⟩⟩; refine ⟨_, rfl, ?_⟩) | (go_at_call 5; (with_reducible refine (withylaw0_errors2.calls  true _ A3.out).mono ?_); rintro e w' ⟨rfl, ⟨nd, rfl⟩⟩) | (go_at_call 6; (with_reducible refine (withylaw0_errors3.calls  true _ A5.out).mono ?_); rintro e w' ⟨rfl, ⟨nd, rfl⟩⟩) | (go_at_call 7; (with_reducible refine (withylaw0_errors4.calls  true _ A7.out).mono ?_); rintro e w' ⟨rfl, ⟨nd, rfl⟩⟩) | (go_at_call 8; (with_reducible refine (withylaw0_errors5.calls  true _ A9.out).mono ?_); rintro e w' ⟨rfl, ⟨nd, rfl⟩⟩) | (go_at_call 9; (with_reducible refine (withylaw0_numbers1.calls  true _ A11.out).mono ?_); rintro e w' ⟨rfl, ⟨nd, rfl⟩⟩) | (go_at_call 10; (with_reducible refine (withylaw0_numbers2.calls  true _ A13.out).mono ?_); rintro e w' ⟨rfl, ⟨nd, rfl⟩⟩) | (go_at_call 11; (with_reducible refine (withylaw0_numbers3.calls  true _ A15.out).mono ?_); rintro e w' ⟨rfl, ⟨nd, rfl⟩⟩) | (go_at_call 12; (with_reducible refine (withylaw0_numbers4.calls  true _ A17.out).mono ?_); rintro e w' ⟨rfl, ⟨nd, rfl⟩⟩) | (go_at_call 13; (with_reducible refine (withylaw0_numbers5.calls  false _ A19.out).mono ?_); rintro e w' ⟨rfl, ⟨nd, rfl⟩⟩))
                      go_ret
                      exact ⟨by first | rfl | (simp; done) | (simp [*]; done), by repeat (first | exact Drawn0.refl _ | apply Drawn0.step)⟩
                  · replace c18 := Bool.eq_false_iff.mpr c18
                    subst c18
                    have H1 : (some false) = some r := by rw [if_neg (show ¬ (false = true) by decide)] at H; exact H
                    clear H
                    have H := H1
                    clear H1
                    obtain rfl := Option.some.inj H
                    go_enter Try.func3, Try.ntmps3
                    go_wp2_with (first | ((with_reducible refine gate_callee (f := 4) rfl ?_); refine goesL_ (some 1) rfl rfl Try.func4 (by kernel_rfl) rfl #[] rfl (by (try simp only [List.map_toArray, List.map_cons, List.map_nil]); first | done | rfl | (simp only [List.length_drop, List.length_take]; rfl)) ?_; (with_reducible refine (withylaw0_errors1.calls  true _ A1.out).mono ?_); rintro e w' ⟨rfl, ⟨nd, rfl⟩⟩; refine ⟨_, rfl, ?_⟩) | (go_at_call 5; (with_reducible refine (withylaw0_errors2.calls  true _ A3.out).mono ?_); rintro e w' ⟨rfl, ⟨nd, rfl⟩⟩) | (go_at_call 6; (with_reducible refine (withylaw0_errors3.calls  true _ A5.out).mono ?_); rintro e w' ⟨rfl, ⟨nd, rfl⟩⟩) | (go_at_call 7; (with_reducible refine (withylaw0_errors4.calls  true _ A7.out).mono ?_); rintro e w' ⟨rfl, ⟨nd, rfl⟩⟩) | (go_at_call 8; (with_reducible refine (withylaw0_errors5.calls  true _ A9.out).mono ?_); rintro e w' ⟨rfl, ⟨nd, rfl⟩⟩) | (go_at_call 9; (with_reducible refine (withylaw0_numbers1.calls  true _ A11.out).mono ?_); rintro e w' ⟨rfl, ⟨nd, rfl⟩⟩) | (go_at_call 10; (with_reducible refine (withylaw0_numbers2.calls  true _ A13.out).mono ?_); rintro e w' ⟨rfl, ⟨nd, rfl⟩⟩) | (go_at_call 11; (with_reducible refine (withylaw0_numbers3.calls  true _ A15.out).mono ?_); rintro e w' ⟨rfl, ⟨nd, rfl⟩⟩) | (go_at_call 12; (with_reducible refine (withylaw0_numbers4.calls  false _ A17.out).mono ?_); rintro e w' ⟨rfl, ⟨nd, rfl⟩⟩))
                    go_ret
                    exact ⟨by first | rfl | (simp; done) | (simp [*]; done), by repeat (first | exact Drawn0.refl _ | apply Drawn0.step)⟩
                · replace c16 := Bool.eq_false_iff.mpr c16
                  subst c16
                  have H1 : (some false) = some r := by rw [if_neg (show ¬ (false = true) by decide)] at H; exact H
                  clear H
                  have H := H1
                  clear H1
                  obtain rfl := Option.some.inj H
                  go_enter Try.func3, Try.ntmps3
                  go_wp2_with (first | ((with_reducible refine gate_callee (f := 4) rfl ?_); refine goesL_ (some 1) rfl rfl Try.func4 (by kernel_rfl) rfl #[] rfl (by (try simp only [List.map_toArray, List.map_cons, List.map_nil]); first | done | rfl | (simp only [List.length_drop, List.length_take]; rfl)) ?_; (with_reducible refine (withylaw0_errors1.calls  true _ A1.out).mono ?_); rintro e w' ⟨rfl, ⟨nd, rfl⟩⟩; refine ⟨_, rfl, ?_⟩) | (go_at_call 5; (with_reducible refine (withylaw0_errors2.calls  true _ A3.out).mono ?_); rintro e w' ⟨rfl, ⟨nd, rfl⟩⟩) | (go_at_call 6; (with_reducible refine (withylaw0_errors3.calls  true _ A5.out).mono ?_); rintro e w' ⟨rfl, ⟨nd, rfl⟩⟩) | (go_at_call 7; (with_reducible refine (withylaw0_errors4.calls  true _ A7.out).mono ?_); rintro e w' ⟨rfl, ⟨nd, rfl⟩⟩) | (go_at_call 8; (with_reducible refine (withylaw0_errors5.calls  true _ A9.out).mono ?_); rintro e w' ⟨rfl, ⟨nd, rfl⟩⟩) | (go_at_call 9; (with_reducible refine (withylaw0_numbers1.calls  true _ A11.out).mono ?_); rintro e w' ⟨rfl, ⟨nd, rfl⟩⟩) | (go_at_call 10; (with_reducible refine (withylaw0_numbers2.calls  true _ A13.out).mono ?_); rintro e w' ⟨rfl, ⟨nd, rfl⟩⟩) | (go_at_call 11; (with_reducible refine (withylaw0_numbers3.calls  false _ A15.out).mono ?_); rintro e w' ⟨rfl, ⟨nd, rfl⟩⟩))
                  go_ret
                  exact ⟨by first | rfl | (simp; done) | (simp [*]; done), by repeat (first | exact Drawn0.refl _ | apply Drawn0.step)⟩
              · replace c14 := Bool.eq_false_iff.mpr c14
                subst c14
                have H1 : (some false) = some r := by rw [if_neg (show ¬ (false = true) by decide)] at H; exact H
                clear H
                have H := H1
                clear H1
                obtain rfl := Option.some.inj H
                go_enter Try.func3, Try.ntmps3
                go_wp2_with (first | ((with_reducible refine gate_callee (f := 4) rfl ?_); refine goesL_ (some 1) rfl rfl Try.func4 (by kernel_rfl) rfl #[] rfl (by (try simp only [List.map_toArray, List.map_cons, List.map_nil]); first | done | rfl | (simp only [List.length_drop, List.length_take]; rfl)) ?_; (with_reducible refine (withylaw0_errors1.calls  true _ A1.out).mono ?_); rintro e w' ⟨rfl, ⟨nd, rfl⟩⟩; refine ⟨_, rfl, ?_⟩) | (go_at_call 5; (with_reducible refine (withylaw0_errors2.calls  true _ A3.out).mono ?_); rintro e w' ⟨rfl, ⟨nd, rfl⟩⟩) | (go_at_call 6; (with_reducible refine (withylaw0_errors3.calls  true _ A5.out).mono ?_); rintro e w' ⟨rfl, ⟨nd, rfl⟩⟩) | (go_at_call 7; (with_reducible refine (withylaw0_errors4.calls  true _ A7.out).mono ?_); rintro e w' ⟨rfl, ⟨nd, rfl⟩⟩) | (go_at_call 8; (with_reducible refine (withylaw0_errors5.calls  true _ A9.out).mono ?_); rintro e w' ⟨rfl, ⟨nd, rfl⟩⟩) | (go_at_call 9; (with_reducible refine (withylaw0_numbers1.calls  true _ A11.out).mono ?_); rintro e w' ⟨rfl, ⟨nd, rfl⟩⟩) | (go_at_call 10; (with_reducible refine (withylaw0_numbers2.calls  false _ A13.out).mono ?_); rintro e w' ⟨rfl, ⟨nd, rfl⟩⟩))
                go_ret
                exact ⟨by first | rfl | (simp; done) | (simp [*]; done), by repeat (first | exact Drawn0.refl _ | apply Drawn0.step)⟩
            · replace c12 := Bool.eq_false_iff.mpr c12
              subst c12
              have H1 : (some false) = some r := by rw [if_neg (show ¬ (false = true) by decide)] at H; exact H
              clear H
              have H := H1
              clear H1
              obtain rfl := Option.some.inj H
              go_enter Try.func3, Try.ntmps3
              go_wp2_with (first | ((with_reducible refine gate_callee (f := 4) rfl ?_); refine goesL_ (some 1) rfl rfl Try.func4 (by kernel_rfl) rfl #[] rfl (by (try simp only [List.map_toArray, List.map_cons, List.map_nil]); first | done | rfl | (simp only [List.length_drop, List.length_take]; rfl)) ?_; (with_reducible refine (withylaw0_errors1.calls  true _ A1.out).mono ?_); rintro e w' ⟨rfl, ⟨nd, rfl⟩⟩; refine ⟨_, rfl, ?_⟩) | (go_at_call 5; (with_reducible refine (withylaw0_errors2.calls  true _ A3.out).mono ?_); rintro e w' ⟨rfl, ⟨nd, rfl⟩⟩) | (go_at_call 6; (with_reducible refine (withylaw0_errors3.calls  true _ A5.out).mono ?_); rintro e w' ⟨rfl, ⟨nd, rfl⟩⟩) | (go_at_call 7; (with_reducible refine (withylaw0_errors4.calls  true _ A7.out).mono ?_); rintro e w' ⟨rfl, ⟨nd, rfl⟩⟩) | (go_at_call 8; (with_reducible refine (withylaw0_errors5.calls  true _ A9.out).mono ?_); rintro e w' ⟨rfl, ⟨nd, rfl⟩⟩) | (go_at_call 9; (with_reducible refine (withylaw0_numbers1.calls  false _ A11.out).mono ?_); rintro e w' ⟨rfl, ⟨nd, rfl⟩⟩))
              go_ret
              exact ⟨by first | rfl | (simp; done) | (simp [*]; done), by repeat (first | exact Drawn0.refl _ | apply Drawn0.step)⟩
          · replace c10 := Bool.eq_false_iff.mpr c10
            subst c10
            have H1 : (some false) = some r := by rw [if_neg (show ¬ (false = true) by decide)] at H; exact H
            clear H
            have H := H1
            clear H1
            obtain rfl := Option.some.inj H
            go_enter Try.func3, Try.ntmps3
            go_wp2_with (first | ((with_reducible refine gate_callee (f := 4) rfl ?_); refine goesL_ (some 1) rfl rfl Try.func4 (by kernel_rfl) rfl #[] rfl (by (try simp only [List.map_toArray, List.map_cons, List.map_nil]); first | done | rfl | (simp only [List.length_drop, List.length_take]; rfl)) ?_; (with_reducible refine (withylaw0_errors1.calls  true _ A1.out).mono ?_); rintro e w' ⟨rfl, ⟨nd, rfl⟩⟩; refine ⟨_, rfl, ?_⟩) | (go_at_call 5; (with_reducible refine (withylaw0_errors2.calls  true _ A3.out).mono ?_); rintro e w' ⟨rfl, ⟨nd, rfl⟩⟩) | (go_at_call 6; (with_reducible refine (withylaw0_errors3.calls  true _ A5.out).mono ?_); rintro e w' ⟨rfl, ⟨nd, rfl⟩⟩) | (go_at_call 7; (with_reducible refine (withylaw0_errors4.calls  true _ A7.out).mono ?_); rintro e w' ⟨rfl, ⟨nd, rfl⟩⟩) | (go_at_call 8; (with_reducible refine (withylaw0_errors5.calls  false _ A9.out).mono ?_); rintro e w' ⟨rfl, ⟨nd, rfl⟩⟩))
            go_ret
            exact ⟨by first | rfl | (simp; done) | (simp [*]; done), by repeat (first | exact Drawn0.refl _ | apply Drawn0.step)⟩
        · replace c8 := Bool.eq_false_iff.mpr c8
          subst c8
          have H1 : (some false) = some r := by rw [if_neg (show ¬ (false = true) by decide)] at H; exact H
          clear H
          have H := H1
          clear H1
          obtain rfl := Option.some.inj H
          go_enter Try.func3, Try.ntmps3
          go_wp2_with (first | ((with_reducible refine gate_callee (f := 4) rfl ?_); refine goesL_ (some 1) rfl rfl Try.func4 (by kernel_rfl) rfl #[] rfl (by (try simp only [List.map_toArray, List.map_cons, List.map_nil]); first | done | rfl | (simp only [List.length_drop, List.length_take]; rfl)) ?_; (with_reducible refine (withylaw0_errors1.calls  true _ A1.out).mono ?_); rintro e w' ⟨rfl, ⟨nd, rfl⟩⟩; refine ⟨_, rfl, ?_⟩) | (go_at_call 5; (with_reducible refine (withylaw0_errors2.calls  true _ A3.out).mono ?_); rintro e w' ⟨rfl, ⟨nd, rfl⟩⟩) | (go_at_call 6; (with_reducible refine (withylaw0_errors3.calls  true _ A5.out).mono ?_); rintro e w' ⟨rfl, ⟨nd, rfl⟩⟩) | (go_at_call 7; (with_reducible refine (withylaw0_errors4.calls  false _ A7.out).mono ?_); rintro e w' ⟨rfl, ⟨nd, rfl⟩⟩))
          go_ret
          exact ⟨by first | rfl | (simp; done) | (simp [*]; done), by repeat (first | exact Drawn0.refl _ | apply Drawn0.step)⟩
      · replace c6 := Bool.eq_false_iff.mpr c6
        subst c6
        have H1 : (some false) = some r := by rw [if_neg (show ¬ (false = true) by decide)] at H; exact H
        clear H
        have H := H1
        clear H1
        obtain rfl := Option.some.inj H
        go_enter Try.func3, Try.ntmps3
        go_wp2_with (first | ((with_reducible refine gate_callee (f := 4) rfl ?_); refine goesL_ (some 1) rfl rfl Try.func4 (by kernel_rfl) rfl #[] rfl (by (try simp only [List.map_toArray, List.map_cons, List.map_nil]); first | done | rfl | (simp only [List.length_drop, List.length_take]; rfl)) ?_; (with_reducible refine (withylaw0_errors1.calls  true _ A1.out).mono ?_); rintro e w' ⟨rfl, ⟨nd, rfl⟩⟩; refine ⟨_, rfl, ?_⟩) | (go_at_call 5; (with_reducible refine (withylaw0_errors2.calls  true _ A3.out).mono ?_); rintro e w' ⟨rfl, ⟨nd, rfl⟩⟩) | (go_at_call 6; (with_reducible refine (withylaw0_errors3.calls  false _ A5.out).mono ?_); rintro e w' ⟨rfl, ⟨nd, rfl⟩⟩))
        go_ret
        exact ⟨by first | rfl | (simp; done) | (simp [*]; done), by repeat (first | exact Drawn0.refl _ | apply Drawn0.step)⟩
    · replace c4 := Bool.eq_false_iff.mpr c4
      subst c4
      have H1 : (some false) = some r := by rw [if_neg (show ¬ (false = true) by decide)] at H; exact H
      clear H
      have H := H1
      clear H1
      obtain rfl := Option.some.inj H
      go_enter Try.func3, Try.ntmps3
      go_wp2_with (first | ((with_reducible refine gate_callee (f := 4) rfl ?_); refine goesL_ (some 1) rfl rfl Try.func4 (by kernel_rfl) rfl #[] rfl (by (try simp only [List.map_toArray, List.map_cons, List.map_nil]); first | done | rfl | (simp only [List.length_drop, List.length_take]; rfl)) ?_; (with_reducible refine (withylaw0_errors1.calls  true _ A1.out).mono ?_); rintro e w' ⟨rfl, ⟨nd, rfl⟩⟩; refine ⟨_, rfl, ?_⟩) | (go_at_call 5; (with_reducible refine (withylaw0_errors2.calls  false _ A3.out).mono ?_); rintro e w' ⟨rfl, ⟨nd, rfl⟩⟩))
      go_ret
      exact ⟨by first | rfl | (simp; done) | (simp [*]; done), by repeat (first | exact Drawn0.refl _ | apply Drawn0.step)⟩
  · replace c2 := Bool.eq_false_iff.mpr c2
    subst c2
    have H1 : (some false) = some r := by rw [if_neg (show ¬ (false = true) by decide)] at H; exact H
    clear H
    have H := H1
    clear H1
    obtain rfl := Option.some.inj H
    go_enter Try.func3, Try.ntmps3
    go_wp2_with (first | ((with_reducible refine gate_callee (f := 4) rfl ?_); refine goesL_ (some 1) rfl rfl Try.func4 (by kernel_rfl) rfl #[] rfl (by (try simp only [List.map_toArray, List.map_cons, List.map_nil]); first | done | rfl | (simp only [List.length_drop, List.length_take]; rfl)) ?_; (with_reducible refine (withylaw0_errors1.calls  false _ A1.out).mono ?_); rintro e w' ⟨rfl, ⟨nd, rfl⟩⟩; refine ⟨_, rfl, ?_⟩))
    go_ret
    exact ⟨by first | rfl | (simp; done) | (simp [*]; done), by repeat (first | exact Drawn0.refl _ | apply Drawn0.step)⟩

/-- THE ONE PURE STATEMENT of withylaw0_WithyNames: yours. -/
def withylaw0_WithyNames.Pure : Prop := withylaw0_WithyNames.f  = some true
theorem withylaw0_WithyNames.walk (P : withylaw0_WithyNames.Pure)  (w : World)  :
    Calls Try.prog 3 #[] w fun e w' => e = .returned (.bool true) ∧ Below w.heap.size w w' := by
  have h := P  
  refine (withylaw0_WithyNames.calls  true w h).mono ?_
  rintro e w' ⟨rfl, hd⟩
  exact ⟨rfl, hd.below⟩

end Go.Proofs.Ytmkabpkcgpnpbaa.PWithyNames
