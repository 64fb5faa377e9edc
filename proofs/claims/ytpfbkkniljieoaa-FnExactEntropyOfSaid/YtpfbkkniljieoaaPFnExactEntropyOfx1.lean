-- Written by a turned copy of the kit's printer (wip/pf).
import Derived.Test.YtpfbkkniljieoaaPFnExactEntropyOfx0
namespace Go.Proofs.Ytpfbkkniljieoaa.PFnExactEntropyOf
open Go.RowKit Go.Proofs.YtpfbkkniljieoaaW.PrintWords Go.Proofs.YtpfbkkniljieoaaW.PrintLast Go.Proofs.YtpfbkkniljieoaaW.PrintMore
attribute [local go_sem] max2_int min2_int max_two min_two max_three min_three max_four min_four   -- for this text's walks alone
attribute [local go_sem high] feq_fold fne_fold flt_fold fle_fold fgt_fold fge_fold fneg_run fsame_run fstore_run
set_option linter.unusedVariables false
set_option linter.unusedSimpArgs false

/-! ### spec_l00In: function 103 -/
def spec_l00In.f (a0 : Int) (a1 : Int) (a2 : Int) : Option (Bool) := if a0 ≥ a1 then (some (decide (a0 ≤ a2))) else (some false)
set_option maxHeartbeats 8000000 in
set_option maxRecDepth 100000 in
theorem spec_l00In.calls (a0 : Int) (a1 : Int) (a2 : Int) (r : Bool) (w : World) (h : spec_l00In.f a0 a1 a2 = some r) :
    Calls Try.prog 103 #[.int .i64 a0, .int .i64 a1, .int .i64 a2] w fun e w' => e = .returned (.bool r) ∧ Drawn0 w w' := by
  have H : (if a0 ≥ a1 then (some (decide (a0 ≤ a2))) else (some false)) = some r := h
  clear h
  by_cases c4 : a0 ≥ a1
  · rw [if_pos c4] at H
    have c4b0 : decide (a1 ≤ a0) = true := decide_eq_true c4
    clear c4
    obtain rfl := Option.some.inj H
    go_enter Try.func103, Try.ntmps103
    go_wp2
    go_ret
    exact ⟨by first | rfl | (simp; done) | (simp [*]; done), by repeat (first | exact Drawn0.refl _ | apply Drawn0.step)⟩
  · rw [if_neg c4] at H
    have c4b0 : decide (a1 ≤ a0) = false := decide_eq_false c4
    clear c4
    obtain rfl := Option.some.inj H
    go_enter Try.func103, Try.ntmps103
    go_wp2
    go_ret
    exact ⟨by first | rfl | (simp; done) | (simp [*]; done), by repeat (first | exact Drawn0.refl _ | apply Drawn0.step)⟩

/-! ### spec_l02Bound: function 67 -/
def spec_l02Bound.l0 : Nat → List Int → Int → Int → Option (Bool)
  | 0, _, _, _ => none
  | k + 1, x0, x1, x5 => if x5 < (x0.length : Int) then (if 0 ≤ x5 then ((spec_l00In.f (rd x0 x5) (wrap64 (-x1)) x1).bind fun t102 => (if t102 = true then (spec_l02Bound.l0 k x0 x1 (wrap64 (x5 + 1))) else (some false))) else (none)) else (some true)
def spec_l02Bound.f (k : Nat) (l0 : List Int) (a1 : Int) : Option (Bool) := spec_l02Bound.l0 k l0 a1 0
theorem spec_l02Bound.mono_l : ∀ k, (∀ y0 y1 y2, LeO (spec_l02Bound.l0 k y0 y1 y2) (spec_l02Bound.l0 (k + 1) y0 y1 y2))
  | 0 => fun _ _ _ r h => by simp [spec_l02Bound.l0] at h
  | k + 1 => by
    have ih0 := spec_l02Bound.mono_l k
    · intro y0 y1 y2
      unfold spec_l02Bound.l0
      repeat' first
      | (with_reducible exact ih0 _ _ _)
      | (with_reducible exact LeO.refl _)
      | (with_reducible exact LeO.none _)
      | (with_reducible refine LeO.ite ?_ ?_)
      | (with_reducible refine LeO.bind ?_ (fun _ => ?_))
      | exact ih0 _ _ _
      | exact LeO.none _
      | refine LeO.ite ?_ ?_
      | refine LeO.bind ?_ (fun _ => ?_)
theorem spec_l02Bound.mono : ∀ a0 a1 k, LeO (spec_l02Bound.f k a0 a1) (spec_l02Bound.f (k + 1) a0 a1) := by
  intro a0 a1 k
  have ih0 := spec_l02Bound.mono_l k
  unfold spec_l02Bound.f
  repeat' first
      | (with_reducible exact ih0 _ _ _)
      | (with_reducible exact LeO.refl _)
      | (with_reducible exact LeO.none _)
      | (with_reducible refine LeO.ite ?_ ?_)
      | (with_reducible refine LeO.bind ?_ (fun _ => ?_))
      | exact ih0 _ _ _
      | exact LeO.none _
      | refine LeO.ite ?_ ?_
      | refine LeO.bind ?_ (fun _ => ?_)
set_option maxHeartbeats 8000000 in
set_option maxRecDepth 100000 in
theorem spec_l02Bound.calls (k : Nat) (A0 : Option Addr) (c0 : Nat) (l0 : List Int) (a1 : Int) (r : Bool) (w : World) (hr0 : Kd.C (Kd.int .i64) w A0 l0.length l0) (hc0 : l0.length ≤ c0) (h : spec_l02Bound.f k l0 a1 = some r) :
    Calls Try.prog 67 #[.slice A0 l0.length c0, .int .i64 a1] w fun e w' => e = .returned (.bool r) ∧ Drawn0 w w' := by
  have HR0 := Aside0.mk hr0
  have HC0 := Aside0.mk hc0
  clear hr0 hc0
  have H : (spec_l02Bound.l0 k l0 a1 0) = some r := h
  clear h
  have H' := Aside0.mk H
  clear H
  go_enter Try.func67, Try.ntmps67
  go_wp2
  go_loopg [5] k (fun kq v5 w' => ∃ (x5_1 : Int), v5 = .int .i64 x5_1 ∧ Aside0 (spec_l02Bound.l0 kq l0 a1 x5_1 = some r) ∧ Aside0 (kq ≤ k) ∧ Drawn0 w w')
  case atStart => exact ⟨(0), (by first | rfl | (simp; done) | (simp [*]; done)), H', ⟨Nat.le_refl _⟩, by repeat (first | exact Drawn0.refl _ | apply Drawn0.step)⟩
  case round =>
    clear H'
    try clear p2
    obtain ⟨x5_1, rfl, HA, HK1, ⟨m1, rfl⟩⟩ := hrel
    cases gk with
    | zero => exact absurd HA.out (by simp [spec_l02Bound.l0])
    | succ k1 =>
      have H := HA.out
      clear HA
      simp only [spec_l02Bound.l0] at H
      by_cases c3 : x5_1 < (l0.length : Int)
      · rw [if_pos c3] at H
        have c3b0 : decide (x5_1 < (l0.length : Int)) = true := decide_eq_true c3
        clear c3
        by_cases c4 : 0 ≤ x5_1
        · rw [if_pos c4] at H
          have c4b0 : decide (0 ≤ x5_1) = true := decide_eq_true c4
          clear c4
          replace H := Option.bind_eq_some_iff.mp H
          obtain ⟨t102, A50, H⟩ := H
          replace H : (if t102 = true then (spec_l02Bound.l0 k1 l0 a1 (wrap64 (x5_1 + 1))) else (some false)) = some r := H
          have A5 := Aside0.mk A50
          clear A50
          by_cases c6 : t102 = true
          · subst c6
            have H1 : (spec_l02Bound.l0 k1 l0 a1 (wrap64 (x5_1 + 1))) = some r := by rw [if_pos rfl] at H; exact H
            clear H
            have H := H1
            clear H1
            have H' := Aside0.mk H
            clear H
            have p101 : 0 ≤ (x5_1 : Int) := of_decide_eq_true (by first | (with_reducible assumption) | assumption)
            have q101 : x5_1 < (l0.length : Int) := of_decide_eq_true (by first | (with_reducible assumption) | assumption)
            obtain ⟨ad101, e101, hx101_0⟩ := Kd.at_int HR0.out x5_1 p101 q101
            cases e101
            replace p101 := eq_true p101
            replace q101 := eq_true q101
            go_wp2_with (first | ((with_reducible refine gate_callee (f := 103) rfl ?_); refine goesL_ (some 19) rfl rfl Try.func103 (by kernel_rfl) rfl #[.int .i64 (rd l0 x5_1), .int .i64 (wrap64 (-a1)), .int .i64 a1] rfl (by (try simp only [List.map_toArray, List.map_cons, List.map_nil]); first | done | rfl | (simp only [List.length_drop, List.length_take]; rfl)) ?_; (with_reducible refine (spec_l00In.calls (rd l0 x5_1) (wrap64 (-a1)) a1 true _ A5.out).mono ?_); rintro e w' ⟨rfl, ⟨nd, rfl⟩⟩; refine ⟨_, rfl, ?_⟩))
            go_roundg k1
            case measure => have := HK1.out; omega
            case rel => exact ⟨(wrap64 (x5_1 + 1)), (by first | rfl | (simp; done) | (simp [*]; done)), H', ⟨by have := HK1.out; omega⟩, by repeat (first | exact Drawn0.refl _ | apply Drawn0.step)⟩
          · replace c6 := Bool.eq_false_iff.mpr c6
            subst c6
            have H1 : (some false) = some r := by rw [if_neg (show ¬ (false = true) by decide)] at H; exact H
            clear H
            have H := H1
            clear H1
            obtain rfl := Option.some.inj H
            have p101 : 0 ≤ (x5_1 : Int) := of_decide_eq_true (by first | (with_reducible assumption) | assumption)
            have q101 : x5_1 < (l0.length : Int) := of_decide_eq_true (by first | (with_reducible assumption) | assumption)
            obtain ⟨ad101, e101, hx101_0⟩ := Kd.at_int HR0.out x5_1 p101 q101
            cases e101
            replace p101 := eq_true p101
            replace q101 := eq_true q101
            go_wp2_with (first | ((with_reducible refine gate_callee (f := 103) rfl ?_); refine goesL_ (some 19) rfl rfl Try.func103 (by kernel_rfl) rfl #[.int .i64 (rd l0 x5_1), .int .i64 (wrap64 (-a1)), .int .i64 a1] rfl (by (try simp only [List.map_toArray, List.map_cons, List.map_nil]); first | done | rfl | (simp only [List.length_drop, List.length_take]; rfl)) ?_; (with_reducible refine (spec_l00In.calls (rd l0 x5_1) (wrap64 (-a1)) a1 false _ A5.out).mono ?_); rintro e w' ⟨rfl, ⟨nd, rfl⟩⟩; refine ⟨_, rfl, ?_⟩))
            go_ret
            exact ⟨by first | rfl | (simp; done) | (simp [*]; done), by repeat (first | exact Drawn0.refl _ | apply Drawn0.step)⟩
        · rw [if_neg c4] at H
          exact absurd H (by simp)
      · rw [if_neg c3] at H
        have c3b0 : decide (x5_1 < (l0.length : Int)) = false := decide_eq_false c3
        clear c3
        obtain rfl := Option.some.inj H
        go_wp2
        go_ret
        exact ⟨by first | rfl | (simp; done) | (simp [*]; done), by repeat (first | exact Drawn0.refl _ | apply Drawn0.step)⟩

/-! ### spec_l02Integers: function 33 -/
def spec_l02Integers.f (k : Nat) (l0 : List Int) : Option (Bool) := if (l0.length : Int) ≥ 1 then (if (l0.length : Int) ≤ 128 then ((spec_l02Bound.f k l0 1000000).bind fun t103 => (some t103)) else (some false)) else (some false)
theorem spec_l02Integers.mono : ∀ a0 k, LeO (spec_l02Integers.f k a0) (spec_l02Integers.f (k + 1) a0) := by
  intro a0 k
  unfold spec_l02Integers.f
  repeat' first
      | (with_reducible exact spec_l02Bound.mono _ _ _)
      | (with_reducible exact LeO.refl _)
      | (with_reducible exact LeO.none _)
      | (with_reducible refine LeO.ite ?_ ?_)
      | (with_reducible refine LeO.bind ?_ (fun _ => ?_))
      | exact spec_l02Bound.mono _ _ _
      | exact LeO.none _
      | refine LeO.ite ?_ ?_
      | refine LeO.bind ?_ (fun _ => ?_)
set_option maxHeartbeats 8000000 in
set_option maxRecDepth 100000 in
theorem spec_l02Integers.calls (k : Nat) (A0 : Option Addr) (c0 : Nat) (l0 : List Int) (r : Bool) (w : World) (hr0 : Kd.C (Kd.int .i64) w A0 l0.length l0) (hc0 : l0.length ≤ c0) (h : spec_l02Integers.f k l0 = some r) :
    Calls Try.prog 33 #[.slice A0 l0.length c0] w fun e w' => e = .returned (.bool r) ∧ Drawn0 w w' := by
  have HR0 := Aside0.mk hr0
  have HC0 := Aside0.mk hc0
  clear hr0 hc0
  have H : (if (l0.length : Int) ≥ 1 then (if (l0.length : Int) ≤ 128 then ((spec_l02Bound.f k l0 1000000).bind fun t103 => (some t103)) else (some false)) else (some false)) = some r := h
  clear h
  by_cases c2 : (l0.length : Int) ≥ 1
  · rw [if_pos c2] at H
    have c2b0 : decide (1 ≤ (l0.length : Int)) = true := decide_eq_true c2
    have c2b1 : decide (1 ≤ l0.length) = true := decide_eq_true (by omega)
    clear c2
    by_cases c3 : (l0.length : Int) ≤ 128
    · rw [if_pos c3] at H
      have c3b0 : decide ((l0.length : Int) ≤ 128) = true := decide_eq_true c3
      have c3b1 : decide (l0.length ≤ 128) = true := decide_eq_true (by omega)
      clear c3
      replace H := Option.bind_eq_some_iff.mp H
      obtain ⟨t103, A40, H⟩ := H
      replace H : (some t103) = some r := H
      have A4 := Aside0.mk A40
      clear A40
      obtain rfl := Option.some.inj H
      go_enter Try.func33, Try.ntmps33
      go_wp2_with (first | (go_at_call 67; (with_reducible refine (spec_l02Bound.calls k _ _ l0 1000000 t103 _ ?side1 ?side2 A4.out).mono ?_); (case side1 => repeat (first | exact HR0.out | (with_reducible refine Kd.C_alloc ?_ _) | (with_reducible refine Kd.C_drewN ?_ _) | (with_reducible refine Kd.C_drew ?_))); (case side2 => exact HC0.out); rintro e w' ⟨rfl, ⟨nd, rfl⟩⟩))
      go_ret
      exact ⟨by first | rfl | (simp; done) | (simp [*]; done), by repeat (first | exact Drawn0.refl _ | apply Drawn0.step)⟩
    · rw [if_neg c3] at H
      have c3b0 : decide ((l0.length : Int) ≤ 128) = false := decide_eq_false c3
      have c3b1 : decide (l0.length ≤ 128) = false := decide_eq_false (by omega)
      clear c3
      obtain rfl := Option.some.inj H
      go_enter Try.func33, Try.ntmps33
      go_wp2
      go_ret
      exact ⟨by first | rfl | (simp; done) | (simp [*]; done), by repeat (first | exact Drawn0.refl _ | apply Drawn0.step)⟩
  · rw [if_neg c2] at H
    have c2b0 : decide (1 ≤ (l0.length : Int)) = false := decide_eq_false c2
    have c2b1 : decide (1 ≤ l0.length) = false := decide_eq_false (by omega)
    clear c2
    obtain rfl := Option.some.inj H
    go_enter Try.func33, Try.ntmps33
    go_wp2
    go_ret
    exact ⟨by first | rfl | (simp; done) | (simp [*]; done), by repeat (first | exact Drawn0.refl _ | apply Drawn0.step)⟩

/-! ### spec_l01Narrow: function 68 -/
def spec_l01Narrow.f (a0 : Nat) : Option (Nat) := (floatToFloatBits .f64 a0 .f32).bind fun t104 => (some t104)
set_option maxHeartbeats 8000000 in
set_option maxRecDepth 100000 in
theorem spec_l01Narrow.calls (a0 : Nat) (r : Nat) (w : World) (h : spec_l01Narrow.f a0 = some r) :
    Calls Try.prog 68 #[.float .f64 a0] w fun e w' => e = .returned (.float .f32 r) ∧ Drawn0 w w' := by
  have H : ((floatToFloatBits .f64 a0 .f32).bind fun t104 => (some t104)) = some r := h
  clear h
  replace H := Option.bind_eq_some_iff.mp H
  obtain ⟨t104, F20, H⟩ := H
  replace H : (some t104) = some r := H
  have F2 := run_float_float (P := Try.prog) F20 28 23 (by kernel_rfl) (by kernel_rfl)
  clear F20
  obtain rfl := Option.some.inj H
  go_enter Try.func68, Try.ntmps68
  go_wp2
  go_ret
  exact ⟨by first | rfl | (simp; done) | (simp [*]; done), by repeat (first | exact Drawn0.refl _ | apply Drawn0.step)⟩

/-! ### math_Inf: function 72 -/
def math_Inf.f (a0 : Int) : Option (Nat) := if a0 ≥ 0 then ((f64of 9218868437227405312).bind fun t105 => (some t105)) else ((f64of 18442240474082181120).bind fun t106 => (some t106))
set_option maxHeartbeats 8000000 in
set_option maxRecDepth 100000 in
theorem math_Inf.calls (a0 : Int) (r : Nat) (w : World) (h : math_Inf.f a0 = some r) :
    Calls Try.prog 72 #[.int .i64 a0] w fun e w' => e = .returned (.float .f64 r) ∧ Drawn0 w w' := by
  have H : (if a0 ≥ 0 then ((f64of 9218868437227405312).bind fun t105 => (some t105)) else ((f64of 18442240474082181120).bind fun t106 => (some t106))) = some r := h
  clear h
  by_cases c2 : a0 ≥ 0
  · rw [if_pos c2] at H
    have c2b0 : decide (0 ≤ a0) = true := decide_eq_true c2
    clear c2
    replace H := Option.bind_eq_some_iff.mp H
    obtain ⟨t105, F30, H⟩ := H
    replace H : (some t105) = some r := H
    have F3 := run_f64of (P := Try.prog) F30 105 Try.func105 (by kernel_rfl) (by kernel_rfl) (by kernel_rfl) (by kernel_rfl)
    clear F30
    obtain rfl := Option.some.inj H
    go_enter Try.func72, Try.ntmps72
    go_wp2
    go_ret
    exact ⟨by first | rfl | (simp; done) | (simp [*]; done), by repeat (first | exact Drawn0.refl _ | apply Drawn0.step)⟩
  · rw [if_neg c2] at H
    have c2b0 : decide (0 ≤ a0) = false := decide_eq_false c2
    clear c2
    replace H := Option.bind_eq_some_iff.mp H
    obtain ⟨t106, F40, H⟩ := H
    replace H : (some t106) = some r := H
    have F4 := run_f64of (P := Try.prog) F40 105 Try.func105 (by kernel_rfl) (by kernel_rfl) (by kernel_rfl) (by kernel_rfl)
    clear F40
    obtain rfl := Option.some.inj H
    go_enter Try.func72, Try.ntmps72
    go_wp2
    go_ret
    exact ⟨by first | rfl | (simp; done) | (simp [*]; done), by repeat (first | exact Drawn0.refl _ | apply Drawn0.step)⟩

/-! ### math_NaN: function 73 -/
def math_NaN.f  : Option (Nat) := (f64of 9221120237041090561).bind fun t107 => (some t107)
set_option maxHeartbeats 8000000 in
set_option maxRecDepth 100000 in
theorem math_NaN.calls  (r : Nat) (w : World) (h : math_NaN.f  = some r) :
    Calls Try.prog 73 #[] w fun e w' => e = .returned (.float .f64 r) ∧ Drawn0 w w' := by
  have H : ((f64of 9221120237041090561).bind fun t107 => (some t107)) = some r := h
  clear h
  replace H := Option.bind_eq_some_iff.mp H
  obtain ⟨t107, F10, H⟩ := H
  replace H : (some t107) = some r := H
  have F1 := run_f64of (P := Try.prog) F10 105 Try.func105 (by kernel_rfl) (by kernel_rfl) (by kernel_rfl) (by kernel_rfl)
  clear F10
  obtain rfl := Option.some.inj H
  go_enter Try.func73, Try.ntmps73
  go_wp2
  go_ret
  exact ⟨by first | rfl | (simp; done) | (simp [*]; done), by repeat (first | exact Drawn0.refl _ | apply Drawn0.step)⟩

/-! ### math_Abs: function 117 -/
def math_Abs.f (a0 : Nat) : Option (Nat) := (f64bits a0).bind fun t108 => ((f64of (Go.bits .andNot .u64 t108 9223372036854775808)).bind fun t109 => (some t109))
set_option maxHeartbeats 8000000 in
set_option maxRecDepth 100000 in
theorem math_Abs.calls (a0 : Nat) (r : Nat) (w : World) (h : math_Abs.f a0 = some r) :
    Calls Try.prog 117 #[.float .f64 a0] w fun e w' => e = .returned (.float .f64 r) ∧ Drawn0 w w' := by
  have H : ((f64bits a0).bind fun t108 => ((f64of (Go.bits .andNot .u64 t108 9223372036854775808)).bind fun t109 => (some t109))) = some r := h
  clear h
  replace H := Option.bind_eq_some_iff.mp H
  obtain ⟨t108, F20, H⟩ := H
  replace H : ((f64of (Go.bits .andNot .u64 t108 9223372036854775808)).bind fun t109 => (some t109)) = some r := H
  have F2 := run_f64bits (P := Try.prog) F20 124 Try.func124 (by kernel_rfl) (by kernel_rfl) (by kernel_rfl) (by kernel_rfl)
  clear F20
  replace H := Option.bind_eq_some_iff.mp H
  obtain ⟨t109, F30, H⟩ := H
  replace H : (some t109) = some r := H
  have F3 := run_f64of (P := Try.prog) F30 105 Try.func105 (by kernel_rfl) (by kernel_rfl) (by kernel_rfl) (by kernel_rfl)
  clear F30
  obtain rfl := Option.some.inj H
  go_enter Try.func117, Try.ntmps117
  go_wp2
  go_ret
  exact ⟨by first | rfl | (simp; done) | (simp [*]; done), by repeat (first | exact Drawn0.refl _ | apply Drawn0.step)⟩

/-! ### math_IsInf: function 104 -/
def math_IsInf.f (a0 : Nat) (a1 : Int) : Option (Bool) := if a1 = 0 then ((math_Abs.f a0).bind fun t110 => (some (fgt .f64 t110 9218868437227405311))) else (if a1 < 0 then (some (fgt .f64 (Op.negFloat .f64 a0) 9218868437227405311)) else (some (fgt .f64 a0 9218868437227405311)))
set_option maxHeartbeats 8000000 in
set_option maxRecDepth 100000 in
theorem math_IsInf.calls (a0 : Nat) (a1 : Int) (r : Bool) (w : World) (h : math_IsInf.f a0 a1 = some r) :
    Calls Try.prog 104 #[.float .f64 a0, .int .i64 a1] w fun e w' => e = .returned (.bool r) ∧ Drawn0 w w' := by
  have H : (if a1 = 0 then ((math_Abs.f a0).bind fun t110 => (some (fgt .f64 t110 9218868437227405311))) else (if a1 < 0 then (some (fgt .f64 (Op.negFloat .f64 a0) 9218868437227405311)) else (some (fgt .f64 a0 9218868437227405311)))) = some r := h
  clear h
  by_cases c3 : a1 = 0
  · rw [if_pos c3] at H
    have c3b0 : (a1 == 0) = true := beq_iff_eq.mpr c3
    have c3b1 : (a1 != 0) = false := bne_eq_false_iff_eq.mpr c3
    clear c3
    replace H := Option.bind_eq_some_iff.mp H
    obtain ⟨t110, A40, H⟩ := H
    replace H : (some (fgt .f64 t110 9218868437227405311)) = some r := H
    have A4 := Aside0.mk A40
    clear A40
    obtain rfl := Option.some.inj H
    go_enter Try.func104, Try.ntmps104
    go_wp2_with (first | ((with_reducible refine gate_callee (f := 117) rfl ?_); refine goesL_ (some 8) rfl rfl Try.func117 (by kernel_rfl) rfl #[.float .f64 a0] rfl (by (try simp only [List.map_toArray, List.map_cons, List.map_nil]); first | done | rfl | (simp only [List.length_drop, List.length_take]; rfl)) ?_; (with_reducible refine (math_Abs.calls a0 t110 _ A4.out).mono ?_); rintro e w' ⟨rfl, ⟨nd, rfl⟩⟩; refine ⟨_, rfl, ?_⟩))
    go_ret
    exact ⟨by first | rfl | (simp; done) | (simp [*]; done), by repeat (first | exact Drawn0.refl _ | apply Drawn0.step)⟩
  · rw [if_neg c3] at H
    have c3b0 : (a1 == 0) = false := beq_eq_false_iff_ne.mpr c3
    have c3b1 : (a1 != 0) = true := bne_iff_ne.mpr c3
    by_cases c5 : a1 < 0
    · rw [if_pos c5] at H
      have c5b0 : decide (a1 < 0) = true := decide_eq_true c5
      clear c5
      obtain rfl := Option.some.inj H
      go_enter Try.func104, Try.ntmps104
      go_wp2
      go_ret
      exact ⟨by first | rfl | (simp; done) | (simp [*]; done), by repeat (first | exact Drawn0.refl _ | apply Drawn0.step)⟩
    · rw [if_neg c5] at H
      have c5b0 : decide (a1 < 0) = false := decide_eq_false c5
      clear c5
      obtain rfl := Option.some.inj H
      go_enter Try.func104, Try.ntmps104
      go_wp2
      go_ret
      exact ⟨by first | rfl | (simp; done) | (simp [*]; done), by repeat (first | exact Drawn0.refl _ | apply Drawn0.step)⟩

/-! ### spec_l01LogWide: function 69 -/
mutual
def spec_l01LogWide.j0 : Nat → Nat → Bool → Option (Nat)
  | 0, _, _ => none
  | k + 1, x0, x8 => if x8 = true then ((math_NaN.f).bind fun t111 => (some t111)) else (if (feq .f64 x0 0) = true then ((math_Inf.f (-1)).bind fun t112 => (some t112)) else ((math_IsInf.f x0 1).bind fun t113 => (if t113 = true then (some x0) else (spec_l01LogWide.l0 k x0 0))))
def spec_l01LogWide.l0 : Nat → Nat → Int → Option (Nat)
  | 0, _, _ => none
  | k + 1, x0, x3 => if (fge .f64 x0 4609434218613702656) = true then ((floatBits .quo .f64 x0 4611686018427387904).bind fun t114 => (spec_l01LogWide.l0 k t114 (wrap64 (x3 + 1)))) else (spec_l01LogWide.l1 k x0 x3)
def spec_l01LogWide.l1 : Nat → Nat → Int → Option (Nat)
  | 0, _, _ => none
  | k + 1, x0, x3 => if (flt .f64 x0 4604930618986332160) = true then ((floatBits .mul .f64 x0 4611686018427387904).bind fun t115 => (spec_l01LogWide.l1 k t115 (wrap64 (x3 - 1)))) else ((floatBits .sub .f64 x0 4607182418800017408).bind fun t116 => ((floatBits .add .f64 x0 4607182418800017408).bind fun t117 => ((floatBits .quo .f64 t116 t117).bind fun t118 => ((floatBits .mul .f64 t118 t118).bind fun t119 => (spec_l01LogWide.l2 k x3 t118 t119 0 25)))))
def spec_l01LogWide.l2 : Nat → Int → Nat → Nat → Nat → Int → Option (Nat)
  | 0, _, _, _, _, _ => none
  | k + 1, x3, x4, x5, x6, x7 => if x7 ≥ 1 then ((floatBits .quo .f64 4607182418800017408 (floatOfInt .f64 x7)).bind fun t120 => ((floatBits .mul .f64 x5 x6).bind fun t121 => ((floatBits .add .f64 t120 t121).bind fun t122 => (spec_l01LogWide.l2 k x3 x4 x5 t122 (wrap64 (x7 - 2)))))) else ((floatBits .mul .f64 x4 x6).bind fun t123 => ((floatBits .mul .f64 4611686018427387904 t123).bind fun t124 => ((floatBits .mul .f64 (floatOfInt .f64 x3) 4604418534313441775).bind fun t125 => ((floatBits .add .f64 t124 t125).bind fun t126 => (some t126)))))
end
def spec_l01LogWide.f (k : Nat) (a0 : Nat) : Option (Nat) := if (fne .f64 a0 a0) = true then (spec_l01LogWide.j0 k a0 true) else (spec_l01LogWide.j0 k a0 (flt .f64 a0 0))
theorem spec_l01LogWide.mono_l : ∀ k, (∀ y0 y1, LeO (spec_l01LogWide.j0 k y0 y1) (spec_l01LogWide.j0 (k + 1) y0 y1)) ∧ (∀ y0 y1, LeO (spec_l01LogWide.l0 k y0 y1) (spec_l01LogWide.l0 (k + 1) y0 y1)) ∧ (∀ y0 y1, LeO (spec_l01LogWide.l1 k y0 y1) (spec_l01LogWide.l1 (k + 1) y0 y1)) ∧ (∀ y0 y1 y2 y3 y4, LeO (spec_l01LogWide.l2 k y0 y1 y2 y3 y4) (spec_l01LogWide.l2 (k + 1) y0 y1 y2 y3 y4))
  | 0 => ⟨fun _ _ r h => by simp [spec_l01LogWide.j0] at h, fun _ _ r h => by simp [spec_l01LogWide.l0] at h, fun _ _ r h => by simp [spec_l01LogWide.l1] at h, fun _ _ _ _ _ r h => by simp [spec_l01LogWide.l2] at h⟩
  | k + 1 => by
    obtain ⟨ih0, ih1, ih2, ih3⟩ := spec_l01LogWide.mono_l k
    refine ⟨?_, ?_, ?_, ?_⟩
    · intro y0 y1
      unfold spec_l01LogWide.j0
      repeat' first
      | (with_reducible exact ih0 _ _)
      | (with_reducible exact ih1 _ _)
      | (with_reducible exact ih2 _ _)
      | (with_reducible exact ih3 _ _ _ _ _)
      | (with_reducible exact LeO.refl _)
      | (with_reducible exact LeO.none _)
      | (with_reducible refine LeO.ite ?_ ?_)
      | (with_reducible refine LeO.bind ?_ (fun _ => ?_))
      | exact ih0 _ _
      | exact ih1 _ _
      | exact ih2 _ _
      | exact ih3 _ _ _ _ _
      | exact LeO.none _
      | refine LeO.ite ?_ ?_
      | refine LeO.bind ?_ (fun _ => ?_)
    · intro y0 y1
      unfold spec_l01LogWide.l0
      repeat' first
      | (with_reducible exact ih0 _ _)
      | (with_reducible exact ih1 _ _)
      | (with_reducible exact ih2 _ _)
      | (with_reducible exact ih3 _ _ _ _ _)
      | (with_reducible exact LeO.refl _)
      | (with_reducible exact LeO.none _)
      | (with_reducible refine LeO.ite ?_ ?_)
      | (with_reducible refine LeO.bind ?_ (fun _ => ?_))
      | exact ih0 _ _
      | exact ih1 _ _
      | exact ih2 _ _
      | exact ih3 _ _ _ _ _
      | exact LeO.none _
      | refine LeO.ite ?_ ?_
      | refine LeO.bind ?_ (fun _ => ?_)
    · intro y0 y1
      unfold spec_l01LogWide.l1
      repeat' first
      | (with_reducible exact ih0 _ _)
      | (with_reducible exact ih1 _ _)
      | (with_reducible exact ih2 _ _)
      | (with_reducible exact ih3 _ _ _ _ _)
      | (with_reducible exact LeO.refl _)
      | (with_reducible exact LeO.none _)
      | (with_reducible refine LeO.ite ?_ ?_)
      | (with_reducible refine LeO.bind ?_ (fun _ => ?_))
      | exact ih0 _ _
      | exact ih1 _ _
      | exact ih2 _ _
      | exact ih3 _ _ _ _ _
      | exact LeO.none _
      | refine LeO.ite ?_ ?_
      | refine LeO.bind ?_ (fun _ => ?_)
    · intro y0 y1 y2 y3 y4
      unfold spec_l01LogWide.l2
      repeat' first
      | (with_reducible exact ih0 _ _)
      | (with_reducible exact ih1 _ _)
      | (with_reducible exact ih2 _ _)
      | (with_reducible exact ih3 _ _ _ _ _)
      | (with_reducible exact LeO.refl _)
      | (with_reducible exact LeO.none _)
      | (with_reducible refine LeO.ite ?_ ?_)
      | (with_reducible refine LeO.bind ?_ (fun _ => ?_))
      | exact ih0 _ _
      | exact ih1 _ _
      | exact ih2 _ _
      | exact ih3 _ _ _ _ _
      | exact LeO.none _
      | refine LeO.ite ?_ ?_
      | refine LeO.bind ?_ (fun _ => ?_)
theorem spec_l01LogWide.mono : ∀ a0 k, LeO (spec_l01LogWide.f k a0) (spec_l01LogWide.f (k + 1) a0) := by
  intro a0 k
  obtain ⟨ih0, ih1, ih2, ih3⟩ := spec_l01LogWide.mono_l k
  unfold spec_l01LogWide.f
  repeat' first
      | (with_reducible exact ih0 _ _)
      | (with_reducible exact ih1 _ _)
      | (with_reducible exact ih2 _ _)
      | (with_reducible exact ih3 _ _ _ _ _)
      | (with_reducible exact LeO.refl _)
      | (with_reducible exact LeO.none _)
      | (with_reducible refine LeO.ite ?_ ?_)
      | (with_reducible refine LeO.bind ?_ (fun _ => ?_))
      | exact ih0 _ _
      | exact ih1 _ _
      | exact ih2 _ _
      | exact ih3 _ _ _ _ _
      | exact LeO.none _
      | refine LeO.ite ?_ ?_
      | refine LeO.bind ?_ (fun _ => ?_)
set_option maxHeartbeats 8000000 in
set_option maxRecDepth 100000 in
theorem spec_l01LogWide.calls (k : Nat) (a0 : Nat) (r : Nat) (w : World) (h : spec_l01LogWide.f k a0 = some r) :
    Calls Try.prog 69 #[.float .f64 a0] w fun e w' => e = .returned (.float .f64 r) ∧ Drawn0 w w' := by
  have H : (if (fne .f64 a0 a0) = true then (spec_l01LogWide.j0 k a0 true) else (spec_l01LogWide.j0 k a0 (flt .f64 a0 0))) = some r := h
  clear h
  have HC2 := Aside0.mk H
  clear H
  go_enter Try.func69, Try.ntmps69
  go_upto_region 1 with (fail)
  go_cut [8] (fun v8 wc => ∃ (kq : Nat) (x8_1 : Bool), v8 = .bool x8_1 ∧ Aside0 (spec_l01LogWide.j0 kq a0 x8_1 = some r) ∧ Aside0 (kq ≤ k) ∧ Drawn0 w wc)
  case first =>
    have H := HC2.out
    clear HC2
    by_cases c3 : (fne .f64 a0 a0) = true
    · rw [if_pos c3] at H
      have c3b0 : (fne .f64 a0 a0) = true := c3
      clear c3
      (first | rw [c3b0] | (simp only [i64_w, i32_w]; rw [c3b0]) | skip)
      have H' := Aside0.mk H
      clear H
      go_wp2
      go_meet
      case rel => exact ⟨_, (true), (by first | rfl | (simp; done) | (simp [*]; done)), H', ⟨by first | omega | exact Nat.le_refl _⟩, by repeat (first | exact Drawn0.refl _ | apply Drawn0.step)⟩
    · rw [if_neg c3] at H
      have c3b0 : (fne .f64 a0 a0) = false := by simpa using c3
      clear c3
      (first | rw [c3b0] | (simp only [i64_w, i32_w]; rw [c3b0]) | skip)
      have H' := Aside0.mk H
      clear H
      go_wp2
      go_meet
      case rel => exact ⟨_, ((flt .f64 a0 0)), (by first | rfl | (simp; done) | (simp [*]; done)), H', ⟨by first | omega | exact Nat.le_refl _⟩, by repeat (first | exact Drawn0.refl _ | apply Drawn0.step)⟩
  case rest =>
    clear HC2
    try clear p2
    try clear c3
    try clear c3b0
    obtain ⟨kq, x8_1, rfl, HA, HJ1, ⟨mc1, rfl⟩⟩ := hcut
    cases kq with
    | zero => exact absurd HA.out (by simp [spec_l01LogWide.j0])
    | succ kj1 =>
      have H := HA.out
      clear HA
      simp only [spec_l01LogWide.j0] at H
      by_cases c4 : x8_1 = true
      · subst c4
        have H1 : ((math_NaN.f).bind fun t111 => (some t111)) = some r := by rw [if_pos rfl] at H; exact H
        clear H
        have H := H1
        clear H1
        replace H := Option.bind_eq_some_iff.mp H
        obtain ⟨t111, A50, H⟩ := H
        replace H : (some t111) = some r := H
        have A5 := Aside0.mk A50
        clear A50
        obtain rfl := Option.some.inj H
        go_wp2_with (first | ((with_reducible refine gate_callee (f := 73) rfl ?_); refine goesL_ (some 16) rfl rfl Try.func73 (by kernel_rfl) rfl #[] rfl (by (try simp only [List.map_toArray, List.map_cons, List.map_nil]); first | done | rfl | (simp only [List.length_drop, List.length_take]; rfl)) ?_; (with_reducible refine (math_NaN.calls  t111 _ A5.out).mono ?_); rintro e w' ⟨rfl, ⟨nd, rfl⟩⟩; refine ⟨_, rfl, ?_⟩))
        go_ret
        exact ⟨by first | rfl | (simp; done) | (simp [*]; done), by repeat (first | exact Drawn0.refl _ | apply Drawn0.step)⟩
      · replace c4 := Bool.eq_false_iff.mpr c4
        subst c4
        have H1 : (if (feq .f64 a0 0) = true then ((math_Inf.f (-1)).bind fun t112 => (some t112)) else ((math_IsInf.f a0 1).bind fun t113 => (if t113 = true then (some a0) else (spec_l01LogWide.l0 kj1 a0 0)))) = some r := by rw [if_neg (show ¬ (false = true) by decide)] at H; exact H
        clear H
        have H := H1
        clear H1
        by_cases c6 : (feq .f64 a0 0) = true
        · rw [if_pos c6] at H
          have c6b0 : (feq .f64 a0 0) = true := c6
          clear c6
          replace H := Option.bind_eq_some_iff.mp H
          obtain ⟨t112, A70, H⟩ := H
          replace H : (some t112) = some r := H
          have A7 := Aside0.mk A70
          clear A70
          obtain rfl := Option.some.inj H
          go_wp2_with (first | ((with_reducible refine gate_callee (f := 72) rfl ?_); refine goesL_ (some 20) rfl rfl Try.func72 (by kernel_rfl) rfl #[.int .i64 (-1)] rfl (by (try simp only [List.map_toArray, List.map_cons, List.map_nil]); first | done | rfl | (simp only [List.length_drop, List.length_take]; rfl)) ?_; (with_reducible refine (math_Inf.calls (-1) t112 _ A7.out).mono ?_); rintro e w' ⟨rfl, ⟨nd, rfl⟩⟩; refine ⟨_, rfl, ?_⟩))
          go_ret
          exact ⟨by first | rfl | (simp; done) | (simp [*]; done), by repeat (first | exact Drawn0.refl _ | apply Drawn0.step)⟩
        · rw [if_neg c6] at H
          have c6b0 : (feq .f64 a0 0) = false := by simpa using c6
          clear c6
          replace H := Option.bind_eq_some_iff.mp H
          obtain ⟨t113, A80, H⟩ := H
          replace H : (if t113 = true then (some a0) else (spec_l01LogWide.l0 kj1 a0 0)) = some r := H
          have A8 := Aside0.mk A80
          clear A80
          by_cases c9 : t113 = true
          · subst c9
            have H1 : (some a0) = some r := by rw [if_pos rfl] at H; exact H
            clear H
            have H := H1
            clear H1
            obtain rfl := Option.some.inj H
            go_wp2_with (first | ((with_reducible refine gate_callee (f := 104) rfl ?_); refine goesL_ (some 23) rfl rfl Try.func104 (by kernel_rfl) rfl #[.float .f64 a0, .int .i64 1] rfl (by (try simp only [List.map_toArray, List.map_cons, List.map_nil]); first | done | rfl | (simp only [List.length_drop, List.length_take]; rfl)) ?_; (with_reducible refine (math_IsInf.calls a0 1 true _ A8.out).mono ?_); rintro e w' ⟨rfl, ⟨nd, rfl⟩⟩; refine ⟨_, rfl, ?_⟩))
            go_ret
            exact ⟨by first | rfl | (simp; done) | (simp [*]; done), by repeat (first | exact Drawn0.refl _ | apply Drawn0.step)⟩
          · replace c9 := Bool.eq_false_iff.mpr c9
            subst c9
            have H1 : (spec_l01LogWide.l0 kj1 a0 0) = some r := by rw [if_neg (show ¬ (false = true) by decide)] at H; exact H
            clear H
            have H := H1
            clear H1
            have H' := Aside0.mk H
            clear H
            go_wp2_with (first | ((with_reducible refine gate_callee (f := 104) rfl ?_); refine goesL_ (some 23) rfl rfl Try.func104 (by kernel_rfl) rfl #[.float .f64 a0, .int .i64 1] rfl (by (try simp only [List.map_toArray, List.map_cons, List.map_nil]); first | done | rfl | (simp only [List.length_drop, List.length_take]; rfl)) ?_; (with_reducible refine (math_IsInf.calls a0 1 false _ A8.out).mono ?_); rintro e w' ⟨rfl, ⟨nd, rfl⟩⟩; refine ⟨_, rfl, ?_⟩))
            go_loopg [0, 3] kj1 (fun kq v0 v3 w' => ∃ (x0_2 : Nat) (x3_2 : Int), v0 = .float .f64 x0_2 ∧ v3 = .int .i64 x3_2 ∧ Aside0 (spec_l01LogWide.l0 kq x0_2 x3_2 = some r) ∧ Aside0 (kq ≤ kj1) ∧ Drawn0 w w')
            case atStart => exact ⟨(a0), (0), (by first | rfl | (simp; done) | (simp [*]; done)), (by first | rfl | (simp; done) | (simp [*]; done)), H', ⟨Nat.le_refl _⟩, by repeat (first | exact Drawn0.refl _ | apply Drawn0.step)⟩
            case round =>
              clear H'
              try clear c1
              try clear p2
              try clear c3
              try clear c3b0
              try clear c4
              try clear c6
              try clear c6b0
              try clear c7
              try clear c9
              try clear p2
              obtain ⟨x0_2, x3_2, rfl, rfl, HA, HK2, ⟨m2, rfl⟩⟩ := hrel
              cases gk with
              | zero => exact absurd HA.out (by simp [spec_l01LogWide.l0])
              | succ k2 =>
                have H := HA.out
                clear HA
                simp only [spec_l01LogWide.l0] at H
                by_cases c10 : (fge .f64 x0_2 4609434218613702656) = true
                · rw [if_pos c10] at H
                  have c10b0 : (fge .f64 x0_2 4609434218613702656) = true := c10
                  clear c10
                  replace H := Option.bind_eq_some_iff.mp H
                  obtain ⟨t114, F110, H⟩ := H
                  replace H : (spec_l01LogWide.l0 k2 t114 (wrap64 (x3_2 + 1))) = some r := H
                  have F11 := run_float_op (P := Try.prog) F110
                  clear F110
                  have H' := Aside0.mk H
                  clear H
                  go_wp2
                  go_roundg k2
                  case measure => have := HJ1.out; have := HK2.out; omega
                  case rel => exact ⟨(t114), (wrap64 (x3_2 + 1)), (by first | rfl | (simp; done) | (simp [*]; done)), (by first | rfl | (simp; done) | (simp [*]; done)), H', ⟨by have := HJ1.out; have := HK2.out; omega⟩, by repeat (first | exact Drawn0.refl _ | apply Drawn0.step)⟩
                · rw [if_neg c10] at H
                  have c10b0 : (fge .f64 x0_2 4609434218613702656) = false := by simpa using c10
                  clear c10
                  have H' := Aside0.mk H
                  clear H
                  go_wp2
                  go_loopg [0, 3] k2 (fun kq v0 v3 w' => ∃ (x0_3 : Nat) (x3_3 : Int), v0 = .float .f64 x0_3 ∧ v3 = .int .i64 x3_3 ∧ Aside0 (spec_l01LogWide.l1 kq x0_3 x3_3 = some r) ∧ Aside0 (kq ≤ k2) ∧ Drawn0 w w')
                  case atStart => exact ⟨(x0_2), (x3_2), (by first | rfl | (simp; done) | (simp [*]; done)), (by first | rfl | (simp; done) | (simp [*]; done)), H', ⟨Nat.le_refl _⟩, by repeat (first | exact Drawn0.refl _ | apply Drawn0.step)⟩
                  case round =>
                    clear H'
                    try clear c1
                    try clear p2
                    try clear c3
                    try clear c3b0
                    try clear c4
                    try clear c6
                    try clear c6b0
                    try clear p6
                    try clear c7
                    try clear c9
                    try clear c10
                    try clear c10b0
                    try clear p2
                    obtain ⟨x0_3, x3_3, rfl, rfl, HA, HK3, ⟨m3, rfl⟩⟩ := hrel
                    cases gk with
                    | zero => exact absurd HA.out (by simp [spec_l01LogWide.l1])
                    | succ k3 =>
                      have H := HA.out
                      clear HA
                      simp only [spec_l01LogWide.l1] at H
                      by_cases c12 : (flt .f64 x0_3 4604930618986332160) = true
                      · rw [if_pos c12] at H
                        have c12b0 : (flt .f64 x0_3 4604930618986332160) = true := c12
                        clear c12
                        replace H := Option.bind_eq_some_iff.mp H
                        obtain ⟨t115, F130, H⟩ := H
                        replace H : (spec_l01LogWide.l1 k3 t115 (wrap64 (x3_3 - 1))) = some r := H
                        have F13 := run_float_op (P := Try.prog) F130
                        clear F130
                        have H' := Aside0.mk H
                        clear H
                        go_wp2
                        go_roundg k3
                        case measure => have := HJ1.out; have := HK2.out; have := HK3.out; omega
                        case rel => exact ⟨(t115), (wrap64 (x3_3 - 1)), (by first | rfl | (simp; done) | (simp [*]; done)), (by first | rfl | (simp; done) | (simp [*]; done)), H', ⟨by have := HJ1.out; have := HK2.out; have := HK3.out; omega⟩, by repeat (first | exact Drawn0.refl _ | apply Drawn0.step)⟩
                      · rw [if_neg c12] at H
                        have c12b0 : (flt .f64 x0_3 4604930618986332160) = false := by simpa using c12
                        clear c12
                        replace H := Option.bind_eq_some_iff.mp H
                        obtain ⟨t116, F140, H⟩ := H
                        replace H : ((floatBits .add .f64 x0_3 4607182418800017408).bind fun t117 => ((floatBits .quo .f64 t116 t117).bind fun t118 => ((floatBits .mul .f64 t118 t118).bind fun t119 => (spec_l01LogWide.l2 k3 x3_3 t118 t119 0 25)))) = some r := H
                        have F14 := run_float_op (P := Try.prog) F140
                        clear F140
                        replace H := Option.bind_eq_some_iff.mp H
                        obtain ⟨t117, F150, H⟩ := H
                        replace H : ((floatBits .quo .f64 t116 t117).bind fun t118 => ((floatBits .mul .f64 t118 t118).bind fun t119 => (spec_l01LogWide.l2 k3 x3_3 t118 t119 0 25))) = some r := H
                        have F15 := run_float_op (P := Try.prog) F150
                        clear F150
                        replace H := Option.bind_eq_some_iff.mp H
                        obtain ⟨t118, F160, H⟩ := H
                        replace H : ((floatBits .mul .f64 t118 t118).bind fun t119 => (spec_l01LogWide.l2 k3 x3_3 t118 t119 0 25)) = some r := H
                        have F16 := run_float_op (P := Try.prog) F160
                        clear F160
                        replace H := Option.bind_eq_some_iff.mp H
                        obtain ⟨t119, F170, H⟩ := H
                        replace H : (spec_l01LogWide.l2 k3 x3_3 t118 t119 0 25) = some r := H
                        have F17 := run_float_op (P := Try.prog) F170
                        clear F170
                        have H' := Aside0.mk H
                        clear H
                        go_wp2
                        go_loopg [6, 7] k3 (fun kq v6 v7 w' => ∃ (x6_4 : Nat) (x7_4 : Int), v6 = .float .f64 x6_4 ∧ v7 = .int .i64 x7_4 ∧ Aside0 (spec_l01LogWide.l2 kq x3_3 t118 t119 x6_4 x7_4 = some r) ∧ Aside0 (kq ≤ k3) ∧ Drawn0 w w')
                        case atStart => exact ⟨(0), (25), (by first | rfl | (simp; done) | (simp [*]; done)), (by first | rfl | (simp; done) | (simp [*]; done)), H', ⟨Nat.le_refl _⟩, by repeat (first | exact Drawn0.refl _ | apply Drawn0.step)⟩
                        case round =>
                          clear H'
                          try clear c1
                          try clear p2
                          try clear c3
                          try clear c3b0
                          try clear c4
                          try clear c6
                          try clear c6b0
                          try clear p6
                          try clear c7
                          try clear c9
                          try clear c10
                          try clear c10b0
                          try clear c12
                          try clear c12b0
                          try clear p2
                          try clear p6
                          obtain ⟨x6_4, x7_4, rfl, rfl, HA, HK4, ⟨m4, rfl⟩⟩ := hrel
                          cases gk with
                          | zero => exact absurd HA.out (by simp [spec_l01LogWide.l2])
                          | succ k4 =>
                            have H := HA.out
                            clear HA
                            simp only [spec_l01LogWide.l2] at H
                            by_cases c18 : x7_4 ≥ 1
                            · rw [if_pos c18] at H
                              have c18b0 : decide (1 ≤ x7_4) = true := decide_eq_true c18
                              clear c18
                              replace H := Option.bind_eq_some_iff.mp H
                              obtain ⟨t120, F190, H⟩ := H
                              replace H : ((floatBits .mul .f64 t119 x6_4).bind fun t121 => ((floatBits .add .f64 t120 t121).bind fun t122 => (spec_l01LogWide.l2 k4 x3_3 t118 t119 t122 (wrap64 (x7_4 - 2))))) = some r := H
                              have F19 := run_float_op (P := Try.prog) F190
                              clear F190
                              replace H := Option.bind_eq_some_iff.mp H
                              obtain ⟨t121, F200, H⟩ := H
                              replace H : ((floatBits .add .f64 t120 t121).bind fun t122 => (spec_l01LogWide.l2 k4 x3_3 t118 t119 t122 (wrap64 (x7_4 - 2)))) = some r := H
                              have F20 := run_float_op (P := Try.prog) F200
                              clear F200
                              replace H := Option.bind_eq_some_iff.mp H
                              obtain ⟨t122, F210, H⟩ := H
                              replace H : (spec_l01LogWide.l2 k4 x3_3 t118 t119 t122 (wrap64 (x7_4 - 2))) = some r := H
                              have F21 := run_float_op (P := Try.prog) F210
                              clear F210
                              have H' := Aside0.mk H
                              clear H
                              go_wp2
                              go_roundg k4
                              case measure => have := HJ1.out; have := HK2.out; have := HK3.out; have := HK4.out; omega
                              case rel => exact ⟨(t122), (wrap64 (x7_4 - 2)), (by first | rfl | (simp; done) | (simp [*]; done)), (by first | rfl | (simp; done) | (simp [*]; done)), H', ⟨by have := HJ1.out; have := HK2.out; have := HK3.out; have := HK4.out; omega⟩, by repeat (first | exact Drawn0.refl _ | apply Drawn0.step)⟩
                            · rw [if_neg c18] at H
                              have c18b0 : decide (1 ≤ x7_4) = false := decide_eq_false c18
                              clear c18
                              replace H := Option.bind_eq_some_iff.mp H
                              obtain ⟨t123, F220, H⟩ := H
                              replace H : ((floatBits .mul .f64 4611686018427387904 t123).bind fun t124 => ((floatBits .mul .f64 (floatOfInt .f64 x3_3) 4604418534313441775).bind fun t125 => ((floatBits .add .f64 t124 t125).bind fun t126 => (some t126)))) = some r := H
                              have F22 := run_float_op (P := Try.prog) F220
                              clear F220
                              replace H := Option.bind_eq_some_iff.mp H
                              obtain ⟨t124, F230, H⟩ := H
                              replace H : ((floatBits .mul .f64 (floatOfInt .f64 x3_3) 4604418534313441775).bind fun t125 => ((floatBits .add .f64 t124 t125).bind fun t126 => (some t126))) = some r := H
                              have F23 := run_float_op (P := Try.prog) F230
                              clear F230
                              replace H := Option.bind_eq_some_iff.mp H
                              obtain ⟨t125, F240, H⟩ := H
                              replace H : ((floatBits .add .f64 t124 t125).bind fun t126 => (some t126)) = some r := H
                              have F24 := run_float_op (P := Try.prog) F240
                              clear F240
                              replace H := Option.bind_eq_some_iff.mp H
                              obtain ⟨t126, F250, H⟩ := H
                              replace H : (some t126) = some r := H
                              have F25 := run_float_op (P := Try.prog) F250
                              clear F250
                              obtain rfl := Option.some.inj H
                              go_wp2
                              go_ret
                              exact ⟨by first | rfl | (simp; done) | (simp [*]; done), by repeat (first | exact Drawn0.refl _ | apply Drawn0.step)⟩

/-! ### spec_l01Log: function 34 -/
def spec_l01Log.f (k : Nat) (a0 : Nat) : Option (Nat) := (floatToFloatBits .f32 a0 .f64).bind fun t127 => ((spec_l01LogWide.f k t127).bind fun t128 => ((spec_l01Narrow.f t128).bind fun t129 => (some t129)))
theorem spec_l01Log.mono : ∀ a0 k, LeO (spec_l01Log.f k a0) (spec_l01Log.f (k + 1) a0) := by
  intro a0 k
  unfold spec_l01Log.f
  repeat' first
      | (with_reducible exact spec_l01LogWide.mono _ _)
      | (with_reducible exact LeO.refl _)
      | (with_reducible exact LeO.none _)
      | (with_reducible refine LeO.ite ?_ ?_)
      | (with_reducible refine LeO.bind ?_ (fun _ => ?_))
      | exact spec_l01LogWide.mono _ _
      | exact LeO.none _
      | refine LeO.ite ?_ ?_
      | refine LeO.bind ?_ (fun _ => ?_)
set_option maxHeartbeats 8000000 in
set_option maxRecDepth 100000 in
theorem spec_l01Log.calls (k : Nat) (a0 : Nat) (r : Nat) (w : World) (h : spec_l01Log.f k a0 = some r) :
    Calls Try.prog 34 #[.float .f32 a0] w fun e w' => e = .returned (.float .f32 r) ∧ Drawn0 w w' := by
  have H : ((floatToFloatBits .f32 a0 .f64).bind fun t127 => ((spec_l01LogWide.f k t127).bind fun t128 => ((spec_l01Narrow.f t128).bind fun t129 => (some t129)))) = some r := h
  clear h
  replace H := Option.bind_eq_some_iff.mp H
  obtain ⟨t127, F20, H⟩ := H
  replace H : ((spec_l01LogWide.f k t127).bind fun t128 => ((spec_l01Narrow.f t128).bind fun t129 => (some t129))) = some r := H
  have F2 := run_float_float (P := Try.prog) F20 23 28 (by kernel_rfl) (by kernel_rfl)
  clear F20
  replace H := Option.bind_eq_some_iff.mp H
  obtain ⟨t128, A30, H⟩ := H
  replace H : ((spec_l01Narrow.f t128).bind fun t129 => (some t129)) = some r := H
  have A3 := Aside0.mk A30
  clear A30
  replace H := Option.bind_eq_some_iff.mp H
  obtain ⟨t129, A40, H⟩ := H
  replace H : (some t129) = some r := H
  have A4 := Aside0.mk A40
  clear A40
  obtain rfl := Option.some.inj H
  go_enter Try.func34, Try.ntmps34
  go_wp2_with (first | ((with_reducible refine gate_callee (f := 69) rfl ?_); refine goesL_ (some 5) rfl rfl Try.func69 (by kernel_rfl) rfl #[.float .f64 t127] rfl (by (try simp only [List.map_toArray, List.map_cons, List.map_nil]); first | done | rfl | (simp only [List.length_drop, List.length_take]; rfl)) ?_; (with_reducible refine (spec_l01LogWide.calls k t127 t128 _ A3.out).mono ?_); rintro e w' ⟨rfl, ⟨nd, rfl⟩⟩; refine ⟨_, rfl, ?_⟩) | ((with_reducible refine gate_callee (f := 68) rfl ?_); refine goesL_ (some 6) rfl rfl Try.func68 (by kernel_rfl) rfl #[.float .f64 t128] rfl (by (try simp only [List.map_toArray, List.map_cons, List.map_nil]); first | done | rfl | (simp only [List.length_drop, List.length_take]; rfl)) ?_; (with_reducible refine (spec_l01Narrow.calls t128 t129 _ A4.out).mono ?_); rintro e w' ⟨rfl, ⟨nd, rfl⟩⟩; refine ⟨_, rfl, ?_⟩))
  go_ret
  exact ⟨by first | rfl | (simp; done) | (simp [*]; done), by repeat (first | exact Drawn0.refl _ | apply Drawn0.step)⟩

/-! ### spec_l01Finite: function 70 -/
/-- Is a number finite: 'x - x == 0', whatever NaN comes of it. -/
def ffin (k : FloatKind) (x : Nat) : Bool := match floatBits .sub k x x with
  | some r => feq k r 0
  | none => false
def fnan (k : FloatKind) (x y : Nat) (w : World) : Nat := (Question.nanBits k x y).cut (w.tape w.drawn (.nanBits k x y))
theorem run_float_sub_nan {P : Program} {k : FloatKind} {x y : Nat} (h : floatBits .sub k x y = none) (t : TypeId) (w : World) : (binOp .sub t (.float k x) (.float k y)).run P w = .ok (.float k (fnan k x y w)) (w.drewN 1) := by
  have h' : k.format.sub x y = none := h
  simp [binOp, Op.floatArith, h', choose, Sem.run, Question.forced, fnan, World.drewN]
theorem feq_nan (k : FloatKind) (x y z : Nat) (w : World) : feq k (fnan k x y w) z = false := by
  have key : ∃ s f, k.format.read (fnan k x y w) = .nan s f := by
    unfold fnan
    generalize w.tape w.drawn (.nanBits k x y) = t
    cases k with
    | f32 =>
      have e : FloatKind.f32.format = Ieee.single := rfl
      rw [e]
      have hs : Ieee.single.signWeight = 2147483648 := by decide
      have hb : Ieee.single.binade = 8388608 := by decide
      have hi : Ieee.single.infRung = 2139095040 := by decide
      simp only [Question.cut, Ieee.Format.read, hs, hb, hi]
      have h1 : t % 2 = 0 ∨ t % 2 = 1 := by omega
      have h2 : (t / 2) % (2 ^ 23 - 1) < 8388607 := Nat.mod_lt _ (by decide)
      generalize (t / 2) % (2 ^ 23 - 1) = m at *
      have h3 : (t % 2 * 2 ^ 31 + 0x7f800000 + 1 + m) % 2147483648 = 2139095041 + m := by rcases h1 with h1 | h1 <;> rw [h1] <;> omega
      rw [h3, if_neg (by omega), if_neg (by omega), if_neg (by omega)]
      exact ⟨_, _, rfl⟩
    | f64 =>
      have e : FloatKind.f64.format = Ieee.double := rfl
      rw [e]
      have hs : Ieee.double.signWeight = 9223372036854775808 := by decide
      have hb : Ieee.double.binade = 4503599627370496 := by decide
      have hi : Ieee.double.infRung = 9218868437227405312 := by decide
      simp only [Question.cut, Ieee.Format.read, hs, hb, hi]
      have h1 : t % 2 = 0 ∨ t % 2 = 1 := by omega
      have h2 : (t / 2) % (2 ^ 52 - 1) < 4503599627370495 := Nat.mod_lt _ (by decide)
      generalize (t / 2) % (2 ^ 52 - 1) = m at *
      have h3 : (t % 2 * 2 ^ 63 + 0x7ff0000000000000 + 1 + m) % 9223372036854775808 = 9218868437227405313 + m := by rcases h1 with h1 | h1 <;> rw [h1] <;> omega
      rw [h3, if_neg (by omega), if_neg (by omega), if_neg (by omega)]
      exact ⟨_, _, rfl⟩
  obtain ⟨s, f, hk⟩ := key
  unfold feq Ieee.Format.order
  rw [hk]
  rfl
def spec_l01Finite.f (a0 : Nat) : Option (Bool) := some (ffin .f32 a0)
set_option maxHeartbeats 8000000 in
set_option maxRecDepth 100000 in
theorem spec_l01Finite.calls (a0 : Nat) (r : Bool) (w : World) (h : spec_l01Finite.f a0 = some r) :
    Calls Try.prog 70 #[.float .f32 a0] w fun e w' => e = .returned (.bool r) ∧ Drawn0 w w' := by
  obtain rfl : ffin .f32 a0 = r := by simpa [spec_l01Finite.f] using h
  clear h
  cases hs : floatBits .sub .f32 a0 a0 with
  | some x =>
    have F1 := run_float_op (P := Try.prog) hs
    have e_ : ffin .f32 a0 = feq .f32 x 0 := by unfold ffin; rw [hs]
    clear hs
    rw [e_]
    clear e_
    go_enter Try.func70, Try.ntmps70
    go_wp2
    go_ret
    exact ⟨rfl, by repeat (first | exact Drawn0.refl _ | apply Drawn0.step)⟩
  | none =>
    have F1 := run_float_sub_nan (P := Try.prog) hs
    have e_ : ffin .f32 a0 = false := by unfold ffin; rw [hs]
    clear hs
    rw [e_]
    clear e_
    have F2 := feq_nan .f32 a0 a0 0
    go_enter Try.func70, Try.ntmps70
    go_wp2
    go_ret
    exact ⟨by first | rfl | simp [F2], by repeat (first | exact Drawn0.refl _ | apply Drawn0.step)⟩

/-! ### spec_l02Number: function 35 -/
def spec_l02Number.f (a0 : Nat) : Option (Nat × Bool) := (spec_l01Finite.f a0).bind fun t130 => (if t130 = true then (some (a0, true)) else (some (0, false)))
set_option maxHeartbeats 8000000 in
set_option maxRecDepth 100000 in
theorem spec_l02Number.calls (a0 : Nat) (r1 : Nat) (r2 : Bool) (w : World) (h : spec_l02Number.f a0 = some (r1, r2)) :
    Calls Try.prog 35 #[.float .f32 a0] w fun e w' => e = .returned (.tuple #[.float .f32 r1, .bool r2]) ∧ Drawn0 w w' := by
  have H : ((spec_l01Finite.f a0).bind fun t130 => (if t130 = true then (some (a0, true)) else (some (0, false)))) = some (r1, r2) := h
  clear h
  replace H := Option.bind_eq_some_iff.mp H
  obtain ⟨t130, A20, H⟩ := H
  replace H : (if t130 = true then (some (a0, true)) else (some (0, false))) = some (r1, r2) := H
  have A2 := Aside0.mk A20
  clear A20
  by_cases c3 : t130 = true
  · subst c3
    have H1 : (some (a0, true)) = some (r1, r2) := by rw [if_pos rfl] at H; exact H
    clear H
    have H := H1
    clear H1
    simp only [Option.some.injEq, Prod.mk.injEq] at H
    obtain ⟨rfl, rfl⟩ := H
    go_enter Try.func35, Try.ntmps35
    go_wp2_with (first | ((with_reducible refine gate_callee (f := 70) rfl ?_); refine goesL_ (some 5) rfl rfl Try.func70 (by kernel_rfl) rfl #[.float .f32 a0] rfl (by (try simp only [List.map_toArray, List.map_cons, List.map_nil]); first | done | rfl | (simp only [List.length_drop, List.length_take]; rfl)) ?_; (with_reducible refine (spec_l01Finite.calls a0 true _ A2.out).mono ?_); rintro e w' ⟨rfl, ⟨nd, rfl⟩⟩; refine ⟨_, rfl, ?_⟩))
    go_ret2
    exact ⟨by first | rfl | (simp; done) | (simp [*]; done), by repeat (first | exact Drawn0.refl _ | apply Drawn0.step)⟩
  · replace c3 := Bool.eq_false_iff.mpr c3
    subst c3
    have H1 : (some (0, false)) = some (r1, r2) := by rw [if_neg (show ¬ (false = true) by decide)] at H; exact H
    clear H
    have H := H1
    clear H1
    simp only [Option.some.injEq, Prod.mk.injEq] at H
    obtain ⟨rfl, rfl⟩ := H
    go_enter Try.func35, Try.ntmps35
    go_wp2_with (first | ((with_reducible refine gate_callee (f := 70) rfl ?_); refine goesL_ (some 5) rfl rfl Try.func70 (by kernel_rfl) rfl #[.float .f32 a0] rfl (by (try simp only [List.map_toArray, List.map_cons, List.map_nil]); first | done | rfl | (simp only [List.length_drop, List.length_take]; rfl)) ?_; (with_reducible refine (spec_l01Finite.calls a0 false _ A2.out).mono ?_); rintro e w' ⟨rfl, ⟨nd, rfl⟩⟩; refine ⟨_, rfl, ?_⟩))
    go_ret2
    exact ⟨by first | rfl | (simp; done) | (simp [*]; done), by repeat (first | exact Drawn0.refl _ | apply Drawn0.step)⟩

end Go.Proofs.Ytpfbkkniljieoaa.PFnExactEntropyOf
