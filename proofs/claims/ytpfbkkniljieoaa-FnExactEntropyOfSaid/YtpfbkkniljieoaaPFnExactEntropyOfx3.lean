-- Written by a turned copy of the kit's printer (wip/pf).
import Derived.Test.YtpfbkkniljieoaaPFnExactEntropyOfx0
import Derived.Test.YtpfbkkniljieoaaPFnExactEntropyOfx1
import Derived.Test.YtpfbkkniljieoaaPFnExactEntropyOfx2
namespace Go.Proofs.Ytpfbkkniljieoaa.PFnExactEntropyOf
open Go.RowKit Go.Proofs.YtpfbkkniljieoaaW.PrintWords Go.Proofs.YtpfbkkniljieoaaW.PrintLast Go.Proofs.YtpfbkkniljieoaaW.PrintMore
attribute [local go_sem] max2_int min2_int max_two min_two max_three min_three max_four min_four   -- for this text's walks alone
attribute [local go_sem high] feq_fold fne_fold flt_fold fle_fold fgt_fold fge_fold fneg_run fsame_run fstore_run
set_option linter.unusedVariables false
set_option linter.unusedSimpArgs false

/-! ### impl_IsFinite: function 74 -/
def impl_IsFinite.f (a0 : Nat) : Option (Bool) := some (ffin .f32 a0)
set_option maxHeartbeats 8000000 in
set_option maxRecDepth 100000 in
theorem impl_IsFinite.calls (a0 : Nat) (r : Bool) (w : World) (h : impl_IsFinite.f a0 = some r) :
    Calls Try.prog 74 #[.float .f32 a0] w fun e w' => e = .returned (.bool r) ∧ Drawn0 w w' := by
  obtain rfl : ffin .f32 a0 = r := by simpa [impl_IsFinite.f] using h
  clear h
  cases hs : floatBits .sub .f32 a0 a0 with
  | some x =>
    have F1 := run_float_op (P := Try.prog) hs
    have e_ : ffin .f32 a0 = feq .f32 x 0 := by unfold ffin; rw [hs]
    clear hs
    rw [e_]
    clear e_
    go_enter Try.func74, Try.ntmps74
    go_wp2
    go_ret
    exact ⟨rfl, by repeat (first | exact Drawn0.refl _ | apply Drawn0.step)⟩
  | none =>
    have F1 := run_float_sub_nan (P := Try.prog) hs
    have e_ : ffin .f32 a0 = false := by unfold ffin; rw [hs]
    clear hs
    rw [e_]
    clear e_
    have F2 := feq_nan .f32 a0 a0 0
    go_enter Try.func74, Try.ntmps74
    go_wp2
    go_ret
    exact ⟨by first | rfl | simp [F2], by repeat (first | exact Drawn0.refl _ | apply Drawn0.step)⟩

/-! ### impl_naturalLog: function 75 -/
mutual
def impl_naturalLog.l0 : Nat → Nat → Nat → Option (Nat)
  | 0, _, _ => none
  | k + 1, x0, x3 => if (fge .f64 x0 4609434218613702656) = true then ((floatBits .quo .f64 x0 4611686018427387904).bind fun t168 => ((floatBits .add .f64 x3 4607182418800017408).bind fun t169 => (impl_naturalLog.l0 k t168 t169))) else (impl_naturalLog.l1 k x0 x3)
def impl_naturalLog.l1 : Nat → Nat → Nat → Option (Nat)
  | 0, _, _ => none
  | k + 1, x0, x3 => if (flt .f64 x0 4604930618986332160) = true then ((floatBits .mul .f64 x0 4611686018427387904).bind fun t170 => ((floatBits .sub .f64 x3 4607182418800017408).bind fun t171 => (impl_naturalLog.l1 k t170 t171))) else ((floatBits .sub .f64 x0 4607182418800017408).bind fun t172 => ((floatBits .add .f64 x0 4607182418800017408).bind fun t173 => ((floatBits .quo .f64 t172 t173).bind fun t174 => ((floatBits .mul .f64 t174 t174).bind fun t175 => (impl_naturalLog.l2 k x3 t174 t175 0 4627730092099895296)))))
def impl_naturalLog.l2 : Nat → Nat → Nat → Nat → Nat → Nat → Option (Nat)
  | 0, _, _, _, _, _ => none
  | k + 1, x3, x4, x5, x6, x7 => if (fge .f64 x7 4607182418800017408) = true then ((floatBits .quo .f64 4607182418800017408 x7).bind fun t176 => ((floatBits .mul .f64 x5 x6).bind fun t177 => ((floatBits .add .f64 t176 t177).bind fun t178 => ((floatBits .sub .f64 x7 4611686018427387904).bind fun t179 => (impl_naturalLog.l2 k x3 x4 x5 t178 t179))))) else ((floatBits .mul .f64 x4 x6).bind fun t180 => ((floatBits .mul .f64 4611686018427387904 t180).bind fun t181 => ((floatBits .mul .f64 x3 4604418534313441775).bind fun t182 => ((floatBits .add .f64 t181 t182).bind fun t183 => (some t183)))))
end
def impl_naturalLog.f (k : Nat) (a0 : Nat) : Option (Nat) := impl_naturalLog.l0 k a0 0
theorem impl_naturalLog.mono_l : ∀ k, (∀ y0 y1, LeO (impl_naturalLog.l0 k y0 y1) (impl_naturalLog.l0 (k + 1) y0 y1)) ∧ (∀ y0 y1, LeO (impl_naturalLog.l1 k y0 y1) (impl_naturalLog.l1 (k + 1) y0 y1)) ∧ (∀ y0 y1 y2 y3 y4, LeO (impl_naturalLog.l2 k y0 y1 y2 y3 y4) (impl_naturalLog.l2 (k + 1) y0 y1 y2 y3 y4))
  | 0 => ⟨fun _ _ r h => by simp [impl_naturalLog.l0] at h, fun _ _ r h => by simp [impl_naturalLog.l1] at h, fun _ _ _ _ _ r h => by simp [impl_naturalLog.l2] at h⟩
  | k + 1 => by
    obtain ⟨ih0, ih1, ih2⟩ := impl_naturalLog.mono_l k
    refine ⟨?_, ?_, ?_⟩
    · intro y0 y1
      unfold impl_naturalLog.l0
      repeat' first
      | (with_reducible exact ih0 _ _)
      | (with_reducible exact ih1 _ _)
      | (with_reducible exact ih2 _ _ _ _ _)
      | (with_reducible exact LeO.refl _)
      | (with_reducible exact LeO.none _)
      | (with_reducible refine LeO.ite ?_ ?_)
      | (with_reducible refine LeO.bind ?_ (fun _ => ?_))
      | exact ih0 _ _
      | exact ih1 _ _
      | exact ih2 _ _ _ _ _
      | exact LeO.none _
      | refine LeO.ite ?_ ?_
      | refine LeO.bind ?_ (fun _ => ?_)
    · intro y0 y1
      unfold impl_naturalLog.l1
      repeat' first
      | (with_reducible exact ih0 _ _)
      | (with_reducible exact ih1 _ _)
      | (with_reducible exact ih2 _ _ _ _ _)
      | (with_reducible exact LeO.refl _)
      | (with_reducible exact LeO.none _)
      | (with_reducible refine LeO.ite ?_ ?_)
      | (with_reducible refine LeO.bind ?_ (fun _ => ?_))
      | exact ih0 _ _
      | exact ih1 _ _
      | exact ih2 _ _ _ _ _
      | exact LeO.none _
      | refine LeO.ite ?_ ?_
      | refine LeO.bind ?_ (fun _ => ?_)
    · intro y0 y1 y2 y3 y4
      unfold impl_naturalLog.l2
      repeat' first
      | (with_reducible exact ih0 _ _)
      | (with_reducible exact ih1 _ _)
      | (with_reducible exact ih2 _ _ _ _ _)
      | (with_reducible exact LeO.refl _)
      | (with_reducible exact LeO.none _)
      | (with_reducible refine LeO.ite ?_ ?_)
      | (with_reducible refine LeO.bind ?_ (fun _ => ?_))
      | exact ih0 _ _
      | exact ih1 _ _
      | exact ih2 _ _ _ _ _
      | exact LeO.none _
      | refine LeO.ite ?_ ?_
      | refine LeO.bind ?_ (fun _ => ?_)
theorem impl_naturalLog.mono : ∀ a0 k, LeO (impl_naturalLog.f k a0) (impl_naturalLog.f (k + 1) a0) := by
  intro a0 k
  obtain ⟨ih0, ih1, ih2⟩ := impl_naturalLog.mono_l k
  unfold impl_naturalLog.f
  repeat' first
      | (with_reducible exact ih0 _ _)
      | (with_reducible exact ih1 _ _)
      | (with_reducible exact ih2 _ _ _ _ _)
      | (with_reducible exact LeO.refl _)
      | (with_reducible exact LeO.none _)
      | (with_reducible refine LeO.ite ?_ ?_)
      | (with_reducible refine LeO.bind ?_ (fun _ => ?_))
      | exact ih0 _ _
      | exact ih1 _ _
      | exact ih2 _ _ _ _ _
      | exact LeO.none _
      | refine LeO.ite ?_ ?_
      | refine LeO.bind ?_ (fun _ => ?_)
set_option maxHeartbeats 8000000 in
set_option maxRecDepth 100000 in
theorem impl_naturalLog.calls (k : Nat) (a0 : Nat) (r : Nat) (w : World) (h : impl_naturalLog.f k a0 = some r) :
    Calls Try.prog 75 #[.float .f64 a0] w fun e w' => e = .returned (.float .f64 r) ∧ Drawn0 w w' := by
  have H : (impl_naturalLog.l0 k a0 0) = some r := h
  clear h
  have H' := Aside0.mk H
  clear H
  go_enter Try.func75, Try.ntmps75
  go_wp2
  go_loopg [0, 3] k (fun kq v0 v3 w' => ∃ (x0_1 : Nat) (x3_1 : Nat), v0 = .float .f64 x0_1 ∧ v3 = .float .f64 x3_1 ∧ Aside0 (impl_naturalLog.l0 kq x0_1 x3_1 = some r) ∧ Aside0 (kq ≤ k) ∧ Drawn0 w w')
  case atStart => exact ⟨(a0), (0), (by first | rfl | (simp; done) | (simp [*]; done)), (by first | rfl | (simp; done) | (simp [*]; done)), H', ⟨Nat.le_refl _⟩, by repeat (first | exact Drawn0.refl _ | apply Drawn0.step)⟩
  case round =>
    clear H'
    obtain ⟨x0_1, x3_1, rfl, rfl, HA, HK1, ⟨m1, rfl⟩⟩ := hrel
    cases gk with
    | zero => exact absurd HA.out (by simp [impl_naturalLog.l0])
    | succ k1 =>
      have H := HA.out
      clear HA
      simp only [impl_naturalLog.l0] at H
      by_cases c2 : (fge .f64 x0_1 4609434218613702656) = true
      · rw [if_pos c2] at H
        have c2b0 : (fge .f64 x0_1 4609434218613702656) = true := c2
        clear c2
        replace H := Option.bind_eq_some_iff.mp H
        obtain ⟨t168, F30, H⟩ := H
        replace H : ((floatBits .add .f64 x3_1 4607182418800017408).bind fun t169 => (impl_naturalLog.l0 k1 t168 t169)) = some r := H
        have F3 := run_float_op (P := Try.prog) F30
        clear F30
        replace H := Option.bind_eq_some_iff.mp H
        obtain ⟨t169, F40, H⟩ := H
        replace H : (impl_naturalLog.l0 k1 t168 t169) = some r := H
        have F4 := run_float_op (P := Try.prog) F40
        clear F40
        have H' := Aside0.mk H
        clear H
        go_wp2
        go_roundg k1
        case measure => have := HK1.out; omega
        case rel => exact ⟨(t168), (t169), (by first | rfl | (simp; done) | (simp [*]; done)), (by first | rfl | (simp; done) | (simp [*]; done)), H', ⟨by have := HK1.out; omega⟩, by repeat (first | exact Drawn0.refl _ | apply Drawn0.step)⟩
      · rw [if_neg c2] at H
        have c2b0 : (fge .f64 x0_1 4609434218613702656) = false := by simpa using c2
        clear c2
        have H' := Aside0.mk H
        clear H
        go_wp2
        go_loopg [0, 3] k1 (fun kq v0 v3 w' => ∃ (x0_2 : Nat) (x3_2 : Nat), v0 = .float .f64 x0_2 ∧ v3 = .float .f64 x3_2 ∧ Aside0 (impl_naturalLog.l1 kq x0_2 x3_2 = some r) ∧ Aside0 (kq ≤ k1) ∧ Drawn0 w w')
        case atStart => exact ⟨(x0_1), (x3_1), (by first | rfl | (simp; done) | (simp [*]; done)), (by first | rfl | (simp; done) | (simp [*]; done)), H', ⟨Nat.le_refl _⟩, by repeat (first | exact Drawn0.refl _ | apply Drawn0.step)⟩
        case round =>
          clear H'
          try clear c2
          try clear c2b0
          try clear p2
          obtain ⟨x0_2, x3_2, rfl, rfl, HA, HK2, ⟨m2, rfl⟩⟩ := hrel
          cases gk with
          | zero => exact absurd HA.out (by simp [impl_naturalLog.l1])
          | succ k2 =>
            have H := HA.out
            clear HA
            simp only [impl_naturalLog.l1] at H
            by_cases c5 : (flt .f64 x0_2 4604930618986332160) = true
            · rw [if_pos c5] at H
              have c5b0 : (flt .f64 x0_2 4604930618986332160) = true := c5
              clear c5
              replace H := Option.bind_eq_some_iff.mp H
              obtain ⟨t170, F60, H⟩ := H
              replace H : ((floatBits .sub .f64 x3_2 4607182418800017408).bind fun t171 => (impl_naturalLog.l1 k2 t170 t171)) = some r := H
              have F6 := run_float_op (P := Try.prog) F60
              clear F60
              replace H := Option.bind_eq_some_iff.mp H
              obtain ⟨t171, F70, H⟩ := H
              replace H : (impl_naturalLog.l1 k2 t170 t171) = some r := H
              have F7 := run_float_op (P := Try.prog) F70
              clear F70
              have H' := Aside0.mk H
              clear H
              go_wp2
              go_roundg k2
              case measure => have := HK1.out; have := HK2.out; omega
              case rel => exact ⟨(t170), (t171), (by first | rfl | (simp; done) | (simp [*]; done)), (by first | rfl | (simp; done) | (simp [*]; done)), H', ⟨by have := HK1.out; have := HK2.out; omega⟩, by repeat (first | exact Drawn0.refl _ | apply Drawn0.step)⟩
            · rw [if_neg c5] at H
              have c5b0 : (flt .f64 x0_2 4604930618986332160) = false := by simpa using c5
              clear c5
              replace H := Option.bind_eq_some_iff.mp H
              obtain ⟨t172, F80, H⟩ := H
              replace H : ((floatBits .add .f64 x0_2 4607182418800017408).bind fun t173 => ((floatBits .quo .f64 t172 t173).bind fun t174 => ((floatBits .mul .f64 t174 t174).bind fun t175 => (impl_naturalLog.l2 k2 x3_2 t174 t175 0 4627730092099895296)))) = some r := H
              have F8 := run_float_op (P := Try.prog) F80
              clear F80
              replace H := Option.bind_eq_some_iff.mp H
              obtain ⟨t173, F90, H⟩ := H
              replace H : ((floatBits .quo .f64 t172 t173).bind fun t174 => ((floatBits .mul .f64 t174 t174).bind fun t175 => (impl_naturalLog.l2 k2 x3_2 t174 t175 0 4627730092099895296))) = some r := H
              have F9 := run_float_op (P := Try.prog) F90
              clear F90
              replace H := Option.bind_eq_some_iff.mp H
              obtain ⟨t174, F100, H⟩ := H
              replace H : ((floatBits .mul .f64 t174 t174).bind fun t175 => (impl_naturalLog.l2 k2 x3_2 t174 t175 0 4627730092099895296)) = some r := H
              have F10 := run_float_op (P := Try.prog) F100
              clear F100
              replace H := Option.bind_eq_some_iff.mp H
              obtain ⟨t175, F110, H⟩ := H
              replace H : (impl_naturalLog.l2 k2 x3_2 t174 t175 0 4627730092099895296) = some r := H
              have F11 := run_float_op (P := Try.prog) F110
              clear F110
              have H' := Aside0.mk H
              clear H
              go_wp2
              go_loopg [6, 7] k2 (fun kq v6 v7 w' => ∃ (x6_3 : Nat) (x7_3 : Nat), v6 = .float .f64 x6_3 ∧ v7 = .float .f64 x7_3 ∧ Aside0 (impl_naturalLog.l2 kq x3_2 t174 t175 x6_3 x7_3 = some r) ∧ Aside0 (kq ≤ k2) ∧ Drawn0 w w')
              case atStart => exact ⟨(0), (4627730092099895296), (by first | rfl | (simp; done) | (simp [*]; done)), (by first | rfl | (simp; done) | (simp [*]; done)), H', ⟨Nat.le_refl _⟩, by repeat (first | exact Drawn0.refl _ | apply Drawn0.step)⟩
              case round =>
                clear H'
                try clear c2
                try clear c2b0
                try clear p2
                try clear c5
                try clear c5b0
                try clear c7
                try clear p2
                obtain ⟨x6_3, x7_3, rfl, rfl, HA, HK3, ⟨m3, rfl⟩⟩ := hrel
                cases gk with
                | zero => exact absurd HA.out (by simp [impl_naturalLog.l2])
                | succ k3 =>
                  have H := HA.out
                  clear HA
                  simp only [impl_naturalLog.l2] at H
                  by_cases c12 : (fge .f64 x7_3 4607182418800017408) = true
                  · rw [if_pos c12] at H
                    have c12b0 : (fge .f64 x7_3 4607182418800017408) = true := c12
                    clear c12
                    replace H := Option.bind_eq_some_iff.mp H
                    obtain ⟨t176, F130, H⟩ := H
                    replace H : ((floatBits .mul .f64 t175 x6_3).bind fun t177 => ((floatBits .add .f64 t176 t177).bind fun t178 => ((floatBits .sub .f64 x7_3 4611686018427387904).bind fun t179 => (impl_naturalLog.l2 k3 x3_2 t174 t175 t178 t179)))) = some r := H
                    have F13 := run_float_op (P := Try.prog) F130
                    clear F130
                    replace H := Option.bind_eq_some_iff.mp H
                    obtain ⟨t177, F140, H⟩ := H
                    replace H : ((floatBits .add .f64 t176 t177).bind fun t178 => ((floatBits .sub .f64 x7_3 4611686018427387904).bind fun t179 => (impl_naturalLog.l2 k3 x3_2 t174 t175 t178 t179))) = some r := H
                    have F14 := run_float_op (P := Try.prog) F140
                    clear F140
                    replace H := Option.bind_eq_some_iff.mp H
                    obtain ⟨t178, F150, H⟩ := H
                    replace H : ((floatBits .sub .f64 x7_3 4611686018427387904).bind fun t179 => (impl_naturalLog.l2 k3 x3_2 t174 t175 t178 t179)) = some r := H
                    have F15 := run_float_op (P := Try.prog) F150
                    clear F150
                    replace H := Option.bind_eq_some_iff.mp H
                    obtain ⟨t179, F160, H⟩ := H
                    replace H : (impl_naturalLog.l2 k3 x3_2 t174 t175 t178 t179) = some r := H
                    have F16 := run_float_op (P := Try.prog) F160
                    clear F160
                    have H' := Aside0.mk H
                    clear H
                    go_wp2
                    go_roundg k3
                    case measure => have := HK1.out; have := HK2.out; have := HK3.out; omega
                    case rel => exact ⟨(t178), (t179), (by first | rfl | (simp; done) | (simp [*]; done)), (by first | rfl | (simp; done) | (simp [*]; done)), H', ⟨by have := HK1.out; have := HK2.out; have := HK3.out; omega⟩, by repeat (first | exact Drawn0.refl _ | apply Drawn0.step)⟩
                  · rw [if_neg c12] at H
                    have c12b0 : (fge .f64 x7_3 4607182418800017408) = false := by simpa using c12
                    clear c12
                    replace H := Option.bind_eq_some_iff.mp H
                    obtain ⟨t180, F170, H⟩ := H
                    replace H : ((floatBits .mul .f64 4611686018427387904 t180).bind fun t181 => ((floatBits .mul .f64 x3_2 4604418534313441775).bind fun t182 => ((floatBits .add .f64 t181 t182).bind fun t183 => (some t183)))) = some r := H
                    have F17 := run_float_op (P := Try.prog) F170
                    clear F170
                    replace H := Option.bind_eq_some_iff.mp H
                    obtain ⟨t181, F180, H⟩ := H
                    replace H : ((floatBits .mul .f64 x3_2 4604418534313441775).bind fun t182 => ((floatBits .add .f64 t181 t182).bind fun t183 => (some t183))) = some r := H
                    have F18 := run_float_op (P := Try.prog) F180
                    clear F180
                    replace H := Option.bind_eq_some_iff.mp H
                    obtain ⟨t182, F190, H⟩ := H
                    replace H : ((floatBits .add .f64 t181 t182).bind fun t183 => (some t183)) = some r := H
                    have F19 := run_float_op (P := Try.prog) F190
                    clear F190
                    replace H := Option.bind_eq_some_iff.mp H
                    obtain ⟨t183, F200, H⟩ := H
                    replace H : (some t183) = some r := H
                    have F20 := run_float_op (P := Try.prog) F200
                    clear F200
                    obtain rfl := Option.some.inj H
                    go_wp2
                    go_ret
                    exact ⟨by first | rfl | (simp; done) | (simp [*]; done), by repeat (first | exact Drawn0.refl _ | apply Drawn0.step)⟩

/-! ### impl_LogNumber: function 37 -/
def impl_LogNumber.j0 : Nat → Nat → Bool → Option (Nat)
  | 0, _, _ => none
  | k + 1, x0, x8 => if x8 = true then ((math_NaN.f).bind fun t186 => ((floatToFloatBits .f64 t186 .f32).bind fun t187 => (some t187))) else ((impl_IsFinite.f x0).bind fun t188 => (if t188 = true then ((floatToFloatBits .f32 x0 .f64).bind fun t189 => ((impl_naturalLog.f k t189).bind fun t190 => ((floatToFloatBits .f64 t190 .f32).bind fun t191 => (some t191)))) else (some x0)))
def impl_LogNumber.f (k : Nat) (a0 : Nat) : Option (Nat) := if (feq .f32 a0 0) = true then ((math_Inf.f (-1)).bind fun t184 => ((floatToFloatBits .f64 t184 .f32).bind fun t185 => (some t185))) else (if (flt .f32 a0 0) = true then (impl_LogNumber.j0 k a0 true) else (impl_LogNumber.j0 k a0 (fne .f32 a0 a0)))
theorem impl_LogNumber.mono_l : ∀ k, (∀ y0 y1, LeO (impl_LogNumber.j0 k y0 y1) (impl_LogNumber.j0 (k + 1) y0 y1))
  | 0 => fun _ _ r h => by simp [impl_LogNumber.j0] at h
  | k + 1 => by
    have ih0 := impl_LogNumber.mono_l k
    · intro y0 y1
      unfold impl_LogNumber.j0
      repeat' first
      | (with_reducible exact ih0 _ _)
      | (with_reducible exact impl_naturalLog.mono _ _)
      | (with_reducible exact LeO.refl _)
      | (with_reducible exact LeO.none _)
      | (with_reducible refine LeO.ite ?_ ?_)
      | (with_reducible refine LeO.bind ?_ (fun _ => ?_))
      | exact ih0 _ _
      | exact impl_naturalLog.mono _ _
      | exact LeO.none _
      | refine LeO.ite ?_ ?_
      | refine LeO.bind ?_ (fun _ => ?_)
theorem impl_LogNumber.mono : ∀ a0 k, LeO (impl_LogNumber.f k a0) (impl_LogNumber.f (k + 1) a0) := by
  intro a0 k
  have ih0 := impl_LogNumber.mono_l k
  unfold impl_LogNumber.f
  repeat' first
      | (with_reducible exact ih0 _ _)
      | (with_reducible exact impl_naturalLog.mono _ _)
      | (with_reducible exact LeO.refl _)
      | (with_reducible exact LeO.none _)
      | (with_reducible refine LeO.ite ?_ ?_)
      | (with_reducible refine LeO.bind ?_ (fun _ => ?_))
      | exact ih0 _ _
      | exact impl_naturalLog.mono _ _
      | exact LeO.none _
      | refine LeO.ite ?_ ?_
      | refine LeO.bind ?_ (fun _ => ?_)
set_option maxHeartbeats 8000000 in
set_option maxRecDepth 100000 in
theorem impl_LogNumber.calls (k : Nat) (a0 : Nat) (r : Nat) (w : World) (h : impl_LogNumber.f k a0 = some r) :
    Calls Try.prog 37 #[.float .f32 a0] w fun e w' => e = .returned (.float .f32 r) ∧ Drawn0 w w' := by
  have H : (if (feq .f32 a0 0) = true then ((math_Inf.f (-1)).bind fun t184 => ((floatToFloatBits .f64 t184 .f32).bind fun t185 => (some t185))) else (if (flt .f32 a0 0) = true then (impl_LogNumber.j0 k a0 true) else (impl_LogNumber.j0 k a0 (fne .f32 a0 a0)))) = some r := h
  clear h
  by_cases c2 : (feq .f32 a0 0) = true
  · rw [if_pos c2] at H
    have c2b0 : (feq .f32 a0 0) = true := c2
    clear c2
    replace H := Option.bind_eq_some_iff.mp H
    obtain ⟨t184, A30, H⟩ := H
    replace H : ((floatToFloatBits .f64 t184 .f32).bind fun t185 => (some t185)) = some r := H
    have A3 := Aside0.mk A30
    clear A30
    replace H := Option.bind_eq_some_iff.mp H
    obtain ⟨t185, F40, H⟩ := H
    replace H : (some t185) = some r := H
    have F4 := run_float_float (P := Try.prog) F40 28 23 (by kernel_rfl) (by kernel_rfl)
    clear F40
    obtain rfl := Option.some.inj H
    go_enter Try.func37, Try.ntmps37
    go_wp2_with (first | ((with_reducible refine gate_callee (f := 72) rfl ?_); refine goesL_ (some 6) rfl rfl Try.func72 (by kernel_rfl) rfl #[.int .i64 (-1)] rfl (by (try simp only [List.map_toArray, List.map_cons, List.map_nil]); first | done | rfl | (simp only [List.length_drop, List.length_take]; rfl)) ?_; (with_reducible refine (math_Inf.calls (-1) t184 _ A3.out).mono ?_); rintro e w' ⟨rfl, ⟨nd, rfl⟩⟩; refine ⟨_, rfl, ?_⟩))
    go_ret
    exact ⟨by first | rfl | (simp; done) | (simp [*]; done), by repeat (first | exact Drawn0.refl _ | apply Drawn0.step)⟩
  · rw [if_neg c2] at H
    have c2b0 : (feq .f32 a0 0) = false := by simpa using c2
    clear c2
    have HC5 := Aside0.mk H
    clear H
    go_enter Try.func37, Try.ntmps37
    go_upto_region 3 with (fail)
    go_cut [8] (fun v8 wc => ∃ (kq : Nat) (x8_4 : Bool), v8 = .bool x8_4 ∧ Aside0 (impl_LogNumber.j0 kq a0 x8_4 = some r) ∧ Aside0 (kq ≤ k) ∧ Drawn0 w wc)
    case first =>
      have H := HC5.out
      clear HC5
      by_cases c6 : (flt .f32 a0 0) = true
      · rw [if_pos c6] at H
        have c6b0 : (flt .f32 a0 0) = true := c6
        clear c6
        (first | rw [c6b0] | (simp only [i64_w, i32_w]; rw [c6b0]) | skip)
        have H' := Aside0.mk H
        clear H
        go_wp2
        go_meet
        case rel => exact ⟨_, (true), (by first | rfl | (simp; done) | (simp [*]; done)), H', ⟨by first | omega | exact Nat.le_refl _⟩, by repeat (first | exact Drawn0.refl _ | apply Drawn0.step)⟩
      · rw [if_neg c6] at H
        have c6b0 : (flt .f32 a0 0) = false := by simpa using c6
        clear c6
        (first | rw [c6b0] | (simp only [i64_w, i32_w]; rw [c6b0]) | skip)
        have H' := Aside0.mk H
        clear H
        go_wp2
        go_meet
        case rel => exact ⟨_, ((fne .f32 a0 a0)), (by first | rfl | (simp; done) | (simp [*]; done)), H', ⟨by first | omega | exact Nat.le_refl _⟩, by repeat (first | exact Drawn0.refl _ | apply Drawn0.step)⟩
    case rest =>
      clear HC5
      try clear c2
      try clear c2b0
      try clear p2
      try clear c3
      try clear c6
      try clear c6b0
      obtain ⟨kq, x8_4, rfl, HA, HJ4, ⟨mc4, rfl⟩⟩ := hcut
      cases kq with
      | zero => exact absurd HA.out (by simp [impl_LogNumber.j0])
      | succ kj4 =>
        have H := HA.out
        clear HA
        simp only [impl_LogNumber.j0] at H
        by_cases c7 : x8_4 = true
        · subst c7
          have H1 : ((math_NaN.f).bind fun t186 => ((floatToFloatBits .f64 t186 .f32).bind fun t187 => (some t187))) = some r := by rw [if_pos rfl] at H; exact H
          clear H
          have H := H1
          clear H1
          replace H := Option.bind_eq_some_iff.mp H
          obtain ⟨t186, A80, H⟩ := H
          replace H : ((floatToFloatBits .f64 t186 .f32).bind fun t187 => (some t187)) = some r := H
          have A8 := Aside0.mk A80
          clear A80
          replace H := Option.bind_eq_some_iff.mp H
          obtain ⟨t187, F90, H⟩ := H
          replace H : (some t187) = some r := H
          have F9 := run_float_float (P := Try.prog) F90 28 23 (by kernel_rfl) (by kernel_rfl)
          clear F90
          obtain rfl := Option.some.inj H
          go_wp2_with (first | ((with_reducible refine gate_callee (f := 73) rfl ?_); refine goesL_ (some 16) rfl rfl Try.func73 (by kernel_rfl) rfl #[] rfl (by (try simp only [List.map_toArray, List.map_cons, List.map_nil]); first | done | rfl | (simp only [List.length_drop, List.length_take]; rfl)) ?_; (with_reducible refine (math_NaN.calls  t186 _ A8.out).mono ?_); rintro e w' ⟨rfl, ⟨nd, rfl⟩⟩; refine ⟨_, rfl, ?_⟩))
          go_ret
          exact ⟨by first | rfl | (simp; done) | (simp [*]; done), by repeat (first | exact Drawn0.refl _ | apply Drawn0.step)⟩
        · replace c7 := Bool.eq_false_iff.mpr c7
          subst c7
          have H1 : ((impl_IsFinite.f a0).bind fun t188 => (if t188 = true then ((floatToFloatBits .f32 a0 .f64).bind fun t189 => ((impl_naturalLog.f kj4 t189).bind fun t190 => ((floatToFloatBits .f64 t190 .f32).bind fun t191 => (some t191)))) else (some a0))) = some r := by rw [if_neg (show ¬ (false = true) by decide)] at H; exact H
          clear H
          have H := H1
          clear H1
          replace H := Option.bind_eq_some_iff.mp H
          obtain ⟨t188, A100, H⟩ := H
          replace H : (if t188 = true then ((floatToFloatBits .f32 a0 .f64).bind fun t189 => ((impl_naturalLog.f kj4 t189).bind fun t190 => ((floatToFloatBits .f64 t190 .f32).bind fun t191 => (some t191)))) else (some a0)) = some r := H
          have A10 := Aside0.mk A100
          clear A100
          by_cases c11 : t188 = true
          · subst c11
            have H1 : ((floatToFloatBits .f32 a0 .f64).bind fun t189 => ((impl_naturalLog.f kj4 t189).bind fun t190 => ((floatToFloatBits .f64 t190 .f32).bind fun t191 => (some t191)))) = some r := by rw [if_pos rfl] at H; exact H
            clear H
            have H := H1
            clear H1
            replace H := Option.bind_eq_some_iff.mp H
            obtain ⟨t189, F120, H⟩ := H
            replace H : ((impl_naturalLog.f kj4 t189).bind fun t190 => ((floatToFloatBits .f64 t190 .f32).bind fun t191 => (some t191))) = some r := H
            have F12 := run_float_float (P := Try.prog) F120 23 28 (by kernel_rfl) (by kernel_rfl)
            clear F120
            replace H := Option.bind_eq_some_iff.mp H
            obtain ⟨t190, A130, H⟩ := H
            replace H : ((floatToFloatBits .f64 t190 .f32).bind fun t191 => (some t191)) = some r := H
            have A13 := Aside0.mk A130
            clear A130
            replace H := Option.bind_eq_some_iff.mp H
            obtain ⟨t191, F140, H⟩ := H
            replace H : (some t191) = some r := H
            have F14 := run_float_float (P := Try.prog) F140 28 23 (by kernel_rfl) (by kernel_rfl)
            clear F140
            obtain rfl := Option.some.inj H
            go_wp2_with (first | ((with_reducible refine gate_callee (f := 74) rfl ?_); refine goesL_ (some 20) rfl rfl Try.func74 (by kernel_rfl) rfl #[.float .f32 a0] rfl (by (try simp only [List.map_toArray, List.map_cons, List.map_nil]); first | done | rfl | (simp only [List.length_drop, List.length_take]; rfl)) ?_; (with_reducible refine (impl_IsFinite.calls a0 true _ A10.out).mono ?_); rintro e w' ⟨rfl, ⟨nd, rfl⟩⟩; refine ⟨_, rfl, ?_⟩) | ((with_reducible refine gate_callee (f := 75) rfl ?_); refine goesL_ (some 25) rfl rfl Try.func75 (by kernel_rfl) rfl #[.float .f64 t189] rfl (by (try simp only [List.map_toArray, List.map_cons, List.map_nil]); first | done | rfl | (simp only [List.length_drop, List.length_take]; rfl)) ?_; (with_reducible refine (impl_naturalLog.calls kj4 t189 t190 _ A13.out).mono ?_); rintro e w' ⟨rfl, ⟨nd, rfl⟩⟩; refine ⟨_, rfl, ?_⟩))
            go_ret
            exact ⟨by first | rfl | (simp; done) | (simp [*]; done), by repeat (first | exact Drawn0.refl _ | apply Drawn0.step)⟩
          · replace c11 := Bool.eq_false_iff.mpr c11
            subst c11
            have H1 : (some a0) = some r := by rw [if_neg (show ¬ (false = true) by decide)] at H; exact H
            clear H
            have H := H1
            clear H1
            obtain rfl := Option.some.inj H
            go_wp2_with (first | ((with_reducible refine gate_callee (f := 74) rfl ?_); refine goesL_ (some 20) rfl rfl Try.func74 (by kernel_rfl) rfl #[.float .f32 a0] rfl (by (try simp only [List.map_toArray, List.map_cons, List.map_nil]); first | done | rfl | (simp only [List.length_drop, List.length_take]; rfl)) ?_; (with_reducible refine (impl_IsFinite.calls a0 false _ A10.out).mono ?_); rintro e w' ⟨rfl, ⟨nd, rfl⟩⟩; refine ⟨_, rfl, ?_⟩))
            go_ret
            exact ⟨by first | rfl | (simp; done) | (simp [*]; done), by repeat (first | exact Drawn0.refl _ | apply Drawn0.step)⟩

/-! ### impl_finite: function 38 -/
def impl_finite.f (a0 : Nat) : Option (Nat × Bool) := (impl_IsFinite.f a0).bind fun t192 => (if t192 = true then (some (a0, true)) else (some (0, false)))
set_option maxHeartbeats 8000000 in
set_option maxRecDepth 100000 in
theorem impl_finite.calls (a0 : Nat) (r1 : Nat) (r2 : Bool) (w : World) (h : impl_finite.f a0 = some (r1, r2)) :
    Calls Try.prog 38 #[.float .f32 a0] w fun e w' => e = .returned (.tuple #[.float .f32 r1, .bool r2]) ∧ Drawn0 w w' := by
  have H : ((impl_IsFinite.f a0).bind fun t192 => (if t192 = true then (some (a0, true)) else (some (0, false)))) = some (r1, r2) := h
  clear h
  replace H := Option.bind_eq_some_iff.mp H
  obtain ⟨t192, A20, H⟩ := H
  replace H : (if t192 = true then (some (a0, true)) else (some (0, false))) = some (r1, r2) := H
  have A2 := Aside0.mk A20
  clear A20
  by_cases c3 : t192 = true
  · subst c3
    have H1 : (some (a0, true)) = some (r1, r2) := by rw [if_pos rfl] at H; exact H
    clear H
    have H := H1
    clear H1
    simp only [Option.some.injEq, Prod.mk.injEq] at H
    obtain ⟨rfl, rfl⟩ := H
    go_enter Try.func38, Try.ntmps38
    go_wp2_with (first | ((with_reducible refine gate_callee (f := 74) rfl ?_); refine goesL_ (some 5) rfl rfl Try.func74 (by kernel_rfl) rfl #[.float .f32 a0] rfl (by (try simp only [List.map_toArray, List.map_cons, List.map_nil]); first | done | rfl | (simp only [List.length_drop, List.length_take]; rfl)) ?_; (with_reducible refine (impl_IsFinite.calls a0 true _ A2.out).mono ?_); rintro e w' ⟨rfl, ⟨nd, rfl⟩⟩; refine ⟨_, rfl, ?_⟩))
    go_ret2
    exact ⟨by first | rfl | (simp; done) | (simp [*]; done), by repeat (first | exact Drawn0.refl _ | apply Drawn0.step)⟩
  · replace c3 := Bool.eq_false_iff.mpr c3
    subst c3
    have H1 : (some (0, false)) = some (r1, r2) := by rw [if_neg (show ¬ (false = true) by decide)] at H; exact H
    clear H
    have H := H1
    clear H1
    simp only [Option.some.injEq, Prod.mk.injEq] at H
    obtain ⟨rfl, rfl⟩ := H
    go_enter Try.func38, Try.ntmps38
    go_wp2_with (first | ((with_reducible refine gate_callee (f := 74) rfl ?_); refine goesL_ (some 5) rfl rfl Try.func74 (by kernel_rfl) rfl #[.float .f32 a0] rfl (by (try simp only [List.map_toArray, List.map_cons, List.map_nil]); first | done | rfl | (simp only [List.length_drop, List.length_take]; rfl)) ?_; (with_reducible refine (impl_IsFinite.calls a0 false _ A2.out).mono ?_); rintro e w' ⟨rfl, ⟨nd, rfl⟩⟩; refine ⟨_, rfl, ?_⟩))
    go_ret2
    exact ⟨by first | rfl | (simp; done) | (simp [*]; done), by repeat (first | exact Drawn0.refl _ | apply Drawn0.step)⟩

/-! ### impl_EntropyOf: function 8 -/
section
open Go.Maps
/-- The different numbers of a list, in the order of their first ones. -/
def EO.firsts : List Int → List Int → List Int
  | [], acc => acc
  | x :: r, acc => if x ∈ acc then EO.firsts r acc else EO.firsts r (acc ++ [x])
/-- How often a number is there. -/
def EO.often (l : List Int) (x : Int) : Nat := l.countP (fun y => decide (y = x))
def EO.sum (k : Nat) (l : List Int) : List Int → Nat → Option (Nat × Bool)
  | [], s => (floatBits .quo .f32 (Op.negFloat .f32 s) 1060205080).bind fun q => impl_finite.f q
  | n :: r, s => (floatBits .quo .f32 (floatOfInt .f32 (EO.often l n : Nat)) (floatOfInt .f32 (l.length : Nat))).bind fun p => (impl_LogNumber.f k p).bind fun g => (floatBits .mul .f32 p g).bind fun x => (floatBits .add .f32 s x).bind fun t => EO.sum k l r t
def impl_EntropyOf.f (k : Nat) (l0 : List Int) : Option (Nat × Bool) := (impl_AreIntegers.f k l0).bind fun t => if t = true then EO.sum k l0 (EO.firsts l0 []) 0 else some (0, false)
theorem EO.sum_mono (l : List Int) (k : Nat) : ∀ (r : List Int) (s : Nat), LeO (EO.sum k l r s) (EO.sum (k + 1) l r s)
  | [], s => LeO.refl _
  | n :: r, s => by
    unfold EO.sum
    exact LeO.bind (LeO.refl _) fun p => LeO.bind (impl_LogNumber.mono _ _) fun g => LeO.bind (LeO.refl _) fun x => LeO.bind (LeO.refl _) fun t => EO.sum_mono l k r t
theorem impl_EntropyOf.mono : ∀ a0 k, LeO (impl_EntropyOf.f k a0) (impl_EntropyOf.f (k + 1) a0) := by
  intro a0 k
  unfold impl_EntropyOf.f
  exact LeO.bind (impl_AreIntegers.mono _ _) fun t => LeO.ite (EO.sum_mono _ _ _ _) (LeO.refl _)

theorem EO.firsts_append (l r acc : List Int) : EO.firsts (l ++ r) acc = EO.firsts r (EO.firsts l acc) := by
  induction l generalizing acc with
  | nil => rfl
  | cons x l ih => simp only [List.cons_append, EO.firsts]; split <;> exact ih _
theorem EO.mem_firsts (l acc : List Int) (x : Int) : x ∈ EO.firsts l acc ↔ x ∈ acc ∨ x ∈ l := by
  induction l generalizing acc with
  | nil => simp [EO.firsts]
  | cons y l ih =>
    simp only [EO.firsts]
    split
    · rename_i h; rw [ih]; simp only [List.mem_cons]; constructor
      · rintro (h | h); exact .inl h; exact .inr (.inr h)
      · rintro (h | rfl | h); exact .inl h; exact .inl ‹_›; exact .inr h
    · rw [ih]; simp only [List.mem_append, List.mem_cons, List.not_mem_nil, or_false]
      constructor
      · rintro ((h | h) | h); exact .inl h; exact .inr (.inl h); exact .inr (.inr h)
      · rintro (h | h | h); exact .inl (.inl h); exact .inl (.inr h); exact .inr h
theorem EO.often_zero (l : List Int) (x : Int) : EO.often l x = 0 ↔ x ∉ l := by
  unfold EO.often; rw [List.countP_eq_zero]; simp only [decide_eq_true_eq]
  exact ⟨fun h hx => h x hx rfl, fun h a ha e => h (e ▸ ha)⟩
theorem EO.take_snoc (l : List Int) (k : Nat) (h : k < l.length) : l.take (k + 1) = l.take k ++ [rd l (k : Int)] := by
  rw [List.take_succ_eq_append_getElem h]; simp [rd, List.getD_eq_getElem?_getD, List.getElem?_eq_getElem h]
theorem EO.firsts_step (l : List Int) (k : Nat) (h : k < l.length) : EO.firsts (l.take (k + 1)) [] = if EO.often (l.take k) (rd l k) = 0 then EO.firsts (l.take k) [] ++ [rd l k] else EO.firsts (l.take k) [] := by
  rw [EO.take_snoc l k h, EO.firsts_append]
  simp only [EO.firsts, EO.mem_firsts, List.not_mem_nil, false_or]
  by_cases hm : rd l k ∈ l.take k
  · rw [if_pos hm, if_neg (by rw [EO.often_zero]; simpa using hm)]
  · rw [if_neg hm, if_pos (by rw [EO.often_zero]; exact hm)]
theorem EO.often_step (l : List Int) (k : Nat) (h : k < l.length) (x : Int) : EO.often (l.take (k + 1)) x = EO.often (l.take k) x + if rd l k = x then 1 else 0 := by
  rw [EO.take_snoc l k h]; unfold EO.often; rw [List.countP_append]; simp [List.countP_cons]
theorem EO.often_le (l : List Int) (x : Int) : EO.often l x ≤ l.length := List.countP_le_length
theorem EO.firsts_le (l acc : List Int) : (EO.firsts l acc).length ≤ acc.length + l.length := by
  induction l generalizing acc with
  | nil => simp [EO.firsts]
  | cons x l ih => simp only [EO.firsts]; split <;> (have := ih acc; have := ih (acc ++ [x]); simp at *; omega)
/-- Block b is a map that tells how often each number is there. -/
structure EO.Map (P : Program) (K E : Nat) (w : World) (b n : Nat) (l : List Int) : Prop where
  mk :: (out : ∃ D : DataW Unit, w.ownsMap P K (plainElem P E) b n D ∧ ∀ x : Int, D.atKey (.int .i64 x) (.lit (.int .i64 0)) = .lit (.int .i64 (EO.often l x : Nat)))

theorem EO.lawK : Keyed Try.prog 2 := int_keyed Try.underlying2
theorem EO.zeroE (w : World) : (zeroValue 3).run Try.prog w = .ok (.int .i64 0) w := by kernel_rfl
theorem EO.Map.kept {P : Program} {K E : Nat} {w w' : World} {b n : Nat} {l : List Int} (h : EO.Map P K E w b n l) {row : Option Nat} (hg : w.grownBy w' row) (hne : some b ≠ row) : EO.Map P K E w' b n l := by
  obtain ⟨D, ho, hd⟩ := h.out
  exact ⟨D, ho.kept hg hne, hd⟩
theorem EO.Map.drewN {P : Program} {K E : Nat} {w : World} {b n : Nat} {l : List Int} (h : EO.Map P K E w b n l) (m : Nat) : EO.Map P K E (w.drewN m) b n l := by
  obtain ⟨D, ho, hd⟩ := h.out
  exact ⟨D, ho, hd⟩
/-- The map's block is no row's. -/
theorem EO.own_ne {P : Program} {K : Nat} {R : Value → Option (DataW Unit × List MemPlace)} {w : World} {b n : Nat} {D : DataW Unit} (h : w.ownsMap P K R b n D) {d : Kd Int} {e base : Nat} {ok : Nat → Prop} {v : Value} {xs : List Int} (ho : d.R e w base ok v xs) : some b ≠ v.ownBlock := by
  obtain ⟨es, clock, hb, _⟩ := h
  intro he
  obtain ⟨_, inner, ho2, _⟩ := ho
  obtain ⟨cells, hc⟩ := own_typed ho2 b he.symm
  rw [hc] at hb
  injection hb with hb
  cases hb
theorem EO.row_kept {k : IntKind} {e base b : Nat} {w w' : World} {v : Value} {xs : List Int} (h : (Kd.int k).R e w base (fun _ => True) v xs) (hg : w.grownBy w' (some b)) (hne : some b ≠ v.ownBlock) : (Kd.int k).R e w' base (fun _ => True) v xs :=
  Kd.R_mono (Kd.R_grown (ok := fun k => k ≠ b) (Kd.R_of_own (Kd.own_of_R h) (fun k hk e => hne (by rw [hk, e]))) hg (fun k hk he => hk (by injection he))) (fun _ _ => trivial)
theorem EO.within_true {a b c : Int} (h : impl_within.f a b c = some true) : b ≤ a ∧ a ≤ c := by
  unfold impl_within.f at h
  by_cases h1 : a ≥ b
  · rw [if_pos h1] at h
    simp at h
    exact ⟨h1, h⟩
  · rw [if_neg h1] at h
    simp at h
theorem EO.areWithin_true (l : List Int) (hl : l.length ≤ 128) : ∀ (k : Nat) (i : Int), impl_areWithin.l0 k 1000000 l (l.length : Int) i = some true → 0 ≤ i → ∀ j : Int, i ≤ j → j < l.length → -1000000 ≤ rd l j ∧ rd l j ≤ 1000000
  | 0, i, h, _ => by simp [impl_areWithin.l0] at h
  | k + 1, i, h, h0 => by
    intro j hij hj
    simp only [impl_areWithin.l0] at h
    rw [if_pos (by omega), if_pos h0, if_pos (by omega)] at h
    obtain ⟨t, ht, h⟩ := Option.bind_eq_some_iff.mp h
    cases t with
    | false => simp at h
    | true =>
      simp only [if_true] at h
      have e : wrap64 (i + 1) = i + 1 := by unfold wrap64; omega
      rw [e] at h
      have hb := EO.within_true ht
      rw [show wrap64 (-1000000) = -1000000 by unfold wrap64; omega] at hb
      by_cases hj2 : j = i
      · subst hj2; exact hb
      · exact EO.areWithin_true l hl k (i + 1) h (by omega) j (by omega) hj
theorem EO.bounds {k : Nat} {l : List Int} (h : impl_AreIntegers.f k l = some true) : (1 ≤ l.length ∧ l.length ≤ 128) ∧ ∀ j : Int, 0 ≤ j → j < l.length → -1000000 ≤ rd l j ∧ rd l j ≤ 1000000 := by
  unfold impl_AreIntegers.f at h
  obtain ⟨t, ht, h⟩ := Option.bind_eq_some_iff.mp h
  cases t with
  | false => simp at h
  | true =>
    simp only [if_true] at h
    obtain ⟨t, ht2, h⟩ := Option.bind_eq_some_iff.mp h
    have : t = true := by simpa using h
    subst this
    have hb := EO.within_true ht
    exact ⟨by omega, fun j h0 hj => EO.areWithin_true l (by omega) k 0 ht2 (Int.le_refl _) j h0 hj⟩
theorem EO.wf_of {x : Int} (h : -1000000 ≤ x ∧ x ≤ 1000000) : (Lit.int .i64 x).wf = true := WalkArith.wf_i64 (by omega)
theorem EO.same {D : DataW Unit} {k : Lit} {z : DataW Unit} {c n : Int} (h1 : D.atKey k z = .lit (.int .i64 c)) (h2 : D.atKey k z = .lit (.int .i64 n)) : c = n := by
  rw [h1] at h2
  injection h2 with h2
  injection h2
theorem EO.step {P : Program} {K E : Nat} {w : World} {b : Nat} {l : List Int} {j : Nat} {D : DataW Unit} (hj : j < l.length) (hw : (Lit.int .i64 (rd l (j : Int))).wf = true)
    (hd : ∀ x : Int, D.atKey (.int .i64 x) (.lit (.int .i64 0)) = .lit (.int .i64 (EO.often (l.take j) x : Nat)))
    (hown : w.ownsMap P K (plainElem P E) b (j + 1) (D.put (.int .i64 (rd l (j : Int))) (.lit (.int .i64 ((EO.often (l.take j) (rd l (j : Int)) : Nat) + 1))))) (hm : IsMap D) : EO.Map P K E w b (j + 1) (l.take (j + 1)) := by
  refine ⟨_, hown, fun x => ?_⟩
  rw [EO.often_step l j hj]
  by_cases e : x = rd l (j : Int)
  · subst e
    rw [atKey_put_same hm (by exact trivial), if_pos rfl]
    rfl
  · rw [atKey_put_other (by intro h; injection h with _ h; exact e h), hd x, if_neg (fun h => e h.symm)]
    rfl
theorem EO.mem_bounds {l : List Int} (h : ∀ j : Int, 0 ≤ j → j < l.length → -1000000 ≤ rd l j ∧ rd l j ≤ 1000000) (x : Int) (hx : x ∈ l) : -1000000 ≤ x ∧ x ≤ 1000000 := by
  obtain ⟨i, hi, e⟩ := List.getElem_of_mem hx
  have h2 := h (i : Int) (by omega) (by omega)
  have e2 : rd l (i : Int) = x := by simp [rd, List.getD_eq_getElem?_getD, List.getElem?_eq_getElem hi, e]
  rwa [e2] at h2
theorem EO.rd_mem {l : List Int} {j : Nat} (hj : j < l.length) : rd l (j : Int) ∈ l := by
  have : rd l (j : Int) = l[j] := by simp [rd, List.getD_eq_getElem?_getD, List.getElem?_eq_getElem hj]
  rw [this]; exact List.getElem_mem hj
theorem EO.drop_cons {l : List Int} {j : Nat} (hj : j < l.length) : l.drop j = rd l (j : Int) :: l.drop (j + 1) := by
  rw [List.drop_eq_getElem_cons hj]
  congr 1
  simp [rd, List.getD_eq_getElem?_getD, List.getElem?_eq_getElem hj]
set_option maxHeartbeats 8000000 in
set_option maxRecDepth 100000 in
theorem impl_EntropyOf.calls (k : Nat) (A0 : Option Addr) (c0 : Nat) (l0 : List Int) (r1 : Nat) (r2 : Bool) (w : World) (hr0 : Kd.C (Kd.int .i64) w A0 l0.length l0) (hc0 : l0.length ≤ c0) (h : impl_EntropyOf.f k l0 = some (r1, r2)) :
    Calls Try.prog 8 #[.slice A0 l0.length c0] w fun e w' => e = .returned (.tuple #[.float .f32 r1, .bool r2]) ∧ Below w.heap.size w w' := by
  unfold impl_EntropyOf.f at h
  obtain ⟨t, A20, h⟩ := Option.bind_eq_some_iff.mp h
  have HR0 := Aside0.mk hr0
  have HC0 := Aside0.mk hc0
  clear hr0 hc0
  cases t with
  | false =>
    have A2 := Aside0.mk A20
    clear A20
    obtain ⟨rfl, rfl⟩ : 0 = r1 ∧ false = r2 := by simpa using h
    clear h
    go_enter Try.func8, Try.ntmps8
    go_wp2_with (first | (go_at_call 36; (with_reducible refine (impl_AreIntegers.calls k _ _ l0 false _ ?side1 ?side2 A2.out).mono ?_); (case side1 => exact HR0.out); (case side2 => exact HC0.out); rintro e w' ⟨rfl, ⟨nd, rfl⟩⟩))
    go_ret2
    exact ⟨rfl, pw_below_drewN (Below.refl _ _) nd⟩
  | true =>
    simp only [if_true] at h
    have A2 := Aside0.mk A20
    have HL := Aside0.mk (EO.bounds A20).1
    have HW := Aside0.mk (EO.bounds A20).2
    clear A20
    have H := Aside0.mk h
    clear h
    have hmm := @run_makeMap Try.prog
    have HB := Aside0.mk (Below.refl w.heap.size w)
    go_enter Try.func8, Try.ntmps8
    go_wp2_with (first | (go_at_call 36; (with_reducible refine (impl_AreIntegers.calls k _ _ l0 true _ ?side1 ?side2 A2.out).mono ?_); (case side1 => exact HR0.out); (case side2 => exact HC0.out); rintro e w' ⟨rfl, ⟨nd, rfl⟩⟩) | fail)
    have HM := Aside0.mk (show EO.Map Try.prog 2 3 (((w.drewN nd).alloc (Obj.map #[] 0)).alloc (Obj.cells #[] 2)) w.heap.size 0 (l0.take 0) from
      EO.Map.kept (row := none) ⟨.map [], World.ownsMap_made (w.drewN nd) _ _ _, fun x => rfl⟩ (World.grownBy_alloc _ _ _) (by simp))
    have HO := Aside0.mk (show Kd.R (Kd.int .i64) 2 (((w.drewN nd).alloc (Obj.map #[] 0)).alloc (Obj.cells #[] 2)) w.heap.size (fun _ => True) (.slice (some ⟨w.heap.size + 1, 0, none⟩) 0 0) (EO.firsts (l0.take 0) []) from
      Kd.R_of_own (by have h_ := World.ownsRow_lit (base := w.heap.size) (e := 2) (size := 1) ((w.drewN nd).alloc (Obj.map #[] 0)) #[] 0 (by simp) (by simp [maxLen]) (by simp); simpa [EO.firsts, encs] using h_) (fun _ _ => trivial))
    have HB1 := Aside0.mk (show Below w.heap.size w (((w.drewN nd).alloc (Obj.map #[] 0)).alloc (Obj.cells #[] 2)) from below_alloc (below_alloc (pw_below_drewN HB.out nd) _) _)
    clear HB
    go_loopw [5, 19] (fun v5 v19 w' => ∃ j : Nat, v19 = .int .i64 (j : Int) ∧ Aside0 (j ≤ l0.length) ∧ Aside0 (Kd.R (Kd.int .i64) 2 w' w.heap.size (fun _ => True) v5 (EO.firsts (l0.take j) [])) ∧ Aside0 (EO.Map Try.prog 2 3 w' w.heap.size j (l0.take j)) ∧ Aside0 (Below w.heap.size w w')) (fun _ v19 _ => l0.length - (intOf v19).toNat)
    case atStart => exact ⟨0, rfl, ⟨Nat.zero_le _⟩, HO, HM, HB1⟩
    case round =>
      clear HM HO HB1 hmm
      obtain ⟨j, rfl, HJ, HO, HM, HB⟩ := hrel
      have hj := HJ.out
      have hl := HL.out
      by_cases hlt : j < l0.length
      · obtain ⟨ad, e_, hx⟩ := Kd.at_int HR0.out (j : Int) (by omega) (by omega)
        cases e_
        rw [Int.toNat_natCast] at hx
        replace hx := (HB.out.cell (World.block_lt_of_cell? w _ hx)).trans hx
        have hw := EO.wf_of (HW.out j (by omega) (by omega))
        have HW1 := Aside0.mk hw
        have HK := Aside0.mk (keyOf_int_mk (P := Try.prog) (k := 2) Try.underlying2 hw)
        have hC : (EO.often (l0.take j) (rd l0 (j : Int)) : Int) ≤ 128 := by have := EO.often_le (l0.take j) (rd l0 (j : Int)); have := List.length_take_le j l0; omega
        clear hw
        obtain ⟨D, hown, hat0⟩ := HM.out
        have HNE := Aside0.mk (EO.own_ne hown HO.out)
        have HIM := Aside0.mk hown.isMap
        have HD := Aside0.mk hat0
        have HOWN := Aside0.mk hown
        clear hat0 hown HM
        have hf := EO.firsts_le (l0.take j) []
        have hf2 := List.length_take_le j l0
        by_cases hz : EO.often (l0.take j) (rd l0 (j : Int)) = 0
        · have HZ := Aside0.mk hz
          have hzb : ((EO.often (l0.take j) (rd l0 (j : Int)) : Int) == 0) = true := by rw [hz]; rfl
          clear hz
          go_wp2_with (first
            | (at_lookup; refine wpList_lookup_own_int _ rfl _ _ 63 rfl 2 3 .i64 EO.lawK Try.underlying63 Try.underlying3 (EO.zeroE _) w.heap.size j D rfl HOWN.out _ _ rfl HK.out ?_; intro c hat hwc; have hce := EO.same hat (HD.out _); clear hat hwc; subst hce)
            | ((with_reducible refine gate_builtin (b := .append) (xs := #[.tmp 27, .tmp 29]) rfl ?_); at_builtin; refine Kd.R_append (Kd.int .i64) (w0 := w) w.heap.size rfl (.tmp 27) (.tmp 29) 22 2 (.int .i64 0) 8 rfl Try.underlying22 info2 rfl (by decide) (by omega) u5 (EO.firsts (l0.take j) []) (rd l0 (j : Int)) [.int .i64 (rd l0 (j : Int))] (fun _ => True) (fun _ => False) rfl rfl rfl (fun _ hk => hk.elim) (fun _ _ => trivial) HO.out HB.out (below_size HB.out) (by simp at hf; omega) ?_; intro v1 w1 ho hb hg hat; have n0_ := Aside0.mk (HOWN.out.kept hg HNE.out); have n1_ := Aside0.mk hb; have n2_ := Aside0.mk ho; clear HOWN HB HO ho hb hg hat; have HOWN := n0_; have HB := n1_; have HO := n2_; clear n0_ n1_ n2_)
            | (at_mapUpdate; refine wpList_mapUpdate_own _ rfl _ _ _ 63 rfl 2 3 EO.lawK Try.underlying63 _ w.heap.size j D rfl HOWN.out (by unfold maxLen; omega) _ _ _ rfl rfl HK.out _ [] (plainElem_int Try.underlying3 (WalkArith.wf_i64 (by omega))) ?_; intro w2 hown2 hgrow2; have n0_ := Aside0.mk (EO.row_kept HO.out hgrow2 (EO.own_ne HOWN.out HO.out)); have n1_ := Aside0.mk (Below.grown HB.out hgrow2 (below_size HB.out) (fun k_ hk_ => by cases hk_; exact Nat.le_refl _)); have n2_ := Aside0.mk (EO.step hlt HW1.out HD.out hown2 HIM.out); clear hown2 hgrow2 HB HO; have HB := n1_; have HO := n0_; have HM := n2_; clear n0_ n1_ n2_)
            | fail)
          go_roundw
          case rel => exact ⟨j + 1, by go_num, ⟨by omega⟩, ⟨by rw [EO.firsts_step l0 j hlt, if_pos HZ.out]; exact HO.out⟩, HM, HB⟩
          case measure => simp [intOf]; omega
        · have HZ := Aside0.mk hz
          have hzb : ((EO.often (l0.take j) (rd l0 (j : Int)) : Int) == 0) = false := by rw [beq_eq_false_iff_ne]; omega
          clear hz
          go_wp2_with (first
            | (at_lookup; refine wpList_lookup_own_int _ rfl _ _ 63 rfl 2 3 .i64 EO.lawK Try.underlying63 Try.underlying3 (EO.zeroE _) w.heap.size j D rfl HOWN.out _ _ rfl HK.out ?_; intro c hat hwc; have hce := EO.same hat (HD.out _); clear hat hwc; subst hce)
            | (at_mapUpdate; refine wpList_mapUpdate_own _ rfl _ _ _ 63 rfl 2 3 EO.lawK Try.underlying63 _ w.heap.size j D rfl HOWN.out (by unfold maxLen; omega) _ _ _ rfl rfl HK.out _ [] (plainElem_int Try.underlying3 (WalkArith.wf_i64 (by omega))) ?_; intro w2 hown2 hgrow2; have n0_ := Aside0.mk (EO.row_kept HO.out hgrow2 (EO.own_ne HOWN.out HO.out)); have n1_ := Aside0.mk (Below.grown HB.out hgrow2 (below_size HB.out) (fun k_ hk_ => by cases hk_; exact Nat.le_refl _)); have n2_ := Aside0.mk (EO.step hlt HW1.out HD.out hown2 HIM.out); clear hown2 hgrow2 HB HO; have HB := n1_; have HO := n0_; have HM := n2_; clear n0_ n1_ n2_)
            | fail)
          go_roundw
          case rel => exact ⟨j + 1, by go_num, ⟨by omega⟩, ⟨by rw [EO.firsts_step l0 j hlt, if_neg HZ.out]; exact HO.out⟩, HM, HB⟩
          case measure => simp [intOf]; omega
      · have e_ : j = l0.length := by omega
        subst e_
        have HO1 := Aside0.mk (show Kd.R (Kd.int .i64) 2 wr w.heap.size (fun _ => True) u5 (EO.firsts l0 []) from by have h_ := HO.out; rwa [List.take_length] at h_)
        have HM1 := Aside0.mk (show EO.Map Try.prog 2 3 wr w.heap.size l0.length l0 from by have h_ := HM.out; rwa [List.take_length] at h_)
        clear HO HM HJ hj
        obtain ⟨F, hF⟩ : ∃ F, F = EO.firsts l0 [] := ⟨_, rfl⟩
        have HF := Aside0.mk hF
        rw [← hF] at HO1
        have H2 := Aside0.mk (show EO.sum k l0 F 0 = some (r1, r2) by rw [hF]; exact H.out)
        clear hF H
        obtain ⟨A1, c1, e1⟩ := Kd.R_slice HO1.out
        subst e1
        go_wp2
        have HFL := Aside0.mk (show F.length ≤ 128 from by have := EO.firsts_le l0 []; rw [← HF.out] at this; simp at this; have := HL.out; omega)
        have HF2 := Aside0.mk (show ∀ x ∈ F, x ∈ l0 from by intro x hx; rw [HF.out, EO.mem_firsts] at hx; simpa using hx)
        clear HF
        go_loopw [8, 38] (fun v8 v38 w' => ∃ (i : Nat) (s : Nat), v38 = .int .i64 (i : Int) ∧ v8 = .float .f32 s ∧ Aside0 (i ≤ F.length) ∧ Aside0 (EO.sum k l0 (F.drop i) s = some (r1, r2)) ∧ Drawn0 wr w') (fun _ v38 _ => F.length - (intOf v38).toNat)
        case atStart => exact ⟨0, 0, rfl, rfl, ⟨Nat.zero_le _⟩, H2, Drawn0.refl _⟩
        case round =>
          clear H2
          obtain ⟨i, s, rfl, rfl, HI, HS, ⟨m, rfl⟩⟩ := hrel
          have hi := HI.out
          have hfl := HFL.out
          have hl2 := HL.out
          by_cases hlt2 : i < F.length
          · obtain ⟨ad, e_, hx⟩ := Kd.at_int (Kd.R_reads' HO1.out).2.2 (i : Int) (by omega) (by omega)
            cases e_
            rw [Int.toNat_natCast] at hx
            have hb_ := EO.mem_bounds HW.out _ (HF2.out _ (EO.rd_mem hlt2))
            have HK2 := Aside0.mk (keyOf_int_mk (P := Try.prog) (k := 2) Try.underlying2 (EO.wf_of hb_))
            clear hb_
            obtain ⟨D, hown, hat0⟩ := HM1.out
            have HD := Aside0.mk hat0
            have HOWN := Aside0.mk (show (wr.drewN m).ownsMap Try.prog 2 (plainElem Try.prog 3) w.heap.size l0.length D from hown)
            clear hat0 hown
            have hs := HS.out
            rw [EO.drop_cons hlt2] at hs
            unfold EO.sum at hs
            obtain ⟨p, hp, hs⟩ := Option.bind_eq_some_iff.mp hs
            obtain ⟨g, hg, hs⟩ := Option.bind_eq_some_iff.mp hs
            obtain ⟨x, hx2, hs⟩ := Option.bind_eq_some_iff.mp hs
            obtain ⟨y, hy, hs⟩ := Option.bind_eq_some_iff.mp hs
            have F1 := run_float_op (P := Try.prog) hp
            have F2 := run_float_op (P := Try.prog) hx2
            have F3 := run_float_op (P := Try.prog) hy
            have AG := Aside0.mk hg
            have HS1 := Aside0.mk hs
            clear hp hg hx2 hy hs HS
            go_wp2_with (first
              | (at_lookup; refine wpList_lookup_own_int _ rfl _ _ 63 rfl 2 3 .i64 EO.lawK Try.underlying63 Try.underlying3 (EO.zeroE _) w.heap.size l0.length D rfl HOWN.out _ _ rfl HK2.out ?_; intro c hat hwc; have hce := EO.same hat (HD.out _); clear hat hwc; subst hce)
              | (go_at_call 37; (with_reducible refine (impl_LogNumber.calls k p g _ AG.out).mono ?_); rintro e w' ⟨rfl, ⟨nd2, rfl⟩⟩)
              | fail)
            go_roundw
            case rel => exact ⟨i + 1, y, by go_num, rfl, ⟨by omega⟩, HS1, by repeat (first | exact Drawn0.refl _ | apply Drawn0.step)⟩
            case measure => simp [intOf]; omega
          · have e_ : i = F.length := by omega
            subst e_
            have hs := HS.out
            rw [List.drop_length] at hs
            unfold EO.sum at hs
            obtain ⟨q, hq, hs⟩ := Option.bind_eq_some_iff.mp hs
            have F1 := run_float_op (P := Try.prog) hq
            have AF := Aside0.mk hs
            clear hq hs HS
            go_wp2_with (first
              | (go_at_call 38; (with_reducible refine (impl_finite.calls q r1 r2 _ AF.out).mono ?_); rintro e w' ⟨rfl, ⟨nd2, rfl⟩⟩)
              | fail)
            go_ret2
            exact ⟨rfl, by repeat (first | exact HB.out | apply pw_below_drewN)⟩
end

end Go.Proofs.Ytpfbkkniljieoaa.PFnExactEntropyOf
