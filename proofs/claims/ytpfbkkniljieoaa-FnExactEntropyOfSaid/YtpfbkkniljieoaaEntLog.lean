/- The two logarithms tell the same. -/
import Derived.Test.YtpfbkkniljieoaaPFnExactEntropyOfx4
import Derived.Test.YtpfbkkniljieoaaEv
namespace Go.Proofs.Ytpfbkkniljieoaa.Pure
open Go.RowKit Go.Proofs.Ytpfbkkniljieoaa.PFnExactEntropyOf Go.Proofs.YtpfbkkniljieoaaW.PrintWords Go.Proofs.YtpfbkkniljieoaaW.PrintLast Go.Proofs.YtpfbkkniljieoaaW.Fl
theorem one_V : V .f64 4607182418800017408 1 := by decide +kernel
theorem odd_V : ∀ j : Nat, j < 14 → V .f64 (floatOfInt .f64 (2 * (j : Int) - 1)) (2 * (j : Rat) - 1) := by decide +kernel
theorem minus_V : ∀ j : Nat, j < 9 → V .f64 (floatOfInt .f64 (-(j : Int))) (-(j : Rat)) := by decide +kernel
theorem odd_step : ∀ j : Nat, j < 13 → floatBits .sub .f64 (floatOfInt .f64 (2 * ((j + 1 : Nat) : Int) - 1)) 4611686018427387904 = some (floatOfInt .f64 (2 * (j : Int) - 1)) := by decide +kernel
theorem minus_step : ∀ j : Nat, j < 8 → floatBits .sub .f64 (floatOfInt .f64 (-(j : Int))) 4607182418800017408 = some (floatOfInt .f64 (-((j + 1 : Nat) : Int))) := by decide +kernel
theorem log2_same {s u : Nat} {e : Nat} (he : e < 9) (hs : Bd .f64 s 1) (hu : Bd .f64 u 1) : ∀ (j n q : Nat), j < 14 → Bd .f64 q n → n + j ≤ 13 →
    ∃ r, Evt (fun k => spec_l01LogWide.l2 k (-(e : Int)) s u q (2 * (j : Int) - 1)) r ∧ Evt (fun k => impl_naturalLog.l2 k (floatOfInt .f64 (-(e : Int))) s u q (floatOfInt .f64 (2 * (j : Int) - 1))) r ∧ Bd .f64 r 34 := by
  intro j
  induction j with
  | zero =>
    intro n q _ hq hn
    obtain ⟨t1, h1, b1⟩ := mul_Bd hs hq (by omega)
    obtain ⟨t2, h2, b2⟩ := mul_Bd (M := 2) (show Bd .f64 4611686018427387904 2 from ⟨2, by decide +kernel, by decide +kernel, by decide +kernel⟩) b1 (by omega)
    have be : Bd .f64 (floatOfInt .f64 (-(e : Int))) 8 := by
      refine ⟨_, minus_V e he, ?_, ?_⟩
      · have : (0 : Rat) ≤ (e : Rat) := Rat.natCast_nonneg
        have h8 : ((8 : Nat) : Rat) = 8 := rfl
        grind
      · have : (e : Rat) ≤ ((8 : Nat) : Rat) := Rat.natCast_le_natCast.2 (by omega)
        grind
    obtain ⟨t3, h3, b3⟩ := mul_Bd be (show Bd .f64 4604418534313441775 1 from ⟨_, V.of (k := .f64) (a := (6243314768165359 : Rat)/9007199254740992) (by decide +kernel) (by decide +kernel), by decide +kernel, by decide +kernel⟩) (by omega)
    obtain ⟨t4, h4, b4⟩ := add_Bd b2 b3 (by omega)
    refine ⟨t4, Evt.succ ?_, Evt.succ ?_, b4.mono (by omega)⟩
    · simp only [spec_l01LogWide.l2]
      exact Evt.neg (by omega) (Evt.cbind h1 (Evt.cbind h2 (Evt.cbind h3 (Evt.cbind h4 (Evt.pure _)))))
    · simp only [impl_naturalLog.l2]
      refine Evt.neg ?_ (Evt.cbind h1 (Evt.cbind h2 (Evt.cbind h3 (Evt.cbind h4 (Evt.pure _)))))
      rw [fge_V (odd_V 0 (by omega)) one_V]; decide +kernel
  | succ j ih =>
    intro n q hj hq hn
    have hjr : (0 : Rat) ≤ (j : Rat) := Rat.natCast_nonneg
    have hc : ((j + 1 : Nat) : Rat) = (j : Rat) + 1 := by rw [Rat.natCast_add]; rfl
    have hv := odd_V (j + 1) hj
    rw [hc] at hv
    obtain ⟨t1, h1, b1⟩ := div_Bd (M := 1) (n := 1) (show Bd .f64 4607182418800017408 1 from ⟨1, one_V, by decide +kernel, by decide +kernel⟩) hv (by rw [show ((1 : Nat) : Rat) = 1 from rfl]; grind) (by omega)
    obtain ⟨t2, h2, b2⟩ := mul_Bd hu hq (by omega)
    obtain ⟨t3, h3, b3⟩ := add_Bd b1 b2 (by omega)
    obtain ⟨r, hr1, hr2, hb⟩ := ih (n + 1) t3 (by omega) (b3.mono (by omega)) (by omega)
    refine ⟨r, Evt.succ ?_, Evt.succ ?_, hb⟩
    · simp only [spec_l01LogWide.l2]
      refine Evt.pos (by omega) (Evt.cbind h1 (Evt.cbind h2 (Evt.cbind h3 ?_)))
      rw [wrap64_id (by omega) (by omega), show 2 * ((j + 1 : Nat) : Int) - 1 - 2 = 2 * (j : Int) - 1 by omega]
      exact hr1
    · simp only [impl_naturalLog.l2]
      refine Evt.pos ?_ (Evt.cbind h1 (Evt.cbind h2 (Evt.cbind h3 (Evt.cbind (odd_step j (by omega)) hr2))))
      rw [fge_V hv one_V]
      simp only [decide_eq_true_eq]; grind
theorem rep_half3 : Rep FloatKind.f64.format (3 / 2) := ⟨3, -1, by decide, by decide, by decide +kernel⟩
theorem log1_same : ∀ (i e y : Nat) (a : Rat), V .f64 y a → pw (-(i : Int)) ≤ a → a ≤ 3 / 2 → e + i ≤ 8 →
    ∃ r, Evt (fun k => spec_l01LogWide.l1 k y (-(e : Int))) r ∧ Evt (fun k => impl_naturalLog.l1 k y (floatOfInt .f64 (-(e : Int)))) r ∧ Bd .f64 r 34 := by
  have v34 : V .f64 4604930618986332160 (3 / 4) := by decide +kernel
  have v2 : V .f64 4611686018427387904 2 := by decide +kernel
  intro i
  induction i with
  | zero =>
    intro e y a hy h1 h2 he
    have h1' : (1 : Rat) ≤ a := by rwa [show -((0 : Nat) : Int) = 0 from rfl, pw_zero] at h1
    have c1 : ((1 : Nat) : Rat) = 1 := rfl
    obtain ⟨t1, r1, g1, w1, n1⟩ := sub_V hy one_V (fits_nat .f64 (M := 1) (by omega) (by grind) (by grind))
    obtain ⟨t2, r2, g2, w2, n2⟩ := add_V hy one_V (fits_nat .f64 (M := 3) (by omega) (by rw [show ((3 : Nat) : Rat) = 3 from rfl]; grind) (by rw [show ((3 : Nat) : Rat) = 3 from rfl]; grind))
    have b1 := n1.bd (M := 1) (by omega) (by grind) (by grind)
    have g := n2.ge (M := ((1 : Nat) : Rat)) (rep_nat .f64 (by omega)) (by grind)
    obtain ⟨t3, g3, b3⟩ := div_Bd (M := 1) (n := 1) ⟨r1, w1, b1⟩ w2 (by grind) (by omega)
    obtain ⟨t4, g4, b4⟩ := mul_Bd b3 b3 (by omega)
    obtain ⟨r, hr1, hr2, hb⟩ := log2_same (e := e) (by omega) (b3.mono (by omega)) (b4.mono (by omega)) 13 0 0 (by omega) ⟨0, V_zero _, by decide +kernel, by decide +kernel⟩ (by omega)
    refine ⟨r, Evt.succ ?_, Evt.succ ?_, hb⟩
    · simp only [spec_l01LogWide.l1]
      refine Evt.neg ?_ (Evt.cbind g1 (Evt.cbind g2 (Evt.cbind g3 (Evt.cbind g4 hr1))))
      rw [flt_V hy v34]; simp only [decide_eq_true_eq]; grind
    · simp only [impl_naturalLog.l1]
      refine Evt.neg ?_ (Evt.cbind g1 (Evt.cbind g2 (Evt.cbind g3 (Evt.cbind g4 hr2))))
      rw [flt_V hy v34]; simp only [decide_eq_true_eq]; grind
  | succ i ih =>
    intro e y a hy h1 h2 he
    have hp : 0 < pw (-((i + 1 : Nat) : Int)) := pw_pos _
    by_cases hlt : a < 3 / 4
    · have e2 : pw (-(i : Int)) = pw (-((i + 1 : Nat) : Int)) * 2 := by
        rw [show -(i : Int) = -((i + 1 : Nat) : Int) + 1 by omega, pw_add]; rfl
      have c2 : ((2 : Nat) : Rat) = 2 := rfl
      obtain ⟨t1, r1, g1, w1, n1⟩ := mul_V hy v2 (fits_nat .f64 (M := 2) (by omega) (by grind) (by grind))
      have k1 := n1.ge (M := pw (-(i : Int))) ⟨1, -(i : Int), by decide, by rw [show FloatKind.f64.format.leastPlace = -1074 by decide]; omega, by rw [show ((1 : Int) : Rat) = 1 from rfl, Rat.one_mul]⟩ (by grind)
      have k2 := n1.le rep_half3 (by grind)
      obtain ⟨r, hr1, hr2, hb⟩ := ih (e + 1) t1 r1 w1 k1 k2 (by omega)
      refine ⟨r, Evt.succ ?_, Evt.succ ?_, hb⟩
      · simp only [spec_l01LogWide.l1]
        refine Evt.pos ?_ (Evt.cbind g1 ?_)
        · rw [flt_V hy v34]; simpa only [decide_eq_true_eq] using hlt
        · rw [wrap64_id (by omega) (by omega), show -(e : Int) - 1 = -((e + 1 : Nat) : Int) by omega]
          exact hr1
      · simp only [impl_naturalLog.l1]
        refine Evt.pos ?_ (Evt.cbind g1 (Evt.cbind (minus_step e (by omega)) hr2))
        rw [flt_V hy v34]; simpa only [decide_eq_true_eq] using hlt
    · have c1 : ((1 : Nat) : Rat) = 1 := rfl
      obtain ⟨t1, r1, g1, w1, n1⟩ := sub_V hy one_V (fits_nat .f64 (M := 1) (by omega) (by grind) (by grind))
      obtain ⟨t2, r2, g2, w2, n2⟩ := add_V hy one_V (fits_nat .f64 (M := 3) (by omega) (by rw [show ((3 : Nat) : Rat) = 3 from rfl]; grind) (by rw [show ((3 : Nat) : Rat) = 3 from rfl]; grind))
      have b1 := n1.bd (M := 1) (by omega) (by grind) (by grind)
      have g := n2.ge (M := ((1 : Nat) : Rat)) (rep_nat .f64 (by omega)) (by grind)
      obtain ⟨t3, g3, b3⟩ := div_Bd (M := 1) (n := 1) ⟨r1, w1, b1⟩ w2 (by grind) (by omega)
      obtain ⟨t4, g4, b4⟩ := mul_Bd b3 b3 (by omega)
      obtain ⟨r, hr1, hr2, hb⟩ := log2_same (e := e) (by omega) (b3.mono (by omega)) (b4.mono (by omega)) 13 0 0 (by omega) ⟨0, V_zero _, by decide +kernel, by decide +kernel⟩ (by omega)
      refine ⟨r, Evt.succ ?_, Evt.succ ?_, hb⟩
      · simp only [spec_l01LogWide.l1]
        refine Evt.neg ?_ (Evt.cbind g1 (Evt.cbind g2 (Evt.cbind g3 (Evt.cbind g4 hr1))))
        rw [flt_V hy v34]; simpa only [decide_eq_true_eq] using hlt
      · simp only [impl_naturalLog.l1]
        refine Evt.neg ?_ (Evt.cbind g1 (Evt.cbind g2 (Evt.cbind g3 (Evt.cbind g4 hr2))))
        rw [flt_V hy v34]; simpa only [decide_eq_true_eq] using hlt
/-- The logarithms of a number from 2^-7 to 1. -/
theorem log_same {p : Nat} {a : Rat} (hp : V .f32 p a) (h1 : pw (-7) ≤ a) (h2 : a ≤ 1) : ∃ r, Evt (fun k => spec_l01Log.f k p) r ∧ Evt (fun k => impl_LogNumber.f k p) r ∧ Bd .f32 r 34 := by
  obtain ⟨y, hy, vy⟩ := wide_V hp
  have hpos := pw_pos (-7)
  obtain ⟨r, hr1, hr2, hb⟩ := log1_same 7 0 y a vy (by simpa using h1) (by grind) (by omega)
  obtain ⟨q, hq, hqb⟩ := conv_Bd (s := .f64) (t := .f32) (by decide) hb (by omega)
  have v0 := V_zero .f64
  have v0' := V_zero .f32
  have v15 : V .f64 4609434218613702656 (3 / 2) := by decide +kernel
  have vmax : V .f64 9218868437227405311 (((2 ^ 53 - 1 : Nat) : Rat) * pw 971) := by decide +kernel
  have hn : fne .f64 y y = false := (V_self vy).2
  have big : (1 : Rat) ≤ ((2 ^ 53 - 1 : Nat) : Rat) * pw 971 := by decide +kernel
  refine ⟨q, ?_, ?_, hqb⟩
  · unfold spec_l01Log.f
    refine Evt.cbind hy (Evt.bind (a := r) ?_ ?_)
    · unfold spec_l01LogWide.f
      refine Evt.neg (by rw [hn]; decide) ?_
      rw [flt_V vy v0, decide_eq_false (by grind)]
      refine Evt.succ ?_
      simp only [spec_l01LogWide.j0]
      refine Evt.neg (by decide) (Evt.neg ?_ (Evt.cbind (a := false) ?_ (Evt.neg (by decide) (Evt.succ ?_))))
      · rw [feq_V vy v0]; simp only [decide_eq_true_eq]; grind
      · unfold math_IsInf.f
        rw [if_neg (by decide), if_neg (by decide), fgt_V vy vmax, decide_eq_false (by grind)]
      · simp only [spec_l01LogWide.l0]
        refine Evt.neg ?_ hr1
        rw [fge_V vy v15]; simp only [decide_eq_true_eq]; grind
    · unfold spec_l01Narrow.f
      exact Evt.const (by rw [hq]; rfl)
  · unfold impl_LogNumber.f
    refine Evt.neg ?_ (Evt.neg ?_ ?_)
    · rw [feq_V hp v0']; simp only [decide_eq_true_eq]; grind
    · rw [flt_V hp v0']; simp only [decide_eq_true_eq]; grind
    · rw [(V_self hp).2]
      refine Evt.succ ?_
      simp only [impl_LogNumber.j0]
      refine Evt.neg (by decide) (Evt.cbind (a := true) ?_ (Evt.pos rfl (Evt.cbind hy (Evt.bind (a := r) ?_ (Evt.const (by rw [hq]; rfl))))))
      · unfold impl_IsFinite.f ffin
        obtain ⟨z, hz, hz2⟩ := ffin_V hp
        rw [hz]; simp only [hz2]
      · unfold impl_naturalLog.f
        refine Evt.succ ?_
        simp only [impl_naturalLog.l0]
        refine Evt.neg ?_ ?_
        · rw [fge_V vy v15]; simp only [decide_eq_true_eq]; grind
        · have : floatOfInt .f64 (-((0 : Nat) : Int)) = 0 := by decide +kernel
          rw [this] at hr2
          exact hr2
end Go.Proofs.Ytpfbkkniljieoaa.Pure
