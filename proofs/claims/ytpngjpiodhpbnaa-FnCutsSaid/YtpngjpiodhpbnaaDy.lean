/- Exact arithmetic on floats that stand for small multiples of a power of two. -/
import Derived.Test.YtpngjpiodhpbnaaEv
namespace Go.Proofs.YtpngjpiodhpbnaaW.Fl
open Ieee Go Go.RowKit Go.Proofs.YtpngjpiodhpbnaaW.PrintWords
/-- x stands for m divided by 2 to the power of e. -/
def Dy (k : FloatKind) (e : Nat) (x : Nat) (m : Int) : Prop := V k x ((m : Rat) * pw (-(e : Int)))
theorem least_le (k : FloatKind) : k.format.leastPlace ≤ -100 := by cases k <;> decide
theorem rep_dy (k : FloatKind) {e : Nat} (he : e ≤ 100) {m : Int} (hm : m.natAbs ≤ 2 ^ 24) : Rep k.format ((m : Rat) * pw (-(e : Int))) := by
  refine ⟨m, -(e : Int), ?_, ?_, rfl⟩
  · exact Nat.le_trans hm (Nat.pow_le_pow_right (by decide) (by cases k <;> decide))
  · have := least_le k; omega
theorem pw_neg_le (e : Nat) : pw (-(e : Int)) ≤ 1 := by
  have := pw_le (show -(e : Int) ≤ 0 by omega)
  rwa [pw_zero] at this
theorem abs_dy {m : Int} {M : Nat} (hm : m.natAbs ≤ M) (e : Nat) : (m : Rat) * pw (-(e : Int)) ≤ (M : Rat) ∧ -(M : Rat) ≤ (m : Rat) * pw (-(e : Int)) := by
  have h1 : (m : Rat) ≤ (M : Rat) := by
    have : m ≤ (M : Int) := by omega
    exact Rat.intCast_le_intCast.2 this
  have h2 : -(M : Rat) ≤ (m : Rat) := by
    have : -(M : Int) ≤ m := by omega
    have := Rat.intCast_le_intCast.2 this
    rw [Rat.intCast_neg] at this
    exact this
  have p0 := pw_pos (-(e : Int))
  have p1 := pw_neg_le e
  have hM : (0 : Rat) ≤ (M : Rat) := Rat.natCast_nonneg
  have a1 := Rat.mul_le_mul_of_nonneg_right h1 (Rat.le_of_lt p0)
  have a2 := Rat.mul_le_mul_of_nonneg_right h2 (Rat.le_of_lt p0)
  have a3 := Rat.mul_le_mul_of_nonneg_left p1 hM
  constructor <;> grind
theorem fits_dy (k : FloatKind) {m : Int} (hm : m.natAbs ≤ 2 ^ 24) (e : Nat) : FitsS k.format ((m : Rat) * pw (-(e : Int))) :=
  fits_nat k (M := 2 ^ 24) (Nat.le_refl _) (abs_dy hm e).1 (abs_dy hm e).2
section
variable {k : FloatKind} {e : Nat} {x y : Nat} {m n : Int}
theorem Dy.add (hx : Dy k e x m) (hy : Dy k e y n) (he : e ≤ 100) (h : (m + n).natAbs ≤ 2 ^ 24) : ∃ r, floatBits .add k x y = some r ∧ Dy k e r (m + n) := by
  have hv : (m : Rat) * pw (-(e : Int)) + (n : Rat) * pw (-(e : Int)) = ((m + n : Int) : Rat) * pw (-(e : Int)) := by rw [Rat.intCast_add]; grind
  obtain ⟨r, c, h1, h2, h3⟩ := add_V hx hy (by rw [hv]; exact fits_dy k h e)
  rw [hv] at h3
  rw [h3.exact (rep_dy k he h)] at h2
  exact ⟨r, h1, h2⟩
theorem Dy.sub (hx : Dy k e x m) (hy : Dy k e y n) (he : e ≤ 100) (h : (m - n).natAbs ≤ 2 ^ 24) : ∃ r, floatBits .sub k x y = some r ∧ Dy k e r (m - n) := by
  have hv : (m : Rat) * pw (-(e : Int)) - (n : Rat) * pw (-(e : Int)) = ((m - n : Int) : Rat) * pw (-(e : Int)) := by rw [Rat.intCast_sub]; grind
  obtain ⟨r, c, h1, h2, h3⟩ := sub_V hx hy (by rw [hv]; exact fits_dy k h e)
  rw [hv] at h3
  rw [h3.exact (rep_dy k he h)] at h2
  exact ⟨r, h1, h2⟩
theorem Dy.mul {f : Nat} (hx : Dy k e x m) (hy : Dy k f y n) (he : e + f ≤ 100) (h : (m * n).natAbs ≤ 2 ^ 24) : ∃ r, floatBits .mul k x y = some r ∧ Dy k (e + f) r (m * n) := by
  have hv : (m : Rat) * pw (-(e : Int)) * ((n : Rat) * pw (-(f : Int))) = ((m * n : Int) : Rat) * pw (-((e + f : Nat) : Int)) := by
    rw [Rat.intCast_mul, show -((e + f : Nat) : Int) = -(e : Int) + -(f : Int) by omega, pw_add]; grind
  obtain ⟨r, c, h1, h2, h3⟩ := mul_V hx hy (by rw [hv]; exact fits_dy k h _)
  rw [hv] at h3
  rw [h3.exact (rep_dy k he h)] at h2
  exact ⟨r, h1, h2⟩
/-- A quotient by a power of two. -/
theorem Dy.quo (j : Nat) (hx : Dy k e x m) (hy : Dy k 0 y (2 ^ j : Nat)) (he : e + j ≤ 100) (h : m.natAbs ≤ 2 ^ 24) : ∃ r, floatBits .quo k x y = some r ∧ Dy k (e + j) r m := by
  have h0 : ((2 ^ j : Nat) : Int) * (1 : Int) = (2 ^ j : Nat) := by omega
  have hp : (((2 ^ j : Nat) : Int) : Rat) * pw (-((0 : Nat) : Int)) = pw (j : Int) := by
    rw [show -((0 : Nat) : Int) = 0 from rfl, pw_zero, Rat.mul_one, pw_nat]; rfl
  have hy' : V k y (pw (j : Int)) := by unfold Dy at hy; rwa [hp] at hy
  have hj := pw_pos (j : Int)
  have hv : (m : Rat) * pw (-(e : Int)) / pw (j : Int) = (m : Rat) * pw (-((e + j : Nat) : Int)) := by
    rw [show -((e + j : Nat) : Int) = -(e : Int) - (j : Int) by omega]
    have e1 : pw (-(e : Int)) = pw (-(e : Int) - (j : Int)) * pw (j : Int) := by rw [← pw_add]; congr 1; omega
    rw [e1, ← Rat.mul_assoc]
    exact Rat.mul_div_cancel (by grind)
  obtain ⟨r, c, h1, h2, h3⟩ := div_V hx hy' (by grind) (by rw [hv]; exact fits_dy k h _)
  rw [hv] at h3
  rw [h3.exact (rep_dy k he h)] at h2
  exact ⟨r, h1, h2⟩
theorem Dy.up (j : Nat) (hx : Dy k e x m) : Dy k (e + j) x (m * (2 ^ j : Nat)) := by
  unfold Dy at *
  have hv : ((m * (2 ^ j : Nat) : Int) : Rat) * pw (-((e + j : Nat) : Int)) = (m : Rat) * pw (-(e : Int)) := by
    rw [Rat.intCast_mul, Rat.mul_assoc]
    congr 1
    have : (((2 ^ j : Nat) : Int) : Rat) = pw (j : Int) := by rw [pw_nat]; rfl
    rw [this, ← pw_add]; congr 1; omega
  rwa [hv]
theorem dy_int (k : FloatKind) (n : Int) (h : n.natAbs ≤ 2 ^ 24) : Dy k 0 (floatOfInt k n) n := by
  have e1 : (n : Rat) * pw (-((0 : Nat) : Int)) = (n : Rat) := by rw [show -((0 : Nat) : Int) = 0 from rfl, pw_zero, Rat.mul_one]
  obtain ⟨c, h1, h2⟩ := ofInt_V k n (by rw [← e1]; exact fits_dy k h 0)
  unfold Dy
  rw [e1]
  rw [← e1] at h2
  rw [h2.exact (rep_dy k (by omega) h), e1] at h1
  exact h1
theorem dy_zero (k : FloatKind) (e : Nat) : Dy k e 0 0 := by
  unfold Dy
  rw [show ((0 : Int) : Rat) = 0 from rfl, Rat.zero_mul]; exact V_zero k
theorem Dy.wide (hx : Dy .f32 e x m) : ∃ r, floatToFloatBits .f32 x .f64 = some r ∧ Dy .f64 e r m := wide_V hx
theorem Dy.inj (hx : Dy k e x m) (hy : Dy k e x n) : m = n := by
  have h := V.eq hx hy
  have h1 := mul_pw_le.1 (show (m : Rat) * pw (-(e : Int)) ≤ (n : Rat) * pw (-(e : Int)) by rw [h]; exact Rat.le_refl)
  have h2 := mul_pw_le.1 (show (n : Rat) * pw (-(e : Int)) ≤ (m : Rat) * pw (-(e : Int)) by rw [h]; exact Rat.le_refl)
  have := Rat.intCast_le_intCast.1 h1
  have := Rat.intCast_le_intCast.1 h2
  omega
theorem dy_lt : (m : Rat) * pw (-(e : Int)) < (n : Rat) * pw (-(e : Int)) ↔ m < n := by rw [mul_pw_lt, Rat.intCast_lt_intCast]
theorem dy_le : (m : Rat) * pw (-(e : Int)) ≤ (n : Rat) * pw (-(e : Int)) ↔ m ≤ n := by rw [mul_pw_le, Rat.intCast_le_intCast]
theorem Dy.flt (hx : Dy k e x m) (hy : Dy k e y n) : flt k x y = decide (m < n) := by rw [flt_V hx hy]; exact decide_eq_decide.2 dy_lt
theorem Dy.fgt (hx : Dy k e x m) (hy : Dy k e y n) : fgt k x y = decide (n < m) := by rw [fgt_V hx hy]; exact decide_eq_decide.2 dy_lt
theorem Dy.fle (hx : Dy k e x m) (hy : Dy k e y n) : fle k x y = decide (m ≤ n) := by rw [fle_V hx hy]; exact decide_eq_decide.2 dy_le
theorem Dy.fge (hx : Dy k e x m) (hy : Dy k e y n) : fge k x y = decide (n ≤ m) := by rw [fge_V hx hy]; exact decide_eq_decide.2 dy_le
theorem Dy.fne_self (hx : Dy k e x m) : fne k x x = false := (V_self hx).2
end
end Go.Proofs.YtpngjpiodhpbnaaW.Fl
