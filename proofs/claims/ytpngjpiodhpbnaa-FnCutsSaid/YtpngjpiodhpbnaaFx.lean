/- What the operations on floats give, told by the numbers that the words stand for. -/
import Derived.Test.YtpngjpiodhpbnaaFl
import Derived.Test.YtpngjpiodhpbnaaWFloat
import Derived.Laws.FloatBits
namespace Go.Proofs.YtpngjpiodhpbnaaW.Fl
open Ieee Go Go.Proofs.YtpngjpiodhpbnaaW.PrintWords
/-- The word x of the kind stands for the number a. -/
def V (k : FloatKind) (x : Nat) (a : Rat) : Prop := val k.format x = some a ∧ x < 2 ^ k.format.width
theorem two_le (k : FloatKind) : 2 ≤ k.format.exponentBits := by cases k <;> decide
theorem V.of {k : FloatKind} {x : Nat} {a : Rat} (h : val k.format x = some a) (hx : x < 2 ^ k.format.width) : V k x a := ⟨h, hx⟩
instance (k : FloatKind) (x : Nat) (a : Rat) : Decidable (V k x a) := inferInstanceAs (Decidable (_ ∧ _))
theorem V.eq {k : FloatKind} {x : Nat} {a b : Rat} (h : V k x a) (h2 : V k x b) : a = b := Option.some.inj (h.1.symm.trans h2.1)
theorem V.rep {k : FloatKind} {x : Nat} {a : Rat} (h : V k x a) : Rep k.format a := rep_val _ h.1
theorem V_zero (k : FloatKind) : V k 0 0 := by cases k <;> decide +kernel
section
variable {k : FloatKind} {x y : Nat} {a b : Rat}
theorem add_V (hx : V k x a) (hy : V k y b) (h : FitsS k.format (a + b)) : ∃ r c, floatBits .add k x y = some r ∧ V k r c ∧ RN k.format (a + b) c := by
  obtain ⟨r, c, h1, h2, h3⟩ := add_rn k.format (two_le k) hx.1 hy.1 h
  exact ⟨r, c, h1, ⟨h2, Format.add_lt _ h1⟩, h3⟩
theorem sub_V (hx : V k x a) (hy : V k y b) (h : FitsS k.format (a - b)) : ∃ r c, floatBits .sub k x y = some r ∧ V k r c ∧ RN k.format (a - b) c := by
  obtain ⟨r, c, h1, h2, h3⟩ := sub_rn k.format (two_le k) hx.1 hy.1 h
  exact ⟨r, c, h1, ⟨h2, Format.sub_lt _ h1⟩, h3⟩
theorem mul_V (hx : V k x a) (hy : V k y b) (h : FitsS k.format (a * b)) : ∃ r c, floatBits .mul k x y = some r ∧ V k r c ∧ RN k.format (a * b) c := by
  obtain ⟨r, c, h1, h2, h3⟩ := mul_rn k.format (two_le k) hx.1 hy.1 h
  exact ⟨r, c, h1, ⟨h2, Format.mul_lt _ h1⟩, h3⟩
theorem div_V (hx : V k x a) (hy : V k y b) (hb : b ≠ 0) (h : FitsS k.format (a / b)) : ∃ r c, floatBits .quo k x y = some r ∧ V k r c ∧ RN k.format (a / b) c := by
  obtain ⟨r, c, h1, h2, h3⟩ := div_rn k.format (two_le k) hx.1 hy.1 hb h
  exact ⟨r, c, h1, ⟨h2, Format.div_lt _ h1⟩, h3⟩
theorem neg_V (hx : V k x a) : V k (Op.negFloat k x) (-a) := by
  refine ⟨val_opp _ hx.1 hx.2, ?_⟩
  have h2 : 2 ^ (k.format.exponentBits + k.format.fractionBits) < 2 ^ k.format.width := Nat.pow_lt_pow_right (by decide) (by unfold Format.width; omega)
  exact Nat.xor_lt_two_pow hx.2 h2
theorem ofInt_V (k : FloatKind) (n : Int) (h : FitsS k.format (n : Rat)) : ∃ c, V k (floatOfInt k n) c ∧ RN k.format (n : Rat) c := by
  obtain ⟨c, h1, h2⟩ := int_rn k.format (two_le k) n h
  have h3 : floatOfInt k n < 2 ^ k.format.width := Format.write_lt k.format (.number (n < 0) n.natAbs 0)
  exact ⟨c, ⟨h1, h3⟩, h2⟩
theorem conv_V {s t : FloatKind} (hst : s ≠ t) {x : Nat} {a : Rat} (hx : V s x a) (h : FitsS t.format a) : ∃ r c, floatToFloatBits s x t = some r ∧ V t r c ∧ RN t.format a c := by
  obtain ⟨sg, m, i, h1, c, h2, h3⟩ := conv_rn t.format (two_le t) hx.1 h
  refine ⟨_, c, ?_, ⟨h2, Format.write_lt _ _⟩, h3⟩
  unfold floatToFloatBits
  rw [if_neg hst]
  unfold FloatKind.decode FloatKind.encode
  rw [h1]
  simp only []
  rw [if_neg (by rw [val_isInf h2]; decide)]
theorem feq_V (hx : V k x a) (hy : V k y b) : feq k x y = decide (a = b) := by
  unfold feq; rw [order_val hx.1 hy.1]
  by_cases h : a < b
  · have : a ≠ b := by grind
    simp [h, this]
  · by_cases h2 : a = b <;> simp [h, h2]
theorem fne_V (hx : V k x a) (hy : V k y b) : fne k x y = decide (a ≠ b) := by
  unfold fne; rw [order_val hx.1 hy.1]
  by_cases h : a < b
  · have : a ≠ b := by grind
    simp [h, this]
  · by_cases h2 : a = b <;> simp [h, h2]
theorem flt_V (hx : V k x a) (hy : V k y b) : flt k x y = decide (a < b) := by
  unfold flt; rw [order_val hx.1 hy.1]
  by_cases h : a < b
  · simp [h]
  · by_cases h2 : a = b <;> simp [h, h2]
theorem fle_V (hx : V k x a) (hy : V k y b) : fle k x y = decide (a ≤ b) := by
  unfold fle; rw [order_val hx.1 hy.1]
  by_cases h : a < b
  · have : a ≤ b := by grind
    simp [h, this]
  · by_cases h2 : a = b
    · simp [h2]
    · have : ¬ a ≤ b := by grind
      simp [h, h2, this]
theorem fgt_V (hx : V k x a) (hy : V k y b) : fgt k x y = decide (b < a) := by
  unfold fgt; rw [order_val hx.1 hy.1]
  by_cases h : a < b
  · have : ¬ b < a := by grind
    simp [h, this]
  · by_cases h2 : a = b
    · simp [h2]
    · have : b < a := by grind
      simp [h, h2, this]
theorem fge_V (hx : V k x a) (hy : V k y b) : fge k x y = decide (b ≤ a) := by
  unfold fge; rw [order_val hx.1 hy.1]
  by_cases h : a < b
  · have : ¬ b ≤ a := by grind
    simp [h, this]
  · by_cases h2 : a = b
    · simp [h2]
    · have : b ≤ a := by grind
      simp [h, h2, this]
end
/-! ### Loose bounds by whole numbers -/
theorem rep_nat (k : FloatKind) {M : Nat} (h : M ≤ 2 ^ 24) : Rep k.format (M : Rat) := by
  refine ⟨(M : Int), 0, ?_, by cases k <;> decide, by rw [pw_zero, Rat.mul_one]; rfl⟩
  have : 2 ^ 24 ≤ 2 ^ (k.format.fractionBits + 1) := Nat.pow_le_pow_right (by decide) (by cases k <;> decide)
  simp; omega
theorem top_nat (k : FloatKind) {M : Nat} (h : M ≤ 2 ^ 24) : (M : Rat) < pw (topOf k.format) := by
  have h1 : (M : Rat) ≤ ((2 ^ 24 : Nat) : Rat) := Rat.natCast_le_natCast.2 h
  have h2 : ((2 ^ 24 : Nat) : Rat) < pw (topOf k.format) := by cases k <;> decide +kernel
  grind
/-- The number lies between -M and M. -/
def Bd (k : FloatKind) (x : Nat) (M : Nat) : Prop := ∃ a, V k x a ∧ a ≤ (M : Rat) ∧ -(M : Rat) ≤ a
theorem fits_nat (k : FloatKind) {v : Rat} {M : Nat} (hM : M ≤ 2 ^ 24) (h1 : v ≤ (M : Rat)) (h2 : -(M : Rat) ≤ v) : FitsS k.format v :=
  fits_of_abs (rep_nat k hM) (top_nat k hM) h1 h2
theorem RN.bd {k : FloatKind} {v c : Rat} (h : RN k.format v c) {M : Nat} (hM : M ≤ 2 ^ 24) (h1 : v ≤ (M : Rat)) (h2 : -(M : Rat) ≤ v) : c ≤ (M : Rat) ∧ -(M : Rat) ≤ c :=
  ⟨h.le (rep_nat k hM) h1, h.ge (rep_nat k hM).neg h2⟩
section
variable {k : FloatKind} {x y : Nat} {M N : Nat}
theorem add_Bd (hx : Bd k x M) (hy : Bd k y N) (h : M + N ≤ 2 ^ 24) : ∃ r, floatBits .add k x y = some r ∧ Bd k r (M + N) := by
  obtain ⟨a, ha, h1, h2⟩ := hx
  obtain ⟨b, hb, h3, h4⟩ := hy
  have e1 : a + b ≤ ((M + N : Nat) : Rat) := by rw [Rat.natCast_add]; grind
  have e2 : -((M + N : Nat) : Rat) ≤ a + b := by rw [Rat.natCast_add]; grind
  obtain ⟨r, c, hr, hc, hn⟩ := add_V ha hb (fits_nat k h e1 e2)
  exact ⟨r, hr, c, hc, hn.bd h e1 e2⟩
theorem sub_Bd (hx : Bd k x M) (hy : Bd k y N) (h : M + N ≤ 2 ^ 24) : ∃ r, floatBits .sub k x y = some r ∧ Bd k r (M + N) := by
  obtain ⟨a, ha, h1, h2⟩ := hx
  obtain ⟨b, hb, h3, h4⟩ := hy
  have e1 : a - b ≤ ((M + N : Nat) : Rat) := by rw [Rat.natCast_add]; grind
  have e2 : -((M + N : Nat) : Rat) ≤ a - b := by rw [Rat.natCast_add]; grind
  obtain ⟨r, c, hr, hc, hn⟩ := sub_V ha hb (fits_nat k h e1 e2)
  exact ⟨r, hr, c, hc, hn.bd h e1 e2⟩
theorem abs_mul_le {a b M N : Rat} (h1 : a ≤ M) (h2 : -M ≤ a) (h3 : b ≤ N) (h4 : -N ≤ b) : a * b ≤ M * N ∧ -(M * N) ≤ a * b := by
  have p1 := Rat.mul_nonneg (show 0 ≤ M - a by grind) (show 0 ≤ N - b by grind)
  have p2 := Rat.mul_nonneg (show 0 ≤ M + a by grind) (show 0 ≤ N + b by grind)
  have p3 := Rat.mul_nonneg (show 0 ≤ M - a by grind) (show 0 ≤ N + b by grind)
  have p4 := Rat.mul_nonneg (show 0 ≤ M + a by grind) (show 0 ≤ N - b by grind)
  constructor <;> grind
theorem mul_Bd (hx : Bd k x M) (hy : Bd k y N) (h : M * N ≤ 2 ^ 24) : ∃ r, floatBits .mul k x y = some r ∧ Bd k r (M * N) := by
  obtain ⟨a, ha, h1, h2⟩ := hx
  obtain ⟨b, hb, h3, h4⟩ := hy
  have e := abs_mul_le h1 h2 h3 h4
  rw [← Rat.natCast_mul] at e
  obtain ⟨r, c, hr, hc, hn⟩ := mul_V ha hb (fits_nat k h e.1 e.2)
  exact ⟨r, hr, c, hc, hn.bd h e.1 e.2⟩
/-- A quotient by what is not less than 1/n. -/
theorem div_Bd {n : Nat} {b : Rat} (hx : Bd k x M) (hy : V k y b) (hb : 1 ≤ b * (n : Rat)) (h : M * n ≤ 2 ^ 24) : ∃ r, floatBits .quo k x y = some r ∧ Bd k r (M * n) := by
  obtain ⟨a, ha, h1, h2⟩ := hx
  have hn0 : (0 : Rat) ≤ (n : Rat) := Rat.natCast_nonneg
  have hb0 : 0 < b := by
    refine Rat.not_le.1 fun hle => ?_
    have := Rat.mul_le_mul_of_nonneg_right hle hn0
    rw [Rat.zero_mul] at this
    grind
  have hM0 : (0 : Rat) ≤ (M : Rat) := Rat.natCast_nonneg
  have hq : a / b * b = a := Rat.div_mul_cancel (by grind)
  have k1 := Rat.mul_le_mul_of_nonneg_left hb hM0
  have e1 : a / b ≤ ((M * n : Nat) : Rat) := by
    refine Rat.le_of_mul_le_mul_right (c := b) ?_ hb0
    rw [hq, Rat.natCast_mul]; grind
  have e2 : -((M * n : Nat) : Rat) ≤ a / b := by
    refine Rat.le_of_mul_le_mul_right (c := b) ?_ hb0
    rw [hq, Rat.natCast_mul]; grind
  obtain ⟨r, c, hr, hc, hn⟩ := div_V ha hy (by grind) (fits_nat k h e1 e2)
  exact ⟨r, hr, c, hc, hn.bd h e1 e2⟩
theorem neg_Bd (hx : Bd k x M) : Bd k (Op.negFloat k x) M := by
  obtain ⟨a, ha, h1, h2⟩ := hx
  exact ⟨-a, neg_V ha, by grind, by grind⟩
theorem conv_Bd {s t : FloatKind} (hst : s ≠ t) (hx : Bd s x M) (h : M ≤ 2 ^ 24) : ∃ r, floatToFloatBits s x t = some r ∧ Bd t r M := by
  obtain ⟨a, ha, h1, h2⟩ := hx
  obtain ⟨r, c, hr, hc, hn⟩ := conv_V hst ha (fits_nat t h h1 h2)
  exact ⟨r, hr, c, hc, hn.bd h h1 h2⟩
theorem Bd.mono (hx : Bd k x M) (h : M ≤ N) : Bd k x N := by
  obtain ⟨a, ha, h1, h2⟩ := hx
  have := (Rat.natCast_le_natCast (a := M) (b := N)).2 h
  exact ⟨a, ha, by grind, by grind⟩
end
/-- Every number is one. -/
theorem V_self {k : FloatKind} {x : Nat} {a : Rat} (h : V k x a) : feq k x x = true ∧ fne k x x = false := by
  rw [feq_V h h, fne_V h h]; simp
/-- From 32 bits to 64: the same number. -/
theorem rep_wide {a : Rat} (h : Rep FloatKind.f32.format a) : Rep FloatKind.f64.format a := by
  obtain ⟨z, e, h1, h2, rfl⟩ := h
  exact ⟨z, e, Nat.le_trans h1 (by decide), Int.le_trans (by decide) h2, rfl⟩
theorem val_top {f : Format} (hE : 2 ≤ f.exponentBits) {x : Nat} {a : Rat} (h : val f x = some a) : a ≤ pw (topOf f) ∧ -pw (topOf f) ≤ a := by
  obtain ⟨s, m, i, h1, rfl⟩ := val_some h
  have hb : m ≤ 2 ^ (f.fractionBits + 1) ∧ i ≤ f.leastPlace + (2 ^ f.exponentBits : Nat) - 3 := by
    have h4 : 2 ^ 2 ≤ 2 ^ f.exponentBits := Nat.pow_le_pow_right (by decide) hE
    unfold Format.read at h1
    simp only [] at h1
    have hB : f.binade = 2 ^ f.fractionBits := rfl
    have hB2 : 2 ^ (f.fractionBits + 1) = 2 * f.binade := by rw [hB, Nat.pow_succ, Nat.mul_comm]
    split at h1
    · cases h1; constructor <;> omega
    · split at h1
      · rename_i hlt
        injection h1 with e1 e2 e3
        have := Nat.mod_lt (x % f.signWeight) (show 0 < f.binade from Nat.two_pow_pos _)
        have hq : x % f.signWeight / f.binade < 2 ^ f.exponentBits - 1 := by
          rw [Nat.div_lt_iff_lt_mul (show 0 < f.binade from Nat.two_pow_pos _)]
          exact hlt
        constructor
        · omega
        · omega
      · split at h1 <;> cases h1
  have h2 : (m : Rat) * pw i ≤ pw (topOf f) := by
    refine Rat.le_trans (nat_pw_le.2 hb.1) ?_
    rw [pow_pw]
    exact pw_le (by unfold topOf; omega)
  have h3 : 0 ≤ (m : Rat) * pw i := mul_pw_nonneg (cast_nonneg _) _
  cases s <;> simp [sg] <;> grind
theorem wide_V {x : Nat} {a : Rat} (h : V .f32 x a) : ∃ r, floatToFloatBits .f32 x .f64 = some r ∧ V .f64 r a := by
  have ht := val_top (two_le .f32) h.1
  have hf : FitsS FloatKind.f64.format a := by
    refine fits_of_abs (M := pw (topOf FloatKind.f32.format)) ⟨1, topOf FloatKind.f32.format, by decide, by decide, ?_⟩ (by decide +kernel) ht.1 ht.2
    rw [show ((1 : Int) : Rat) = 1 from rfl, Rat.one_mul]
  obtain ⟨r, c, hr, hc, hn⟩ := conv_V (by decide) h hf
  rw [hn.exact (rep_wide h.rep)] at hc
  exact ⟨r, hr, hc⟩
theorem ffin_V {k : FloatKind} {x : Nat} {a : Rat} (h : V k x a) : ∃ r, floatBits .sub k x x = some r ∧ feq k r 0 = true := by
  obtain ⟨r, c, hr, hc, hn⟩ := sub_V h h (by rw [show a - a = ((0 : Nat) : Rat) by grind]; exact fits_nat k (M := 0) (by decide) Rat.le_refl (by decide))
  refine ⟨r, hr, ?_⟩
  have h0 : Rep k.format (a - a) := by rw [show a - a = ((0 : Nat) : Rat) by grind]; exact rep_nat k (by decide)
  rw [feq_V hc (V_zero k), hn.exact h0]
  simp; grind
end Go.Proofs.YtpngjpiodhpbnaaW.Fl
