/- Floats as rational numbers: what a finite word stands for, and that every operation hands back a number beside which no representable number lies on the other side of the exact result. -/
import Ieee.Arith
import GoSem.Core.Float
namespace Go.Proofs.YtpngjpiodhpbnaaW.Fl
open Ieee

def pw (e : Int) : Rat := (2 : Rat) ^ e
theorem two_ne : (2 : Rat) ≠ 0 := by decide
theorem pw_pos (e : Int) : 0 < pw e := Rat.zpow_pos (by decide)
theorem pw_add (a b : Int) : pw (a + b) = pw a * pw b := Rat.zpow_add two_ne a b
theorem pw_nat (n : Nat) : pw (n : Int) = ((2 ^ n : Nat) : Rat) := by
  unfold pw
  rw [Rat.zpow_natCast, Rat.natCast_pow]
  rfl
theorem pw_zero : pw 0 = 1 := by unfold pw; exact Rat.zpow_zero _
theorem pw_sub_nat {a b : Int} (h : b ≤ a) : pw a = ((2 ^ (a - b).toNat : Nat) : Rat) * pw b := by
  have e : a = ((a - b).toNat : Int) + b := by omega
  conv => lhs; rw [e]
  rw [pw_add, pw_nat]
theorem cast_le {a b : Nat} : ((a : Nat) : Rat) ≤ ((b : Nat) : Rat) ↔ a ≤ b := Rat.natCast_le_natCast
theorem cast_nonneg (a : Nat) : (0 : Rat) ≤ (a : Rat) := Rat.natCast_nonneg
theorem pw_le {a b : Int} (h : a ≤ b) : pw a ≤ pw b := by
  rw [pw_sub_nat h]
  have h1 : (1 : Rat) ≤ ((2 ^ (b - a).toNat : Nat) : Rat) := by
    have := @cast_le 1 (2 ^ (b - a).toNat)
    exact this.2 Nat.one_le_two_pow
  have h2 := Rat.mul_le_mul_of_nonneg_right h1 (Rat.le_of_lt (pw_pos a))
  rwa [Rat.one_mul] at h2
/-- A number with its sign. -/
def sg (neg : Bool) (r : Rat) : Rat := if neg then -r else r
def dval : Datum → Option Rat
  | .number s m e => some (sg s ((m : Rat) * pw e))
  | _ => none
/-- What a finite word stands for. -/
def val (f : Format) (x : Nat) : Option Rat := dval (f.read x)
/-- No number N 2^e of the format (N of one bit more than the fraction) lies between v and c. -/
def RN0 (f : Format) (v c : Rat) : Prop := ∀ (N : Nat) (e : Int), N ≤ 2 ^ (f.fractionBits + 1) → f.leastPlace ≤ e →
  (v ≤ (N : Rat) * pw e → c ≤ (N : Rat) * pw e) ∧ ((N : Rat) * pw e ≤ v → (N : Rat) * pw e ≤ c)

theorem mul_pw_le {a b : Rat} {e : Int} : a * pw e ≤ b * pw e ↔ a ≤ b := by
  constructor
  · intro h
    exact Rat.le_of_mul_le_mul_right h (pw_pos e)
  · intro h
    exact Rat.mul_le_mul_of_nonneg_right h (Rat.le_of_lt (pw_pos e))
theorem nat_pw_le {a b : Nat} {e : Int} : (a : Rat) * pw e ≤ (b : Rat) * pw e ↔ a ≤ b := by rw [mul_pw_le, cast_le]
theorem nat_pw_up {N : Nat} {e l : Int} (h : l ≤ e) : (N : Rat) * pw e = ((N * 2 ^ (e - l).toNat : Nat) : Rat) * pw l := by
  rw [pw_sub_nat h, Rat.natCast_mul, Rat.mul_assoc]
theorem pow_pw (n : Nat) (e : Int) : ((2 ^ n : Nat) : Rat) * pw e = pw (n + e) := by rw [pw_add, pw_nat]

/-- Rounding to the nearest whole number of units. -/
theorem cut_spec (neg : Bool) (n drop K : Nat) : (n ≤ K * 2 ^ drop → Toward.even.cut neg n drop ≤ K) ∧ (K * 2 ^ drop ≤ n → K ≤ Toward.even.cut neg n drop) := by
  unfold Toward.cut
  simp only [Nat.one_shiftLeft]
  have hlog : n < 2 ^ (n.log2 + 1) := Nat.lt_log2_self
  by_cases hd : drop ≤ n.log2 + 2
  · rw [Nat.min_eq_left hd]
    have hg : 0 < 2 ^ drop := Nat.two_pow_pos _
    generalize 2 ^ drop = g at *
    have hdm := Nat.div_add_mod n g
    have hml := Nat.mod_lt n hg
    generalize hlow : n / g = low at *
    generalize hrest : n % g = rest at *
    constructor
    · intro h
      have hle : low ≤ K := by
        have : g * low ≤ K * g := by omega
        rw [Nat.mul_comm K g] at this
        exact Nat.le_of_mul_le_mul_left this hg
      rcases Nat.lt_or_eq_of_le hle with h1 | h1
      · have : ∀ b : Bool, low + b.toNat ≤ K := by intro b; cases b <;> simp <;> omega
        exact this _
      · subst h1
        have hr : rest = 0 := by rw [Nat.mul_comm] at h; omega
        subst hr
        have : (decide (g < 2 * 0) || (g == 2 * 0 && low % 2 == 1)) = false := by
          have h0 : (g == 2 * 0) = false := by simp; omega
          rw [h0]; simp
        rw [this]; simp
    · intro h
      have : K ≤ low := by
        have h2 : K * g < (low + 1) * g := by rw [Nat.add_mul, Nat.one_mul, Nat.mul_comm low g]; omega
        have := Nat.lt_of_mul_lt_mul_right h2
        omega
      omega
  · rw [Nat.min_eq_right (by omega)]
    have hbig : 2 * n < 2 ^ (n.log2 + 2) := by
      have e : 2 ^ (n.log2 + 2) = 2 * 2 ^ (n.log2 + 1) := by rw [Nat.pow_succ 2 (n.log2 + 1), Nat.mul_comm]
      omega
    have hdiv : n / 2 ^ (n.log2 + 2) = 0 := Nat.div_eq_of_lt (by omega)
    have hmod : n % 2 ^ (n.log2 + 2) = n := Nat.mod_eq_of_lt (by omega)
    rw [hdiv, hmod]
    have h1 : decide (2 ^ (n.log2 + 2) < 2 * n) = false := by simp; omega
    have h2 : (2 ^ (n.log2 + 2) == 2 * n) = false := by simp; omega
    rw [h1, h2]
    simp only [Bool.false_and, Bool.or_self, Bool.toNat_false]
    refine ⟨fun _ => Nat.zero_le _, fun h => ?_⟩
    rcases Nat.eq_zero_or_pos K with h0 | h0
    · omega
    · exfalso
      have h3 : 2 ^ drop ≤ K * 2 ^ drop := Nat.le_mul_of_pos_left _ h0
      have h4 : 2 ^ (n.log2 + 1) ≤ 2 ^ drop := Nat.pow_le_pow_right (by omega) (by omega)
      omega

/-- The place of the last digit that is kept. -/
def lastOf (f : Format) (mag : Nat) (place : Int) : Int := max (place + mag.log2 - f.fractionBits) f.leastPlace
def keptOf (f : Format) (neg : Bool) (mag : Nat) (place : Int) : Nat :=
  Toward.even.cut neg (mag <<< (place - lastOf f mag place).toNat) (lastOf f mag place - place).toNat

theorem kept_spec (f : Format) (neg : Bool) (mag : Nat) (place : Int) (K : Nat) :
    ((mag : Rat) * pw place ≤ (K : Rat) * pw (lastOf f mag place) → keptOf f neg mag place ≤ K) ∧ ((K : Rat) * pw (lastOf f mag place) ≤ (mag : Rat) * pw place → K ≤ keptOf f neg mag place) := by
  unfold keptOf
  generalize lastOf f mag place = last
  have hc := cut_spec neg (mag <<< (place - last).toNat) (last - place).toNat K
  rw [Nat.shiftLeft_eq] at hc ⊢
  by_cases h : last ≤ place
  · have e0 : (last - place).toNat = 0 := by omega
    rw [e0] at hc ⊢
    rw [nat_pw_up h, nat_pw_le, nat_pw_le]
    simpa using hc
  · have e0 : (place - last).toNat = 0 := by omega
    rw [e0] at hc ⊢
    rw [nat_pw_up (N := K) (show place ≤ last by omega), nat_pw_le, nat_pw_le]
    simpa using hc

theorem mag_lo {mag : Nat} (h : mag ≠ 0) (place : Int) : pw (mag.log2 + place) ≤ (mag : Rat) * pw place := by
  rw [← pow_pw, nat_pw_le]
  exact Nat.log2_self_le h
theorem mag_hi (mag : Nat) (place : Int) : (mag : Rat) * pw place ≤ ((2 ^ (mag.log2 + 1) : Nat) : Rat) * pw place := by
  rw [nat_pw_le]
  exact Nat.le_of_lt Nat.lt_log2_self

theorem kept_rn (f : Format) (neg : Bool) {mag : Nat} (hm : mag ≠ 0) (place : Int) : RN0 f ((mag : Rat) * pw place) ((keptOf f neg mag place : Rat) * pw (lastOf f mag place)) := by
  intro N e hN he
  have hk := kept_spec f neg mag place
  generalize keptOf f neg mag place = kept at *
  have hlast : lastOf f mag place = max (place + mag.log2 - f.fractionBits) f.leastPlace := rfl
  generalize lastOf f mag place = last at *
  by_cases h : last ≤ e
  · rw [nat_pw_up (N := N) h]
    constructor
    · intro h1; rw [nat_pw_le]; exact (hk _).1 h1
    · intro h1; rw [nat_pw_le]; exact (hk _).2 h1
  · have h1 : pw (f.fractionBits + last) ≤ (mag : Rat) * pw place := by
      have := mag_lo hm place
      rwa [show (f.fractionBits : Int) + last = mag.log2 + place by omega]
    have h2 : (N : Rat) * pw e ≤ pw (f.fractionBits + last) := by
      have a : (N : Rat) * pw e ≤ ((2 ^ (f.fractionBits + 1) : Nat) : Rat) * pw e := nat_pw_le.2 hN
      rw [pow_pw] at a
      exact Rat.le_trans a (pw_le (by omega))
    have h3 : ((2 ^ f.fractionBits : Nat) : Rat) * pw last = pw (f.fractionBits + last) := pow_pw _ _
    constructor
    · intro h4
      have h5 := (hk (2 ^ f.fractionBits)).1 (by rw [h3]; exact Rat.le_trans h4 h2)
      have h6 : (kept : Rat) * pw last ≤ ((2 ^ f.fractionBits : Nat) : Rat) * pw last := nat_pw_le.2 h5
      rw [h3] at h6
      exact Rat.le_trans h6 (Rat.le_trans h1 h4)
    · intro _
      have h5 := (hk (2 ^ f.fractionBits)).2 (by rw [h3]; exact h1)
      have h6 : ((2 ^ f.fractionBits : Nat) : Rat) * pw last ≤ (kept : Rat) * pw last := nat_pw_le.2 h5
      rw [h3] at h6
      exact Rat.le_trans h2 h6
/-- The least number that is too great: 2 to this power. -/
def topOf (f : Format) : Int := f.fractionBits + f.leastPlace + (2 ^ f.exponentBits : Nat) - 2

theorem read_word (f : Format) (neg : Bool) (rung : Nat) (h : rung < f.infRung) :
    f.read (f.word neg rung) = if rung < f.binade then .number neg rung f.leastPlace else .number neg (f.binade + rung % f.binade) (f.leastPlace + (rung / f.binade - 1 : Nat)) := by
  have hB : 0 < f.binade := Nat.two_pow_pos _
  have hS : f.signWeight = 2 ^ f.exponentBits * f.binade := by unfold Format.signWeight Format.binade; rw [Nat.pow_add]
  have hI : f.infRung < f.signWeight := by
    rw [hS]; unfold Format.infRung
    have h0 : 0 < 2 ^ f.exponentBits := Nat.two_pow_pos _
    exact Nat.mul_lt_mul_of_pos_right (by omega) hB
  have hlt : rung < f.signWeight := Nat.lt_trans h hI
  have e1 : (f.word neg rung / f.signWeight % 2 == 1) = neg := by
    unfold Format.word
    cases neg
    · simp [Nat.div_eq_of_lt hlt]
    · rw [if_pos rfl, Nat.add_div_left _ (by omega), Nat.div_eq_of_lt hlt]; rfl
  have e2 : f.word neg rung % f.signWeight = rung := by
    unfold Format.word
    cases neg
    · simp [Nat.mod_eq_of_lt hlt]
    · rw [if_pos rfl, Nat.add_mod_left, Nat.mod_eq_of_lt hlt]
  unfold Format.read
  simp only [e1, e2]
  by_cases hb : rung < f.binade
  · rw [if_pos hb, if_pos hb]
  · rw [if_neg hb, if_neg hb, if_pos h]

theorem kept_bounds (f : Format) (neg : Bool) {mag : Nat} (hm : mag ≠ 0) (place : Int) :
    keptOf f neg mag place ≤ 2 * f.binade ∧ (f.leastPlace < lastOf f mag place → f.binade ≤ keptOf f neg mag place) := by
  have hk := kept_spec f neg mag place
  have hlast : lastOf f mag place = max (place + mag.log2 - f.fractionBits) f.leastPlace := rfl
  generalize keptOf f neg mag place = kept at *
  generalize lastOf f mag place = last at *
  unfold Format.binade
  constructor
  · rw [show 2 * 2 ^ f.fractionBits = 2 ^ (f.fractionBits + 1) by rw [Nat.pow_succ, Nat.mul_comm]]
    refine (hk _).1 (Rat.le_trans (mag_hi mag place) ?_)
    rw [pow_pw, pow_pw]
    exact pw_le (by omega)
  · intro h
    refine (hk _).2 (Rat.le_trans ?_ (mag_lo hm place))
    rw [pow_pw]
    exact pw_le (by omega)

/-- THE NEAREST WORD: what it stands for, if that is not too great. -/
theorem val_nearest (f : Format) (hE : 2 ≤ f.exponentBits) (neg : Bool) {mag : Nat} (hm : mag ≠ 0) (place : Int)
    (hv : (keptOf f neg mag place : Rat) * pw (lastOf f mag place) < pw (topOf f)) :
    val f (f.nearest neg mag place) = some (sg neg ((keptOf f neg mag place : Rat) * pw (lastOf f mag place))) := by
  have hb := kept_bounds f neg hm place
  have hn : f.nearest neg mag place = f.word neg (min ((lastOf f mag place - f.leastPlace).toNat * f.binade + keptOf f neg mag place) f.infRung) := by
    unfold Format.nearest
    rw [if_neg hm]
    rfl
  have hL : f.leastPlace ≤ lastOf f mag place := by unfold lastOf; omega
  rw [hn]
  generalize keptOf f neg mag place = kept at *
  generalize lastOf f mag place = last at *
  obtain ⟨t, rfl⟩ : ∃ t : Nat, last = f.leastPlace + t := ⟨(last - f.leastPlace).toNat, by omega⟩
  rw [show (f.leastPlace + (t : Int) - f.leastPlace).toNat = t by omega]
  have hB : 0 < f.binade := Nat.two_pow_pos _
  have hP : (2 : Nat) ^ f.fractionBits = f.binade := rfl
  have h2 : 4 ≤ 2 ^ f.exponentBits := by
    have := Nat.pow_le_pow_right (n := 2) (by omega) hE
    simpa using this
  -- the rung lies below that of infinity
  have hr : t * f.binade + kept < f.infRung := by
    apply Classical.byContradiction
    intro hge
    have hge : (2 ^ f.exponentBits - 1) * f.binade ≤ t * f.binade + kept := Nat.le_of_not_lt hge
    have key : pw (topOf f) ≤ (kept : Rat) * pw (f.leastPlace + t) := by
      by_cases ht : 2 ^ f.exponentBits - 2 ≤ t
      · have h1 : f.binade ≤ kept := hb.2 (by omega)
        have h3 : ((2 ^ f.fractionBits : Nat) : Rat) * pw (f.leastPlace + t) ≤ (kept : Rat) * pw (f.leastPlace + t) := nat_pw_le.2 h1
        rw [pow_pw] at h3
        exact Rat.le_trans (pw_le (by unfold topOf; omega)) h3
      · have h4 : t + 3 ≤ 2 ^ f.exponentBits := by omega
        have h5 : (t + 2) * f.binade ≤ t * f.binade + kept := by
          refine Nat.le_trans (Nat.mul_le_mul_right _ ?_) hge
          omega
        rw [Nat.add_mul] at h5
        have h6 : kept = 2 * f.binade := by omega
        have h7 : t + 3 = 2 ^ f.exponentBits := by
          apply Classical.byContradiction
          intro hne
          have : (t + 3) * f.binade ≤ t * f.binade + kept := Nat.le_trans (Nat.mul_le_mul_right _ (by omega)) hge
          rw [Nat.add_mul] at this
          omega
        have h8 : kept = 2 ^ (f.fractionBits + 1) := by rw [h6, Nat.pow_succ, Nat.mul_comm]; rfl
        rw [h8, pow_pw]
        exact pw_le (by unfold topOf; omega)
    exact absurd hv (Rat.not_lt.2 key)
  rw [Nat.min_eq_left (Nat.le_of_lt hr)]
  unfold val
  rw [read_word f neg _ hr]
  by_cases ht : t = 0
  · subst ht
    rw [Nat.zero_mul, Nat.zero_add]
    by_cases h3 : kept < f.binade
    · rw [if_pos h3]; simp [dval]
    · rw [if_neg h3]
      rcases Nat.lt_or_ge kept (2 * f.binade) with h4 | h4
      · have e1 : kept / f.binade = 1 := by
          apply Nat.div_eq_of_lt_le <;> omega
        have e2 : kept % f.binade = kept - f.binade := by
          rw [Nat.mod_eq_sub_mod (by omega), Nat.mod_eq_of_lt (by omega)]
        rw [e1, e2, show f.binade + (kept - f.binade) = kept by omega]
        simp [dval]
      · have e0 : kept = 2 * f.binade := by omega
        subst e0
        have e1 : 2 * f.binade / f.binade = 2 := Nat.mul_div_cancel _ hB
        have e2 : 2 * f.binade % f.binade = 0 := Nat.mul_mod_left _ _
        rw [e1, e2]
        simp only [dval, Nat.add_zero]
        congr 2
        rw [show (f.leastPlace + ((2 - 1 : Nat) : Int)) = f.leastPlace + 1 by omega, ← hP, pow_pw, show 2 * 2 ^ f.fractionBits = 2 ^ (f.fractionBits + 1) by rw [Nat.pow_succ, Nat.mul_comm], pow_pw]
        congr 1
        omega
  · have h1 : f.binade ≤ kept := hb.2 (by omega)
    have h0 : 1 * f.binade ≤ t * f.binade := Nat.mul_le_mul_right _ (by omega)
    rw [if_neg (by omega)]
    rcases Nat.lt_or_ge kept (2 * f.binade) with h4 | h4
    · obtain ⟨r, rfl⟩ : ∃ r, kept = f.binade + r := ⟨kept - f.binade, by omega⟩
      have e00 : f.binade * (t + 1) = t * f.binade + f.binade := by rw [Nat.mul_comm, Nat.add_mul, Nat.one_mul]
      have e0 : t * f.binade + (f.binade + r) = r + f.binade * (t + 1) := by omega
      have hr2 : r < f.binade := by omega
      rw [e0, Nat.add_mul_div_left _ _ hB, Nat.add_mul_mod_self_left, Nat.div_eq_of_lt hr2, Nat.mod_eq_of_lt hr2]
      simp only [dval]
      rw [show (f.leastPlace + ((0 + (t + 1) - 1 : Nat) : Int)) = f.leastPlace + t by omega]
    · have e0 : kept = 2 * f.binade := by omega
      subst e0
      have e1 : t * f.binade + 2 * f.binade = f.binade * (t + 2) := by rw [Nat.mul_add, Nat.mul_comm, Nat.mul_comm 2]
      rw [e1, Nat.mul_div_cancel_left _ hB, Nat.mul_mod_right]
      simp only [dval, Nat.add_zero]
      congr 2
      rw [← hP, pow_pw, show 2 * 2 ^ f.fractionBits = 2 ^ (f.fractionBits + 1) by rw [Nat.pow_succ, Nat.mul_comm], pow_pw]
      congr 1
      omega
/-- No number of the format, of one bit more than the fraction, lies between v and c. -/
def RN (f : Format) (v c : Rat) : Prop := ∀ (z e : Int), z.natAbs ≤ 2 ^ (f.fractionBits + 1) → f.leastPlace ≤ e →
  (v ≤ (z : Rat) * pw e → c ≤ (z : Rat) * pw e) ∧ ((z : Rat) * pw e ≤ v → (z : Rat) * pw e ≤ c)

theorem natAbs_cast {z : Int} (h : 0 ≤ z) : ((z.natAbs : Nat) : Rat) = (z : Rat) := by
  have : ((z.natAbs : Int) : Rat) = (z : Rat) := by rw [Int.natAbs_of_nonneg h]
  rw [← this]; rfl
theorem natAbs_cast_neg {z : Int} (h : z ≤ 0) : ((z.natAbs : Nat) : Rat) = -(z : Rat) := by
  have e : ((z.natAbs : Int)) = -z := by omega
  have : ((z.natAbs : Int) : Rat) = ((-z : Int) : Rat) := by rw [e]
  rw [Rat.intCast_neg] at this
  rw [← this]; rfl
theorem mul_pw_nonneg {r : Rat} (h : 0 ≤ r) (e : Int) : 0 ≤ r * pw e := Rat.mul_nonneg h (Rat.le_of_lt (pw_pos e))
theorem rn_sg {f : Format} {v c : Rat} (hv : 0 ≤ v) (hc : 0 ≤ c) (h : RN0 f v c) (neg : Bool) : RN f (sg neg v) (sg neg c) := by
  intro z e hz he
  have hp := pw_pos e
  cases neg
  · simp only [sg]
    rcases Int.le_total 0 z with h0 | h0
    · have := h z.natAbs e hz he
      rwa [natAbs_cast h0] at this
    · have hneg : (z : Rat) * pw e ≤ 0 := by
        have : 0 ≤ (-(z : Rat)) * pw e := by rw [← natAbs_cast_neg h0]; exact mul_pw_nonneg (cast_nonneg _) e
        grind
      constructor
      · intro h1
        have e0 : v = 0 := by simp at h1; grind
        have e1 : (z : Rat) * pw e = 0 := by simp at h1; grind
        have h2 := (h 0 e (Nat.zero_le _) he).1
        have e2 : (((0 : Nat) : Rat)) * pw e = 0 := by rw [show (((0 : Nat) : Rat)) = 0 from rfl, Rat.zero_mul]
        rw [e2] at h2
        have := h2 (by grind)
        simp
        grind
      · intro _
        simp
        grind
  · simp only [sg]
    rcases Int.le_total z 0 with h0 | h0
    · have h3 := h z.natAbs e hz he
      rw [natAbs_cast_neg h0] at h3
      have e3 : -(z : Rat) * pw e = -((z : Rat) * pw e) := by grind
      rw [e3] at h3
      simp
      constructor
      · intro h1; have := h3.2 (by grind); grind
      · intro h1; have := h3.1 (by grind); grind
    · have hpos : 0 ≤ (z : Rat) * pw e := by rw [← natAbs_cast h0]; exact mul_pw_nonneg (cast_nonneg _) e
      simp
      constructor
      · intro _; grind
      · intro h1
        have e0 : v = 0 := by grind
        have h2 := (h 0 e (Nat.zero_le _) he).1
        have e2 : (((0 : Nat) : Rat)) * pw e = 0 := by rw [show (((0 : Nat) : Rat)) = 0 from rfl, Rat.zero_mul]
        rw [e2] at h2
        have := h2 (by grind)
        grind

/-- v is at most a number of the format that is not too great. -/
def Fits (f : Format) (v : Rat) : Prop := ∃ (N : Nat) (e : Int), N ≤ 2 ^ (f.fractionBits + 1) ∧ f.leastPlace ≤ e ∧ v ≤ (N : Rat) * pw e ∧ (N : Rat) * pw e < pw (topOf f)

theorem nearest_rn (f : Format) (hE : 2 ≤ f.exponentBits) (neg : Bool) (mag : Nat) (place : Int) (h : Fits f ((mag : Rat) * pw place)) :
    ∃ c, val f (f.nearest neg mag place) = some c ∧ RN f (sg neg ((mag : Rat) * pw place)) c := by
  by_cases hm : mag = 0
  · subst hm
    have hn : f.nearest neg 0 place = f.word neg 0 := by unfold Format.nearest; rw [if_pos rfl]
    have hi : 0 < f.infRung := by
      unfold Format.infRung
      have h2 : 4 ≤ 2 ^ f.exponentBits := by
        have := Nat.pow_le_pow_right (n := 2) (by omega) hE
        simpa using this
      exact Nat.mul_pos (by omega) (Nat.two_pow_pos _)
    rw [hn]
    unfold val
    rw [read_word f neg 0 hi, if_pos (show 0 < f.binade from Nat.two_pow_pos _)]
    have e2 : ∀ e, (((0 : Nat) : Rat)) * pw e = 0 := fun e => by rw [show (((0 : Nat) : Rat)) = 0 from rfl, Rat.zero_mul]
    simp only [dval, e2]
    have e3 : sg neg 0 = 0 := by cases neg <;> simp [sg]
    rw [e3]
    exact ⟨0, rfl, fun z e _ _ => ⟨id, id⟩⟩
  · obtain ⟨N, e, hN, he, h1, h2⟩ := h
    have hr := kept_rn f neg hm place
    have hlt := (hr N e hN he).1 h1
    have hk := val_nearest f hE neg hm place (by grind)
    exact ⟨_, hk, rn_sg (mul_pw_nonneg (cast_nonneg _) _) (mul_pw_nonneg (cast_nonneg _) _) hr neg⟩

theorem val_some {f : Format} {x : Nat} {a : Rat} (h : val f x = some a) : ∃ s m i, f.read x = .number s m i ∧ a = sg s ((m : Rat) * pw i) := by
  unfold val at h
  cases hr : f.read x with
  | number s m i => rw [hr] at h; exact ⟨s, m, i, rfl, by simpa [dval] using h.symm⟩
  | infinity s => rw [hr] at h; cases h
  | nan s t => rw [hr] at h; cases h

theorem signed_cast (neg : Bool) (mag up : Nat) : ((signed neg mag up : Int) : Rat) = sg neg (((mag * 2 ^ up : Nat) : Rat)) := by
  unfold signed sg
  rw [Nat.shiftLeft_eq]
  cases neg
  · simp only [Bool.false_eq_true, if_false]; rfl
  · simp only [if_true, Rat.intCast_neg]; rfl
theorem sg_mul (neg : Bool) (r s : Rat) : sg neg r * s = sg neg (r * s) := by cases neg <;> simp [sg] <;> grind
/-- A whole number with its sign. -/
theorem sg_natAbs (neg : Bool) (z : Int) (h : z ≠ 0 → neg = decide (z < 0)) : sg neg ((z.natAbs : Nat) : Rat) = (z : Rat) := by
  by_cases h0 : z = 0
  · subst h0; cases neg <;> simp [sg]
  · rw [h h0]
    by_cases h1 : z < 0
    · rw [natAbs_cast_neg (by omega)]; simp [sg, h1]
    · rw [natAbs_cast (by omega)]; simp [sg, h1]
theorem sg_abs_le {neg : Bool} {r M : Rat} (_hr : 0 ≤ r) (h1 : sg neg r ≤ M) (h2 : -M ≤ sg neg r) : r ≤ M := by
  cases neg <;> simp [sg] at h1 h2 <;> grind

/-- A number between -M and M, M a number of the format that is not too great. -/
def FitsS (f : Format) (v : Rat) : Prop := ∃ (N : Nat) (e : Int), N ≤ 2 ^ (f.fractionBits + 1) ∧ f.leastPlace ≤ e ∧ v ≤ (N : Rat) * pw e ∧ -((N : Rat) * pw e) ≤ v ∧ (N : Rat) * pw e < pw (topOf f)
theorem write_rn (f : Format) (hE : 2 ≤ f.exponentBits) (neg : Bool) (mag : Nat) (place : Int) (h : FitsS f (sg neg ((mag : Rat) * pw place))) :
    ∃ c, val f (f.write (.number neg mag place)) = some c ∧ RN f (sg neg ((mag : Rat) * pw place)) c := by
  obtain ⟨N, e, h1, h2, h3, h4, h5⟩ := h
  exact nearest_rn f hE neg mag place ⟨N, e, h1, h2, sg_abs_le (mul_pw_nonneg (cast_nonneg _) _) h3 h4, h5⟩

theorem sum_val {s t : Bool} {m n : Nat} {i j : Int} : ∃ neg mag place, Datum.sum (.number s m i) (.number t n j) = some (.number neg mag place) ∧ sg neg ((mag : Rat) * pw place) = sg s ((m : Rat) * pw i) + sg t ((n : Rat) * pw j) := by
  refine ⟨_, _, _, rfl, ?_⟩
  rw [← sg_mul, sg_natAbs _ _ (fun h => by rw [if_neg h])]
  rw [Rat.intCast_add, signed_cast, signed_cast, Rat.add_mul, sg_mul, sg_mul, ← nat_pw_up (N := m) (Int.min_le_left i j), ← nat_pw_up (N := n) (Int.min_le_right i j)]

theorem add_rn (f : Format) (hE : 2 ≤ f.exponentBits) {x y : Nat} {a b : Rat} (hx : val f x = some a) (hy : val f y = some b) (h : FitsS f (a + b)) :
    ∃ r c, f.add x y = some r ∧ val f r = some c ∧ RN f (a + b) c := by
  obtain ⟨s, m, i, h1, rfl⟩ := val_some hx
  obtain ⟨t, n, j, h2, rfl⟩ := val_some hy
  obtain ⟨neg, mag, place, h3, h4⟩ := @sum_val s t m n i j
  rw [← h4] at h ⊢
  obtain ⟨c, h5, h6⟩ := write_rn f hE neg mag place h
  exact ⟨_, c, by unfold Format.add; rw [h1, h2, h3]; rfl, h5, h6⟩
theorem sub_rn (f : Format) (hE : 2 ≤ f.exponentBits) {x y : Nat} {a b : Rat} (hx : val f x = some a) (hy : val f y = some b) (h : FitsS f (a - b)) :
    ∃ r c, f.sub x y = some r ∧ val f r = some c ∧ RN f (a - b) c := by
  obtain ⟨s, m, i, h1, rfl⟩ := val_some hx
  obtain ⟨t, n, j, h2, rfl⟩ := val_some hy
  obtain ⟨neg, mag, place, h3, h4⟩ := @sum_val s (!t) m n i j
  have e : sg s ((m : Rat) * pw i) + sg (!t) ((n : Rat) * pw j) = sg s ((m : Rat) * pw i) - sg t ((n : Rat) * pw j) := by cases t <;> simp [sg] <;> grind
  rw [e] at h4
  rw [← h4] at h ⊢
  obtain ⟨c, h5, h6⟩ := write_rn f hE neg mag place h
  exact ⟨_, c, by unfold Format.sub; rw [h1, h2]; simp only [Datum.opposite]; rw [h3]; rfl, h5, h6⟩
theorem mul_rn (f : Format) (hE : 2 ≤ f.exponentBits) {x y : Nat} {a b : Rat} (hx : val f x = some a) (hy : val f y = some b) (h : FitsS f (a * b)) :
    ∃ r c, f.mul x y = some r ∧ val f r = some c ∧ RN f (a * b) c := by
  obtain ⟨s, m, i, h1, rfl⟩ := val_some hx
  obtain ⟨t, n, j, h2, rfl⟩ := val_some hy
  have h4 : sg (s ^^ t) (((m * n : Nat) : Rat) * pw (i + j)) = sg s ((m : Rat) * pw i) * sg t ((n : Rat) * pw j) := by
    rw [Rat.natCast_mul, pw_add]
    cases s <;> cases t <;> simp [sg] <;> grind
  rw [← h4] at h ⊢
  obtain ⟨c, h5, h6⟩ := write_rn f hE (s ^^ t) (m * n) (i + j) h
  exact ⟨_, c, by unfold Format.mul; rw [h1, h2]; rfl, h5, h6⟩
theorem mul_n_le {a b : Rat} {n : Nat} (hn : 0 < n) : a * (n : Rat) ≤ b * (n : Rat) ↔ a ≤ b := by
  have h0 : (0 : Rat) < (n : Rat) := by
    have := (Rat.natCast_lt_natCast (a := 0) (b := n)).2 hn
    exact this
  exact ⟨fun h => Rat.le_of_mul_le_mul_right h h0, fun h => Rat.mul_le_mul_of_nonneg_right h (Rat.le_of_lt h0)⟩

/-- The quotient to more digits than the format has, with a last digit that tells what is left over, lies on the same side of the format's numbers as the exact one. -/
theorem quo_side (f : Format) {v : Rat} {D n : Nat} {w : Int} (hn : 0 < n) (hv : v * (n : Rat) = (D : Rat) * pw w) (hD : 2 ^ (f.fractionBits + 1) * n ≤ D) {N : Nat} {e : Int} (hN : N ≤ 2 ^ (f.fractionBits + 1)) :
    (v ≤ (N : Rat) * pw e → (((2 * (D / n) + (D % n != 0).toNat : Nat)) : Rat) * pw (w - 1) ≤ (N : Rat) * pw e) ∧ ((N : Rat) * pw e ≤ v → (N : Rat) * pw e ≤ (((2 * (D / n) + (D % n != 0).toNat : Nat)) : Rat) * pw (w - 1)) := by
  have hdm := Nat.div_add_mod D n
  have hml := Nat.mod_lt D hn
  have hq : 2 ^ (f.fractionBits + 1) ≤ D / n := (Nat.le_div_iff_mul_le hn).2 hD
  generalize D / n = q at *
  generalize D % n = r at *
  have hst : (r != 0).toNat ≤ 1 := by cases (r != 0) <;> simp
  have hst0 : r = 0 → (r != 0).toNat = 0 := by intro h; subst h; rfl
  have hst1 : r ≠ 0 → (r != 0).toNat = 1 := by intro h; simp [h]
  generalize (r != 0).toNat = st at *
  by_cases hw : w ≤ e
  · have e1 : (N : Rat) * pw e = ((N * 2 ^ (e - w).toNat : Nat) : Rat) * pw w := nat_pw_up hw
    rw [e1]
    generalize N * 2 ^ (e - w).toNat = K
    have e2 : (K : Rat) * pw w = ((2 * K : Nat) : Rat) * pw (w - 1) := by
      rw [nat_pw_up (show w - 1 ≤ w by omega), show (w - (w - 1)).toNat = 1 by omega, Nat.pow_one, Nat.mul_comm K 2]
    constructor
    · intro h
      have h1 : v * (n : Rat) ≤ (K : Rat) * pw w * (n : Rat) := (mul_n_le hn).2 h
      rw [hv, show (K : Rat) * pw w * (n : Rat) = ((K * n : Nat) : Rat) * pw w by rw [Rat.natCast_mul]; grind, nat_pw_le] at h1
      rw [e2, nat_pw_le]
      by_cases hr : r = 0
      · rw [hst0 hr]
        subst hr
        have : q * n ≤ K * n := by rw [Nat.mul_comm q]; omega
        have := Nat.le_of_mul_le_mul_right this hn
        omega
      · have : q * n < K * n := by rw [Nat.mul_comm q]; omega
        have := Nat.lt_of_mul_lt_mul_right this
        omega
    · intro h
      have h1 : (K : Rat) * pw w * (n : Rat) ≤ v * (n : Rat) := (mul_n_le hn).2 h
      rw [hv, show (K : Rat) * pw w * (n : Rat) = ((K * n : Nat) : Rat) * pw w by rw [Rat.natCast_mul]; grind, nat_pw_le] at h1
      rw [e2, nat_pw_le]
      have : K * n < (q + 1) * n := by rw [Nat.add_mul, Nat.mul_comm q]; omega
      have := Nat.lt_of_mul_lt_mul_right this
      omega
  · have h2 : (N : Rat) * pw e ≤ ((2 ^ (f.fractionBits + 1) : Nat) : Rat) * pw (w - 1) := by
      have a : (N : Rat) * pw e ≤ ((2 ^ (f.fractionBits + 1) : Nat) : Rat) * pw e := nat_pw_le.2 hN
      rw [pow_pw] at a ⊢
      exact Rat.le_trans a (pw_le (by omega))
    constructor
    · intro h
      exfalso
      have h3 : v * (n : Rat) ≤ ((2 ^ (f.fractionBits + 1) : Nat) : Rat) * pw (w - 1) * (n : Rat) := (mul_n_le hn).2 (Rat.le_trans h h2)
      rw [hv, show ((2 ^ (f.fractionBits + 1) : Nat) : Rat) * pw (w - 1) * (n : Rat) = ((2 ^ (f.fractionBits + 1) * n : Nat) : Rat) * pw (w - 1) by rw [Rat.natCast_mul]; grind, nat_pw_up (show w - 1 ≤ w by omega), show (w - (w - 1)).toNat = 1 by omega, Nat.pow_one, nat_pw_le] at h3
      have : 0 < 2 ^ (f.fractionBits + 1) * n := Nat.mul_pos (Nat.two_pow_pos _) hn
      omega
    · intro _
      refine Rat.le_trans h2 (nat_pw_le.2 ?_)
      omega

theorem div_rn (f : Format) (hE : 2 ≤ f.exponentBits) {x y : Nat} {a b : Rat} (hx : val f x = some a) (hy : val f y = some b) (hb : b ≠ 0) (h : FitsS f (a / b)) :
    ∃ r c, f.div x y = some r ∧ val f r = some c ∧ RN f (a / b) c := by
  obtain ⟨s, m, i, h1, rfl⟩ := val_some hx
  obtain ⟨t, n, j, h2, rfl⟩ := val_some hy
  have e0 : ∀ e, (((0 : Nat) : Rat)) * pw e = 0 := fun e => by rw [show (((0 : Nat) : Rat)) = 0 from rfl, Rat.zero_mul]
  have hn : n ≠ 0 := by
    rintro rfl
    rw [e0] at hb
    cases t <;> simp [sg] at hb
  have hn0 : 0 < n := Nat.pos_of_ne_zero hn
  have hnr : (n : Rat) ≠ 0 := by
    intro h0
    have : ((n : Nat) : Rat) = ((0 : Nat) : Rat) := h0
    exact hn (Rat.natCast_inj.1 this)
  have hpj : pw j ≠ 0 := by have := pw_pos j; grind
  obtain ⟨more, hmore⟩ : ∃ more, more = f.fractionBits + 2 + n.log2 - m.log2 := ⟨_, rfl⟩
  obtain ⟨v, hvdef⟩ : ∃ v : Rat, v = (m : Rat) * pw i / ((n : Rat) * pw j) := ⟨_, rfl⟩
  have hsv : sg s ((m : Rat) * pw i) / sg t ((n : Rat) * pw j) = sg (s ^^ t) v := by
    rw [hvdef]
    cases s <;> cases t <;> simp [sg] <;> grind
  have hv1 : v * (n : Rat) = ((m * 2 ^ more : Nat) : Rat) * pw (i - j - more) := by
    have e3 : v * ((n : Rat) * pw j) = (m : Rat) * pw i := by rw [hvdef]; exact Rat.div_mul_cancel (by grind)
    have e4 : (m : Rat) * pw i = ((m * 2 ^ more : Nat) : Rat) * pw (i - j - more) * pw j := by
      rw [Rat.mul_assoc, ← pw_add, show i - j - more + j = i - (more : Int) by omega, nat_pw_up (N := m) (show i - (more : Int) ≤ i by omega), show (i - (i - (more : Int))).toNat = more by omega]
    rw [e4, ← Rat.mul_assoc] at e3
    exact Rat.le_antisymm (Rat.le_of_mul_le_mul_right (by rw [e3]; exact Rat.le_refl) (pw_pos j)) (Rat.le_of_mul_le_mul_right (by rw [e3]; exact Rat.le_refl) (pw_pos j))
  have hv0 : 0 ≤ v := by
    have h5 : 0 ≤ v * (n : Rat) := by rw [hv1]; exact mul_pw_nonneg (cast_nonneg _) _
    have h6 : (0 : Rat) * (n : Rat) ≤ v * (n : Rat) := by rw [Rat.zero_mul]; exact h5
    exact (mul_n_le hn0).1 h6
  rw [hsv] at h ⊢
  have hdiv : f.div x y = some (f.write (.number (s ^^ t) (2 * ((m * 2 ^ more) / n) + ((m * 2 ^ more) % n != 0).toNat) (i - j - more - 1))) := by
    unfold Format.div
    rw [h1, h2]
    simp only [Datum.quotient]
    rw [if_neg hn, Nat.shiftLeft_eq, ← hmore]
    rfl
  rw [hdiv]
  obtain ⟨N, e, hN, he, h3, h4, h5⟩ := h
  have hvN := sg_abs_le hv0 h3 h4
  by_cases hm : m = 0
  · subst hm
    have hv2 : v = 0 := by
      rw [Nat.zero_mul, e0] at hv1
      rcases Rat.mul_eq_zero.1 hv1 with h | h
      · exact h
      · exact absurd h hnr
    have hmag : (2 * ((0 * 2 ^ more) / n) + ((0 * 2 ^ more) % n != 0).toNat) = 0 := by simp
    rw [hmag, hv2]
    obtain ⟨c, h6, h7⟩ := write_rn f hE (s ^^ t) 0 (i - j - more - 1) ⟨N, e, hN, he, by rw [e0]; rw [hv2] at h3; exact h3, by rw [e0]; rw [hv2] at h4; exact h4, h5⟩
    rw [e0] at h7
    exact ⟨_, c, rfl, h6, h7⟩
  · have hD : 2 ^ (f.fractionBits + 1) * n ≤ m * 2 ^ more := by
      have a1 : n < 2 ^ (n.log2 + 1) := Nat.lt_log2_self
      have a2 : 2 ^ m.log2 ≤ m := Nat.log2_self_le hm
      have a3 : 2 ^ (f.fractionBits + 1) * n ≤ 2 ^ (f.fractionBits + 1) * 2 ^ (n.log2 + 1) := Nat.mul_le_mul_left _ (Nat.le_of_lt a1)
      have a4 : 2 ^ m.log2 * 2 ^ more ≤ m * 2 ^ more := Nat.mul_le_mul_right _ a2
      rw [← Nat.pow_add] at a3 a4
      refine Nat.le_trans a3 (Nat.le_trans (Nat.pow_le_pow_right (by omega) ?_) a4)
      omega
    have hside : ∀ {N : Nat} {e : Int}, N ≤ 2 ^ (f.fractionBits + 1) → _ := fun {N e} hN => quo_side f hn0 hv1 hD (N := N) (e := e) hN
    obtain ⟨mag, hmag⟩ : ∃ mag, mag = (2 * ((m * 2 ^ more) / n) + ((m * 2 ^ more) % n != 0).toNat) := ⟨_, rfl⟩
    rw [← hmag] at hside ⊢
    have hmag0 : mag ≠ 0 := by
      have : 2 ^ (f.fractionBits + 1) ≤ (m * 2 ^ more) / n := (Nat.le_div_iff_mul_le hn0).2 hD
      have := Nat.two_pow_pos (f.fractionBits + 1)
      omega
    have hr := kept_rn f (s ^^ t) hmag0 (i - j - more - 1)
    have hlt := (hr N e hN he).1 ((hside hN).1 hvN)
    have hk := val_nearest f hE (s ^^ t) hmag0 (i - j - more - 1) (by grind)
    refine ⟨_, _, rfl, hk, rn_sg hv0 (mul_pw_nonneg (cast_nonneg _) _) ?_ _⟩
    intro N e hN he
    exact ⟨fun h => (hr N e hN he).1 ((hside hN).1 h), fun h => (hr N e hN he).2 ((hside hN).2 h)⟩
/-! ### The order -/
theorem signed_val (s : Bool) (m : Nat) {i base : Int} (h : base ≤ i) : sg s ((m : Rat) * pw i) = ((signed s m (i - base).toNat : Int) : Rat) * pw base := by
  rw [signed_cast, sg_mul, ← nat_pw_up h]
theorem mul_pw_lt {a b : Rat} {e : Int} : a * pw e < b * pw e ↔ a < b := by
  have := @mul_pw_le b a e
  constructor <;> intro h <;> grind
theorem order_val {f : Format} {x y : Nat} {a b : Rat} (hx : val f x = some a) (hy : val f y = some b) : f.order x y = some (if a < b then .lt else if a = b then .eq else .gt) := by
  obtain ⟨s, m, i, h1, rfl⟩ := val_some hx
  obtain ⟨t, n, j, h2, rfl⟩ := val_some hy
  unfold Format.order
  rw [h1, h2]
  simp only [Datum.order]
  rw [signed_val s m (Int.min_le_left i j), signed_val t n (Int.min_le_right i j)]
  generalize signed s m (i - min i j).toNat = z1
  generalize signed t n (j - min i j).toNat = z2
  simp only [mul_pw_lt, Rat.intCast_lt_intCast]
  have e1 : ((z1 : Rat) * pw (min i j) = (z2 : Rat) * pw (min i j)) ↔ z1 = z2 := by
    constructor
    · intro h
      have a1 : z1 ≤ z2 := Rat.intCast_le_intCast.1 (mul_pw_le.1 (by rw [h]; exact Rat.le_refl))
      have a2 : z2 ≤ z1 := Rat.intCast_le_intCast.1 (mul_pw_le.1 (by rw [h]; exact Rat.le_refl))
      omega
    · intro h; rw [h]
  simp only [e1]
  rfl
/-! ### Numbers of the format -/
/-- A number of the format. -/
def Rep (f : Format) (v : Rat) : Prop := ∃ z e : Int, z.natAbs ≤ 2 ^ (f.fractionBits + 1) ∧ f.leastPlace ≤ e ∧ v = (z : Rat) * pw e
theorem RN.exact {f : Format} {v c : Rat} (h : RN f v c) (hr : Rep f v) : c = v := by
  obtain ⟨z, e, h1, h2, rfl⟩ := hr
  have := h z e h1 h2
  exact Rat.le_antisymm (this.1 Rat.le_refl) (this.2 Rat.le_refl)
theorem RN.le {f : Format} {v c M : Rat} (h : RN f v c) (hr : Rep f M) (hv : v ≤ M) : c ≤ M := by
  obtain ⟨z, e, h1, h2, rfl⟩ := hr
  exact (h z e h1 h2).1 hv
theorem RN.ge {f : Format} {v c M : Rat} (h : RN f v c) (hr : Rep f M) (hv : M ≤ v) : M ≤ c := by
  obtain ⟨z, e, h1, h2, rfl⟩ := hr
  exact (h z e h1 h2).2 hv
theorem Rep.neg {f : Format} {v : Rat} (h : Rep f v) : Rep f (-v) := by
  obtain ⟨z, e, h1, h2, rfl⟩ := h
  exact ⟨-z, e, by omega, h2, by rw [Rat.intCast_neg]; grind⟩
/-- What a word stands for is a number of the format. -/
theorem rep_val (f : Format) {x : Nat} {a : Rat} (h : val f x = some a) : Rep f a := by
  obtain ⟨s, m, i, h1, rfl⟩ := val_some h
  have hb : m ≤ 2 ^ (f.fractionBits + 1) ∧ f.leastPlace ≤ i := by
    unfold Format.read at h1
    simp only [] at h1
    have hB : f.binade = 2 ^ f.fractionBits := rfl
    have hB2 : 2 ^ (f.fractionBits + 1) = 2 * f.binade := by rw [hB, Nat.pow_succ, Nat.mul_comm]
    split at h1
    · cases h1; constructor <;> omega
    · split at h1
      · injection h1 with e1 e2 e3
        have := Nat.mod_lt (x % f.signWeight) (show 0 < f.binade from Nat.two_pow_pos _)
        constructor
        · omega
        · omega
      · split at h1 <;> cases h1
  refine ⟨if s then -(m : Int) else m, i, ?_, hb.2, ?_⟩
  · split <;> simp [hb.1]
  · have this : (((m : Nat) : Int) : Rat) = ((m : Nat) : Rat) := rfl
    cases s
    · simp only [sg, Bool.false_eq_true, if_false, this]
    · simp only [sg, if_true, Rat.intCast_neg]
      rw [this]; grind
/-- Great numbers are not of the format. -/
theorem rep_int (f : Format) (hE : f.leastPlace ≤ 0) (z : Int) (h : z.natAbs ≤ 2 ^ (f.fractionBits + 1)) : Rep f (z : Rat) := ⟨z, 0, h, hE, by rw [pw_zero]; grind⟩
theorem fits_of_abs {f : Format} {v M : Rat} (hr : Rep f M) (hM : M < pw (topOf f)) (h1 : v ≤ M) (h2 : -M ≤ v) : FitsS f v := by
  obtain ⟨z, e, h3, h4, rfl⟩ := hr
  have h0 : (0 : Rat) ≤ (z : Rat) * pw e := by grind
  have hz : 0 ≤ z := by
    have : (0 : Rat) * pw e ≤ (z : Rat) * pw e := by rw [Rat.zero_mul]; exact h0
    have := mul_pw_le.1 this
    exact Rat.intCast_le_intCast.1 (by simpa using this)
  have hc := natAbs_cast hz
  exact ⟨z.natAbs, e, h3, h4, by rw [hc]; exact h1, by rw [hc]; exact h2, by rw [hc]; exact hM⟩
/-! ### Other words -/
theorem val_zero (f : Format) : val f (f.word false 0) = some 0 := by
  unfold val
  have hI : 0 < f.binade := Nat.two_pow_pos _
  unfold Format.read Format.word
  simp [dval, sg, hI]
theorem int_rn (f : Format) (hE : 2 ≤ f.exponentBits) (n : Int) (h : FitsS f (n : Rat)) : ∃ c, val f (f.write (.number (n < 0) n.natAbs 0)) = some c ∧ RN f (n : Rat) c := by
  have e1 : sg (decide (n < 0)) ((n.natAbs : Nat) * pw 0) = (n : Rat) := by
    rw [pw_zero, Rat.mul_one]
    exact sg_natAbs _ _ (fun _ => rfl)
  have := write_rn f hE (decide (n < 0)) n.natAbs 0 (by rw [e1]; exact h)
  rw [e1] at this
  exact this
/-- The same number with the other sign. -/
theorem val_opp (f : Format) {x : Nat} {a : Rat} (h : val f x = some a) (hx : x < 2 ^ f.width) : val f (x ^^^ 2 ^ (f.exponentBits + f.fractionBits)) = some (-a) := by
  obtain ⟨s, m, i, h1, rfl⟩ := val_some h
  have hS : f.signWeight = 2 ^ (f.exponentBits + f.fractionBits) := rfl
  have hw : 2 ^ f.width = 2 * f.signWeight := by rw [hS, ← Nat.pow_succ']; congr 1; unfold Format.width; omega
  rw [← hS]
  have hpos : 0 < f.signWeight := Nat.two_pow_pos _
  have hmod : (x ^^^ f.signWeight) % f.signWeight = x % f.signWeight := by
    rw [hS, Nat.xor_mod_two_pow]; simp
  have hdiv : ((x ^^^ f.signWeight) / f.signWeight % 2 == 1) = !(x / f.signWeight % 2 == 1) := by
    have hxd : x / f.signWeight < 2 := by rw [Nat.div_lt_iff_lt_mul hpos]; omega
    have e : (x ^^^ f.signWeight) / f.signWeight = (x / f.signWeight) ^^^ 1 := by
      rw [hS, Nat.xor_div_two_pow, Nat.div_self (Nat.two_pow_pos _)]
    rw [e]
    have h01 : ∀ q : Nat, q < 2 → q = 0 ∨ q = 1 := by omega
    rcases h01 _ hxd with h | h <;> rw [h] <;> rfl
  unfold val Format.read at *
  simp only [hmod, hdiv]
  simp only [] at h1
  have hg : ∀ r : Rat, sg (!s) r = - sg s r := by intro r; cases s <;> simp [sg]
  split at h1
  · rename_i hc; rw [if_pos hc]; cases h1; simp only [dval, hg]
  · rename_i hc
    rw [if_neg hc]
    split at h1
    · rename_i hd; rw [if_pos hd]; cases h1; simp only [dval, hg]
    · split at h1 <;> cases h1
/-- From one format to another. -/
theorem conv_rn {f : Format} (g : Format) (hE : 2 ≤ g.exponentBits) {x : Nat} {a : Rat} (hx : val f x = some a) (h : FitsS g a) :
    ∃ s m i, f.read x = .number s m i ∧ ∃ c, val g (g.write (.number s m i)) = some c ∧ RN g a c := by
  obtain ⟨s, m, i, h1, rfl⟩ := val_some hx
  exact ⟨s, m, i, h1, write_rn g hE s m i h⟩
theorem val_isInf {f : Format} {x : Nat} {a : Rat} (h : val f x = some a) : (f.read x).isInfinity = false := by
  obtain ⟨s, m, i, h1, _⟩ := val_some h
  rw [h1]; rfl
end Go.Proofs.YtpngjpiodhpbnaaW.Fl
