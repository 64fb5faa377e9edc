/- What the program's law FnCuts computes is true, for all bytes: of the conditions the lengths and the bytes' bounds are looked at. -/
import Derived.Test.YtpngjpiodhpbnaaFnCutsCuts
import Derived.Test.YtpngjpiodhpbnaaPFnCutsx8
namespace Go.Proofs.Ytpngjpiodhpbnaa.PurePFnCuts
open Go Go.RowKit Go.Proofs.Ytpngjpiodhpbnaa.PFnCuts Go.Proofs.YtpngjpiodhpbnaaW.PrintWords Go.Proofs.YtpngjpiodhpbnaaW.PrintLast Go.Proofs.YtpngjpiodhpbnaaW.Fl
theorem b10At_some {l : List Int} (h : Bytes l) (a n : Int) (h0 : 0 ≤ a) (h1 : a ≤ 1000) (hn : 2 ≤ n) : ∃ v, laws_b10At.f l a n = some v ∧ 0 ≤ v ∧ v < n := by
  unfold laws_b10At.f
  rw [if_neg (by omega)]
  by_cases c : a < (l.length : Int)
  · rw [if_pos c, if_pos h0, if_neg (by omega)]
    have := h.get a
    rw [wrap64_id (by omega) (by omega)]
    exact ⟨_, rfl, Int.tmod_nonneg _ (by omega), Int.tmod_lt_of_pos _ (by omega)⟩
  · rw [if_neg c, if_neg (by omega), wrap64_id (n := a * 37) (by omega) (by omega), wrap64_id (by omega) (by omega)]
    exact ⟨_, rfl, Int.tmod_nonneg _ (by omega), Int.tmod_lt_of_pos _ (by omega)⟩
theorem ints_same (l : List Int) (hl : l.length ≤ 1000) : Evt (fun k => laws_b10Ints.f k l l) true := by
  have loop : ∀ (n i : Nat), i + n = l.length → Evt (fun k => laws_b10Ints.l0 k l l l.length (i : Nat)) true := by
    intro n
    induction n with
    | zero =>
      intro i hi
      refine Evt.succ ?_
      simp only [laws_b10Ints.l0]
      exact Evt.neg (by omega) (Evt.pure _)
    | succ n ih =>
      intro i hi
      refine Evt.succ ?_
      simp only [laws_b10Ints.l0]
      refine Evt.pos (by omega) (Evt.pos (by omega) (Evt.pos (by omega) (Evt.pos (by omega) (Evt.pos trivial ?_))))
      rw [wrap64_id (by omega) (by omega), show (i : Int) + 1 = ((i + 1 : Nat) : Int) by omega]
      exact ih (i + 1) (by omega)
  unfold laws_b10Ints.f
  exact Evt.pos rfl (loop l.length 0 (by omega))
theorem same_self {x : Nat} {e : Nat} {m : Int} (h : Dy .f32 e x m) : spec_SameNumber.f x x = some true := by
  unfold spec_SameNumber.f spec_l01Same.f spec_l01Bits.f
  rw [h.fne_self]
  simp [f32bits]
/-- The two sums over a block's cuts. -/
theorem lagrange {bs : List (List S34)} {s : Int} {sel sel' : Nat → Nat} : ∀ k : Nat, (∀ i : Nat, i < k → BestAt s (rd_L4 bs (i : Int)) (sel i)) → Valid bs sel' k →
    4 * sumM bs sel k + s * sumB bs sel k ≤ 4 * sumM bs sel' k + s * sumB bs sel' k
  | 0, _, _ => by simp [sumM, sumB]
  | k + 1, h, hv => by
    have h1 := lagrange k (fun i hi => h i (by omega)) (fun i hi => hv i (by omega))
    have h2 := (h k (by omega)).2 (sel' k) (hv k (by omega))
    simp only [sumM, sumB, Int.mul_add]
    omega
section
variable {code more : List Int} {bs : List (List S34)} (hg : GoodB bs) (h1 : 1 ≤ bs.length)
include hg h1
theorem hull_loop {out : List Int} (hup : ∀ i : Nat, i + 1 < out.length → rd out (i : Int) < rd out ((i : Int) + 1)) (hin : ∀ i : Nat, i < out.length → rd out (i : Int) < (rd_L4 bs 0).length) (h5 : out.length ≤ 5) : Evt (fun k => laws_FnCuts.j5 k bs out false) true := by
  have _used := And.intro hg h1
  have loop : ∀ (n i : Nat), i + n = out.length → Evt (fun k => laws_FnCuts.l2 k bs out out.length (i : Nat)) true := by
    intro n
    induction n with
    | zero =>
      intro i hi
      refine Evt.succ ?_
      simp only [laws_FnCuts.l2]
      exact Evt.neg (by omega) (Evt.pure _)
    | succ n ih =>
      intro i hi
      have e : wrap64 ((i : Int) + 1) = ((i + 1 : Nat) : Int) := by rw [wrap64_id (by omega) (by omega)]; omega
      refine Evt.succ ?_
      simp only [laws_FnCuts.l2]
      rw [e]
      refine Evt.pos (by omega) ?_
      by_cases c : (i : Int) > 0
      · obtain ⟨j, rfl⟩ : ∃ j, i = j + 1 := ⟨i - 1, by omega⟩
        have e2 : wrap64 (((j + 1 : Nat) : Int) - 1) = (j : Int) := by rw [wrap64_id (by omega) (by omega)]; omega
        have u := hup j (by omega)
        have v := hin (j + 1) (by omega)
        rw [show ((j : Int) + 1) = ((j + 1 : Nat) : Int) by omega] at u
        rw [e2]
        exact Evt.pos c (Evt.pos (by omega) (Evt.pos (by omega) (Evt.pos (by omega) (Evt.pos (by omega) (Evt.neg (by omega) (Evt.pos (by omega) (Evt.neg (by omega) (ih (j + 1 + 1) (by omega)))))))))
      · exact Evt.neg c (ih (i + 1) (by omega))
  refine Evt.succ ?_
  simp only [laws_FnCuts.j5]
  exact Evt.neg (by decide) (loop out.length 0 (by omega))
theorem used_loop {a : Nat} {out : List Int} (sel : Nat → Nat) (hv : Valid bs sel bs.length) (hb : sumB bs sel bs.length ≤ a) (ho : out.length = bs.length) (hs : ∀ i : Nat, i < bs.length → rd out (i : Int) = (sel i : Int)) : Evt (fun k => laws_FnCuts.j3 k bs a out false) true := by
  have h4 := hg.1
  have loop : ∀ (n i : Nat), i + n = bs.length → Evt (fun k => laws_FnCuts.l1 k bs a out (sumB bs sel i) bs.length (i : Nat)) true := by
    intro n
    induction n with
    | zero =>
      intro i hi
      have e : i = bs.length := by omega
      subst e
      have hl := hg.2 _ (rdL3_mem bs 0 (by omega))
      have hlen := hl.len
      rw [show ((0 : Nat) : Int) = 0 from rfl] at hl hlen
      obtain ⟨o, k1, k2, k3, k4, k5, k6, k7⟩ := edge_costs hl
      have e1 : wrap64 ((o.length : Int) - 1) = (o.length : Int) - 1 := wrap64_id (by omega) (by omega)
      have e2 : wrap64 (((rd_L4 bs 0).length : Int) - 1) = ((rd_L4 bs 0).length : Int) - 1 := wrap64_id (by omega) (by omega)
      refine Evt.succ ?_
      simp only [laws_FnCuts.l1]
      refine Evt.neg (by omega) (Evt.pos (by omega) (Evt.bind k7 (Evt.pos rfl ?_)))
      simp only []
      rw [e1, e2]
      refine Evt.neg (by omega) (Evt.neg (by omega) (Evt.pos (by omega) (Evt.pos k3 ?_)))
      exact Evt.pos (by omega) (Evt.pos (by omega) (Evt.pos k4 (Evt.bind (costs_impl hl) (hull_loop hg h1 k5 k6 k2))))
    | succ n ih =>
      intro i hi
      have hl := hg.2 _ (rdL3_mem bs i (by omega))
      have hn := sumB_nonneg hg i (by omega) (fun j hj => hv j (by omega))
      have hi' := hv i (by omega)
      obtain ⟨_, m0, m1, b0, b1⟩ := hl.at_ (sel i) hi'
      have eb : (rd_T34 (rd_L4 bs (i : Int)) ((sel i : Nat) : Int)).f0 = qb (rd_L4 bs (i : Int)) (sel i) := rfl
      refine Evt.succ ?_
      simp only [laws_FnCuts.l1]
      rw [hs i (by omega), eb]
      refine Evt.pos (by omega) (Evt.pos (by omega) (Evt.pos (by omega) (Evt.pos (by omega) (Evt.pos (by omega) (Evt.pos (by omega) ?_)))))
      rw [wrap64_id (n := (i : Int) + 1) (by omega) (by omega), wrap64_id (by omega) (by omega), show (i : Int) + 1 = ((i + 1 : Nat) : Int) by omega]
      exact ih (i + 1) (by omega)
  refine Evt.succ ?_
  simp only [laws_FnCuts.j3]
  refine Evt.neg (by decide) ?_
  rw [ho]
  exact loop bs.length 0 (by omega)
theorem budgets (hm : Bytes more) : Evt (fun k => laws_FnCuts.j2 k more bs false) true := by
  have h4 := hg.1
  obtain ⟨β, hβ, b0, b1⟩ := b10At_some hm 1 60 (by omega) (by omega) (by omega)
  obtain ⟨a, rfl⟩ : ∃ a : Nat, β = (a : Int) := ⟨β.toNat, by omega⟩
  obtain ⟨o1, v1, p1, i1, s1⟩ := best_cuts hg h1 a (by omega)
  obtain ⟨o2, v2, p2, i2, s2⟩ := best_cuts hg h1 (a + 5) (by omega)
  obtain ⟨sel, q1, q2, q3, q4⟩ := p1.sel
  have hle := p2.low sel q1 (by omega)
  refine Evt.succ ?_
  simp only [laws_FnCuts.j2]
  refine Evt.neg (by decide) (Evt.cbind hβ (Evt.bind i1 ?_))
  rw [wrap64_id (by omega) (by omega), show (a : Int) + 5 = ((a + 5 : Nat) : Int) by omega]
  refine Evt.bind i2 (Evt.bind s1 (Evt.pos rfl (Evt.pos rfl (Evt.pos rfl (Evt.pos (by simp [p1.len]) (Evt.pos (by simp [p2.len]) (Evt.bind (ints_same o1 (by have := p1.len; omega)) (Evt.pos rfl (Evt.cbind (same_self p1.val) (Evt.pos rfl ?_))))))))))
  simp only []
  rw [p2.val.fgt p1.val, decide_eq_false (by omega)]
  exact used_loop hg h1 sel q1 q2 p1.len q4
theorem first_part (hm : Bytes more) {s : Int} (hs0 : 0 ≤ s) {out : List Int} {y : Nat} {sel : Nat → Nat} (ho : out.length = bs.length) (hsel : ∀ i : Nat, i < bs.length → rd out (i : Int) = (sel i : Int) ∧ BestAt s (rd_L4 bs (i : Int)) (sel i)) (hy : Dy .f32 2 y (sumM bs sel bs.length)) :
    Evt (fun k => laws_FnCuts.j0 k more bs out (sumB bs sel bs.length) y false) true := by
  have h4 := hg.1
  have hv : Valid bs sel bs.length := fun i hi => (hsel i hi).2.1
  have hn := sumB_nonneg hg bs.length (Nat.le_refl _) hv
  have loop : ∀ (n i : Nat) (z : Nat), i + n = bs.length → Dy .f64 2 z (sumM bs sel i) → Evt (fun k => laws_FnCuts.l0 k more bs out (sumB bs sel bs.length) y (sumB bs sel i) z bs.length (i : Nat)) true := by
    intro n
    induction n with
    | zero =>
      intro i z hi hz
      have e : i = bs.length := by omega
      subst e
      obtain ⟨a, ha⟩ : ∃ a : Nat, sumB bs sel bs.length = (a : Int) := ⟨(sumB bs sel bs.length).toNat, by omega⟩
      obtain ⟨o1, v1, p1, i1, s1⟩ := best_cuts hg h1 a (by omega)
      have l1 := p1.low sel hv (by omega)
      obtain ⟨sel1, q1, q2, q3, q4⟩ := p1.sel
      have l2 := lagrange (s := s) bs.length (fun i hi => (hsel i hi).2) q1
      have l3 : s * sumB bs sel1 bs.length ≤ s * sumB bs sel bs.length := Int.mul_le_mul_of_nonneg_left (by omega) hs0
      have hval : dm v1 = sumM bs sel bs.length := by omega
      have d1 := p1.val
      rw [hval] at d1
      obtain ⟨M, hM⟩ : ∃ M, M = sumM bs sel bs.length := ⟨_, rfl⟩
      rw [← hM] at d1 hy hz
      have hM2 : M.natAbs ≤ 1000 := by omega
      obtain ⟨yw, hyw, dy⟩ := hy.wide
      obtain ⟨vw, hvw, dv⟩ := d1.wide
      have dc : V .f64 4576918229304087675 ((5764607523034235 : Rat) / 576460752303423488) := by decide +kernel
      have c0 : (0 : Rat) < (5764607523034235 : Rat) / 576460752303423488 := by decide +kernel
      have c1 : (5764607523034235 : Rat) / 576460752303423488 ≤ 1 := by decide +kernel
      obtain ⟨c, hc⟩ : ∃ c : Rat, c = (5764607523034235 : Rat) / 576460752303423488 := ⟨_, rfl⟩
      rw [← hc] at dc c0 c1
      obtain ⟨g, hgp, dg⟩ := Dy.sub hz dy (by omega) (by omega)
      have hb := abs_dy hM2 2
      obtain ⟨u, hu⟩ : ∃ u : Rat, u = (M : Rat) * pw (-((2 : Nat) : Int)) := ⟨_, rfl⟩
      have vy : V .f64 yw u := by rw [hu]; exact dy
      have vv : V .f64 vw u := by rw [hu]; exact dv
      rw [← hu] at hb
      have e1000 : ((1000 : Nat) : Rat) = 1000 := rfl
      have e1001 : ((1001 : Nat) : Rat) = 1001 := rfl
      have hrep : Rep FloatKind.f64.format u := by rw [hu]; exact rep_dy .f64 (by omega) (by omega)
      obtain ⟨t1, w1, a1, a2, a3⟩ := add_V vy dc (fits_nat .f64 (M := 1001) (by omega) (by grind) (by grind))
      obtain ⟨t2, w2, b1, b2, b3⟩ := sub_V vy dc (fits_nat .f64 (M := 1001) (by omega) (by grind) (by grind))
      have f1 : u ≤ w1 := a3.ge hrep (by grind)
      have f2 : w2 ≤ u := b3.le hrep (by grind)
      have gap : laws_b10Gap.f z yw = some g := by
        unfold laws_b10Gap.f
        rw [hz.flt dy, decide_eq_false (by omega), if_neg (by decide), hgp, Option.bind_some]
      refine Evt.succ ?_
      simp only [laws_FnCuts.l0]
      refine Evt.neg (by omega) ?_
      rw [ha]
      refine Evt.bind i1 (Evt.pos trivial (Evt.cbind hyw (Evt.cbind gap (Evt.neg ?_ (Evt.pos rfl (Evt.pos (by simp [p1.len]) (Evt.cbind hvw (Evt.cbind a1 (Evt.neg ?_ (Evt.cbind b1 ?_))))))))))
      · rw [fgt_V dg dc]
        rw [show M - M = 0 by omega, show ((0 : Int) : Rat) = 0 from rfl, Rat.zero_mul]
        simp; grind
      · rw [fgt_V vv a2]; simp; grind
      · rw [flt_V vv b2, decide_eq_false (by grind)]
        exact budgets hg h1 hm
    | succ n ih =>
      intro i z hi hz
      have hl := hg.2 _ (rdL3_mem bs i (by omega))
      have hni := sumB_nonneg hg i (by omega) (fun j hj => hv j (by omega))
      have hi' := hv i (by omega)
      obtain ⟨d, m0, m1, b0, b1⟩ := hl.at_ (sel i) hi'
      have eb : (rd_T34 (rd_L4 bs (i : Int)) ((sel i : Nat) : Int)).f0 = qb (rd_L4 bs (i : Int)) (sel i) := rfl
      obtain ⟨w, hw, dw⟩ := d.wide
      obtain ⟨z2, hz2, dz2⟩ := Dy.add hz dw (by omega) (by omega)
      refine Evt.succ ?_
      simp only [laws_FnCuts.l0]
      rw [(hsel i (by omega)).1, eb]
      refine Evt.pos (by omega) (Evt.pos (by omega) (Evt.pos (by omega) (Evt.neg (by omega) (Evt.pos (by omega) (Evt.neg (by omega) (Evt.pos (by omega) (Evt.pos (by omega) (Evt.cbind hw (Evt.cbind hz2 ?_)))))))))
      rw [wrap64_id (n := (i : Int) + 1) (by omega) (by omega), wrap64_id (by omega) (by omega), show (i : Int) + 1 = ((i + 1 : Nat) : Int) by omega]
      exact ih (i + 1) z2 (by omega) dz2
  refine Evt.succ ?_
  simp only [laws_FnCuts.j0]
  refine Evt.neg (by decide) ?_
  rw [ho]
  exact loop bs.length 0 0 (by omega) (dy_zero .f64 2)
end
theorem cuts_true : laws_FnCuts.Pure := by
  intro l0 l1 _ h1 h2 _ h3 h4
  have hc := Bytes.of h1 h2
  have hm := Bytes.of h3 h4
  refine Evt.ex ?_
  unfold laws_FnCuts.f
  by_cases c : (decide ((l0.length : Int) > 1048576) || decide ((l1.length : Int) > 1048576)) = true
  · refine Evt.cbind (a := true) ?_ (Evt.pos rfl (Evt.pure _))
    unfold laws_b10Long.f
    by_cases c1 : (l0.length : Int) > 1048576
    · rw [if_pos c1]
    · rw [if_neg c1]
      rw [decide_eq_false c1, Bool.false_or] at c
      rw [c]
  · refine Evt.cbind (a := false) ?_ (Evt.neg (by decide) ?_)
    · unfold laws_b10Long.f
      simp only [Bool.or_eq_true, decide_eq_true_eq, not_or] at c
      rw [if_neg c.1, decide_eq_false c.2]
    · obtain ⟨bs, hg, hb1, hE⟩ := drawn hc
      have h4 := hg.1
      obtain ⟨s, hs, s0, s1⟩ := b10At_some hm 0 17 (by omega) (by omega) (by omega)
      obtain ⟨x, hx, dx⟩ := Dy.quo 4 (dy_int .f32 s (by omega)) (show Dy .f32 0 1098907648 ((2 ^ 4 : Nat) : Int) by unfold Dy; decide +kernel) (by omega) (by omega)
      obtain ⟨out, y, sel, ho, hsel, hy, hS⟩ := slope_cuts dx s0 (by omega) hg hb1
      have hv : Valid bs sel bs.length := fun i hi => (hsel i hi).2.1
      have hn := sumB_nonneg hg bs.length (Nat.le_refl _) hv
      refine Evt.bind hE (Evt.cbind hs (Evt.cbind hx (Evt.bind hS (Evt.pos rfl ?_))))
      simp only []
      refine Evt.pos (by omega) ?_
      rw [decide_eq_false (by omega)]
      exact first_part hg hb1 hm s0 ho hsel hy
end Go.Proofs.Ytpngjpiodhpbnaa.PurePFnCuts
namespace Go.Proofs.Ytpngjpiodhpbnaa.Pure
theorem FnCuts : Go.Proofs.Ytpngjpiodhpbnaa.PFnCuts.laws_FnCuts.Pure := Go.Proofs.Ytpngjpiodhpbnaa.PurePFnCuts.cuts_true
end Go.Proofs.Ytpngjpiodhpbnaa.Pure
