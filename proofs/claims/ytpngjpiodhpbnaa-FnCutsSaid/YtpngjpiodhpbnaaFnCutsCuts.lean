/- The cuts of drawn blocks: what the program's functions return. -/
import Derived.Test.YtpngjpiodhpbnaaFnCutsSem
import Derived.Test.YtpngjpiodhpbnaaPFnCutsx3
import Derived.Test.YtpngjpiodhpbnaaPFnCutsx7
namespace Go.Proofs.Ytpngjpiodhpbnaa.PurePFnCuts
open Go.RowKit Go.Proofs.Ytpngjpiodhpbnaa.PFnCuts Go.Proofs.YtpngjpiodhpbnaaW.PrintWords Go.Proofs.YtpngjpiodhpbnaaW.PrintLast Go.Proofs.YtpngjpiodhpbnaaW.Fl
theorem costs_ok {l : List S34} (h : GoodL l) : okCosts l := by
  refine ⟨by have := h.len; omega, fun x hx => ?_⟩
  obtain ⟨i, hi, e⟩ := List.getElem_of_mem hx
  have := h.at_ i hi
  unfold qb at this
  rw [rdT34 l i hi, e] at this
  omega
theorem blocks_ok {bs : List (List S34)} (h : GoodB bs) : okBlocks bs := ⟨by have := h.1; omega, fun l hl => costs_ok (h.2 l hl)⟩
/-- What the best cuts of a budget are. -/
structure BestOf (bs : List (List S34)) (a : Nat) (out : List Int) (v : Nat) : Prop where
  len : out.length = bs.length
  val : Dy .f32 2 v (dm v)
  sel : ∃ sel : Nat → Nat, Valid bs sel bs.length ∧ sumB bs sel bs.length ≤ a ∧ sumM bs sel bs.length = dm v ∧ ∀ i : Nat, i < bs.length → rd out (i : Int) = (sel i : Int)
  low : ∀ sel : Nat → Nat, Valid bs sel bs.length → sumB bs sel bs.length ≤ a → dm v ≤ sumM bs sel bs.length
theorem best_cuts {bs : List (List S34)} (hg : GoodB bs) (h1 : 1 ≤ bs.length) (a : Nat) (ha : a ≤ 512) :
    ∃ out v, BestOf bs a out v ∧ Evt (fun k => impl_BestCuts.f k bs a) (out, v, true) ∧ Evt (fun k => spec_BestCuts.f k bs a) (out, v, true) := by
  have h4 := hg.1
  obtain ⟨B, hBdef⟩ : ∃ B : List S60, B = List.replicate (a + 1) ⟨true, 0, 0⟩ := ⟨_, rfl⟩
  have hBlen : B.length = a + 1 := by rw [hBdef]; simp
  have hBat : ∀ b : Nat, b < a + 1 → rd_T60 B b = ⟨true, 0, 0⟩ := by
    intro b hb; rw [rdT60 B b (by omega)]; simp [hBdef]
  have h0 : ∀ b : Nat, b < a + 1 → q60 B b = 0 := by
    intro b hb; unfold q60; rw [hBat b hb]; exact dm_of (dy_zero .f32 2)
  have hS : SumRow B (a + 1) 0 := by
    refine ⟨hBlen, fun b hb => ?_⟩
    rw [h0 b hb, hBat b hb]
    exact ⟨rfl, dy_zero .f32 2, by omega, by omega⟩
  obtain ⟨t, hT⟩ := table_of bs B 0 hg.2 hS (by omega) (by omega)
  have htl := hT.len
  have hlast := hT.sum bs.length (Nat.le_refl _)
  have hrl : ∀ k : Nat, k < t.length → (rd_L7 t (k : Int)).length = a + 1 := by
    intro k hk
    have := (hT.sum (k + 1) (by omega)).1
    rwa [rdL6_succ] at this
  obtain ⟨F, hF⟩ : ∃ F, F = lastR B t := ⟨_, rfl⟩
  have hF2 : F = rd_L7 (B :: t) (bs.length : Int) := by rw [hF, hT.last]
  rw [← hF2] at hlast
  obtain ⟨f1, f2, f3, f4⟩ := hlast.2 a (by omega)
  obtain ⟨sel, v1, v2, v3, v4, v5⟩ := trace hg hT h0 bs.length (Nat.le_refl _) a (by omega)
  rw [← hF2] at v3
  obtain ⟨w1, w2⟩ := v5 (List.replicate bs.length 0) (by simp)
  have ew : wrap64 ((a : Int) + 1) = ((a + 1 : Nat) : Int) := by rw [wrap64_id (by omega) (by omega)]; omega
  have ew2 : wrap64 ((bs.length : Int) - 1) = (bs.length : Int) - 1 := wrap64_id (by omega) (by omega)
  refine ⟨back bs t bs.length a (List.replicate bs.length 0), (rd_T60 F (a : Int)).f1, ⟨w1, f2, ⟨sel, v1, v2, v3, fun i hi => ?_⟩, fun s hs hb => ?_⟩, ?_, ?_⟩
  · rw [w2 i hi, if_pos hi]
  · have := lower hg hT h0 bs.length (Nat.le_refl _) s a hs (by omega) hb
    rw [← hF2] at this
    exact this
  · unfold impl_BestCuts.f
    refine Evt.bind (blocks_impl hg h1) (Evt.pos rfl (Evt.cbind (within_true (by omega)) (Evt.succ ?_)))
    simp only [impl_BestCuts.j0]
    rw [ew]
    refine Evt.neg (by decide) (Evt.pos (by omega) (Evt.pos (by omega) (Evt.cbind rfl ?_)))
    rw [Int.toNat_natCast, List.length_replicate]
    refine impl_start a ha bs ?_
    rw [← hBdef]
    refine impl_rows a ha bs (blocks_ok hg) bs [] B [] t rfl hBlen rfl hT.tab ?_
    rw [← hF]
    refine Evt.succ ?_
    simp only [impl_BestCuts.l1, List.nil_append]
    refine Evt.neg (by omega) (Evt.pos (by omega) (Evt.pos (by rw [hlast.1]; omega) (Evt.pos f1 (Evt.cbind (show impl_IsFinite.f _ = some true by unfold impl_IsFinite.f; rw [ffin_dy f2]) (Evt.succ ?_)))))
    simp only [impl_BestCuts.j6]
    refine Evt.neg (by decide) (Evt.pos (by omega) (Evt.pos (by omega) ?_))
    rw [ew2, Int.toNat_natCast]
    exact impl_back a ha bs (by omega) t htl hrl F hlast.1 bs.length a _ (Nat.le_refl _) (by simp) v4
  · unfold spec_BestCuts.f
    refine Evt.bind (blocks_spec hg h1) (Evt.pos rfl (Evt.cbind (in_true (by omega)) (Evt.succ ?_)))
    simp only [spec_BestCuts.j0]
    rw [ew]
    refine Evt.neg (by decide) (Evt.pos (by omega) (Evt.pos (by omega) (Evt.pos (by omega) (Evt.cbind rfl ?_))))
    rw [Int.toNat_natCast, List.length_replicate]
    refine spec_start a ha bs ?_
    have key := spec_rows (r := (back bs t bs.length a (List.replicate bs.length 0), (rd_T60 F (a : Int)).f1, true)) a ha bs (blocks_ok hg) bs [] B [] t rfl hBlen rfl hT.tab ?_
    · rw [hBdef, List.map_replicate, List.map_replicate] at key
      exact key
    rw [← hF]
    refine Evt.succ ?_
    simp only [spec_BestCuts.l1, List.nil_append]
    rw [rdOf_f0, rdOf_f1]
    refine Evt.neg (by omega) (Evt.pos (by omega) (Evt.pos (by rw [List.length_map, hlast.1]; omega) (Evt.pos f1 (Evt.pos (by rw [List.length_map, hlast.1]; omega) (Evt.cbind (show spec_l01Finite.f _ = some true by unfold spec_l01Finite.f; rw [ffin_dy f2]) (Evt.succ ?_))))))
    simp only [spec_BestCuts.j7]
    refine Evt.neg (by decide) (Evt.pos (by omega) (Evt.pos (by omega) ?_))
    rw [ew2, Int.toNat_natCast]
    exact spec_back a ha bs (by omega) t htl hrl F hlast.1 bs.length a _ (Nat.le_refl _) (by simp) v4
/-! ### The cuts by a slope -/
section
variable {x3 : Nat} {s : Int} (hs : Dy .f32 4 x3 s) (hs0 : 0 ≤ s) (hs1 : s ≤ 16)
include hs hs0 hs1
theorem at_val {l : List S34} (hl : GoodL l) (i : Nat) (hi : i < l.length) : ∃ y, impl_SlopeCuts_1.f (rd_T34 l i).f0 (rd_T34 l i).f1 x3 = some y ∧ Dy .f32 4 y (4 * qm l i + s * qb l i) := by
  obtain ⟨d, m0, m1, b0, b1⟩ := hl.at_ i hi
  have e : (rd_T34 l i).f0 = qb l i := rfl
  have p1 := Int.mul_nonneg hs0 b0
  have p2 : s * qb l i ≤ 16 * 24 := Int.mul_le_mul hs1 b1 b0 (by omega)
  obtain ⟨t, h1, d1⟩ := Dy.mul hs (dy_int .f32 (qb l i) (by omega)) (by omega) (by omega)
  obtain ⟨y, h2, d2⟩ := Dy.add (d.up 2) d1 (by omega) (by omega)
  refine ⟨y, ?_, by have e2 : qm l i * ((2 ^ 2 : Nat) : Int) = 4 * qm l i := by omega
                    rw [e2] at d2; exact d2⟩
  unfold impl_SlopeCuts_1.f
  rw [e, h1, Option.bind_some, h2, Option.bind_some]
def BestAt (s : Int) (l : List S34) (j : Nat) : Prop := j < l.length ∧ ∀ i : Nat, i < l.length → 4 * qm l j + s * qb l j ≤ 4 * qm l i + s * qb l i
theorem slope_block {x8 : List Int} {x9 : Int} {x10 : Nat} {x26 : List (List S34)} {x27 : Int} {x28 : Nat} {m9 : Int} {l : List S34} (hl : GoodL l) (h8 : x8.length ≤ 4) (h9 : 0 ≤ x9 ∧ x9 ≤ 1000) (h10 : Dy .f32 2 x10 m9) (hm9 : 0 ≤ m9 ∧ m9 ≤ 1000) (h28 : x28 ≤ 10) :
    ∃ (j y : Nat), BestAt s l j ∧ Dy .f32 2 y (m9 + qm l j) ∧ ∀ r : List Int × Int × Nat × Bool, Evt (fun k => impl_SlopeCuts.l0 k x3 (x8 ++ [(j : Int)]) (x9 + qb l j) y x26 x27 (x28 + 1 : Nat)) r →
      Evt (fun k => impl_SlopeCuts.l1 k x3 x8 x9 x10 l 0 x26 x27 x28 l l.length 0) r := by
  have hlen := hl.len
  have loop : ∀ (n i j : Nat), i + n = l.length → j < l.length → (∀ j' : Nat, j' < i → 4 * qm l j + s * qb l j ≤ 4 * qm l j' + s * qb l j') →
      ∃ (j' y : Nat), BestAt s l j' ∧ Dy .f32 2 y (m9 + qm l j') ∧ ∀ r : List Int × Int × Nat × Bool, Evt (fun k => impl_SlopeCuts.l0 k x3 (x8 ++ [(j' : Int)]) (x9 + qb l j') y x26 x27 (x28 + 1 : Nat)) r →
        Evt (fun k => impl_SlopeCuts.l1 k x3 x8 x9 x10 l (j : Nat) x26 x27 x28 l l.length (i : Nat)) r := by
    intro n
    induction n with
    | zero =>
      intro i j hi hj hb
      have e : i = l.length := by omega
      subst e
      obtain ⟨d, m0, m1, b0, b1⟩ := hl.at_ j hj
      obtain ⟨y, hy, dy⟩ := Dy.add h10 d (by omega) (by omega)
      have eb : (rd_T34 l (j : Int)).f0 = qb l j := rfl
      refine ⟨j, y, ⟨hj, hb⟩, dy, fun r hk => Evt.succ ?_⟩
      simp only [impl_SlopeCuts.l1]
      refine Evt.neg (by omega) (Evt.pos (by omega) (Evt.pos (by omega) (Evt.pos (by omega) (Evt.cbind hy ?_))))
      rw [eb, wrap64_id (by omega) (by omega), wrap64_id (by omega) (by omega), show (x28 : Int) + 1 = ((x28 + 1 : Nat) : Int) by omega]
      exact hk
    | succ n ih =>
      intro i j hi hj hb
      obtain ⟨y1, e1, d1⟩ := at_val hs hs0 hs1 hl i (by omega)
      obtain ⟨y2, e2, d2⟩ := at_val hs hs0 hs1 hl j hj
      have ew : wrap64 ((i : Int) + 1) = ((i + 1 : Nat) : Int) := by rw [wrap64_id (by omega) (by omega)]; omega
      by_cases c : 4 * qm l i + s * qb l i < 4 * qm l j + s * qb l j
      · obtain ⟨j', y, g1, g2, g3⟩ := ih (i + 1) i (by omega) (by omega) fun j' hj' => by
          by_cases e : j' = i
          · subst e; omega
          · have := hb j' (by omega); omega
        refine ⟨j', y, g1, g2, fun r hk => Evt.succ ?_⟩
        simp only [impl_SlopeCuts.l1]
        refine Evt.pos (by omega) (Evt.pos (by omega) (Evt.pos (by omega) (Evt.cbind e1 (Evt.pos (by omega) (Evt.pos (by omega) (Evt.cbind e2 ?_))))))
        rw [ew, d1.flt d2]
        exact Evt.pos (by simp [c]) (g3 r hk)
      · obtain ⟨j', y, g1, g2, g3⟩ := ih (i + 1) j (by omega) hj fun j' hj' => by
          by_cases e : j' = i
          · subst e; omega
          · exact hb j' (by omega)
        refine ⟨j', y, g1, g2, fun r hk => Evt.succ ?_⟩
        simp only [impl_SlopeCuts.l1]
        refine Evt.pos (by omega) (Evt.pos (by omega) (Evt.pos (by omega) (Evt.cbind e1 (Evt.pos (by omega) (Evt.pos (by omega) (Evt.cbind e2 ?_))))))
        rw [ew, d1.flt d2]
        exact Evt.neg (by simp [c]) (g3 r hk)
  exact loop l.length 0 0 (by omega) (by omega) (fun j' h => by omega)
theorem slope_cuts {bs : List (List S34)} (hg : GoodB bs) (h1 : 1 ≤ bs.length) :
    ∃ (out : List Int) (y : Nat) (sel : Nat → Nat), out.length = bs.length ∧ (∀ i : Nat, i < bs.length → rd out (i : Int) = (sel i : Int) ∧ BestAt s (rd_L4 bs (i : Int)) (sel i)) ∧ Dy .f32 2 y (sumM bs sel bs.length) ∧
      Evt (fun k => impl_SlopeCuts.f k bs x3) (out, sumB bs sel bs.length, y, true) := by
  have h4 := hg.1
  have loop : ∀ (n i : Nat) (x8 : List Int) (x9 : Int) (x10 : Nat) (sel : Nat → Nat), i + n = bs.length → x8.length = i → x9 = sumB bs sel i → Dy .f32 2 x10 (sumM bs sel i) →
      (∀ j : Nat, j < i → rd x8 (j : Int) = (sel j : Int) ∧ BestAt s (rd_L4 bs (j : Int)) (sel j)) →
      ∃ (out : List Int) (y : Nat) (sel : Nat → Nat), out.length = bs.length ∧ (∀ i : Nat, i < bs.length → rd out (i : Int) = (sel i : Int) ∧ BestAt s (rd_L4 bs (i : Int)) (sel i)) ∧ Dy .f32 2 y (sumM bs sel bs.length) ∧
        Evt (fun k => impl_SlopeCuts.l0 k x3 x8 x9 x10 bs bs.length (i : Nat)) (out, sumB bs sel bs.length, y, true) := by
    intro n
    induction n with
    | zero =>
      intro i x8 x9 x10 sel hi h8 h9 h10 hj
      have e : i = bs.length := by omega
      subst e
      refine ⟨x8, x10, sel, h8, hj, h10, Evt.succ ?_⟩
      simp only [impl_SlopeCuts.l0]
      refine Evt.neg (by omega) (Evt.cbind (show impl_IsFinite.f _ = some true by unfold impl_IsFinite.f; rw [ffin_dy h10]) (Evt.pos rfl ?_))
      rw [h9]; exact Evt.pure _
    | succ n ih =>
      intro i x8 x9 x10 sel hi h8 h9 h10 hj
      have hl := hg.2 _ (rdL3_mem bs i (by omega))
      have hv : Valid bs sel i := fun j hj' => (hj j hj').2.1
      have hn := sumB_nonneg hg i (by omega) hv
      obtain ⟨j, y, g1, g2, g3⟩ := slope_block hs hs0 hs1 (x8 := x8) (x9 := x9) (x26 := bs) (x27 := (bs.length : Int)) (x28 := i) hl (by omega) (by omega) h10 (by omega) (by omega)
      have e0 : ∀ i', i' < i → (fun i' => if i' = i then j else sel i') i' = sel i' := fun i' hi' => by simp; omega
      obtain ⟨out, z, sel', k1, k2, k3, k4⟩ := ih (i + 1) (x8 ++ [(j : Int)]) (x9 + qb (rd_L4 bs (i : Int)) j) y (fun i' => if i' = i then j else sel i') (by omega) (by simp [h8])
        (by simp only [sumB, if_true]; rw [sumB_congr i e0, h9]) (by simp only [sumM, if_true]; rw [sumM_congr i e0]; exact g2)
        (fun j' hj' => by
          by_cases e : j' = i
          · subst e
            simp only [if_true]
            exact ⟨by have := rd_append x8 (j : Int) []; rw [h8] at this; exact this, g1⟩
          · simp only [e, if_false]
            have := hj j' (by omega)
            refine ⟨?_, this.2⟩
            rw [← this.1]
            unfold rd
            rw [List.getD_eq_getElem?_getD, List.getD_eq_getElem?_getD, Int.toNat_natCast, List.getElem?_append_left (by omega)])
      refine ⟨out, z, sel', k1, k2, k3, Evt.succ ?_⟩
      simp only [impl_SlopeCuts.l0]
      refine Evt.pos (by omega) (Evt.pos (by omega) (Evt.pos (by omega) ?_))
      exact g3 _ k4
  obtain ⟨out, y, sel, h2, h3, h5, hE⟩ := loop bs.length 0 [] 0 0 (fun _ => 0) (by omega) rfl rfl (dy_zero .f32 2) (fun j h => by omega)
  refine ⟨out, y, sel, h2, h3, h5, ?_⟩
  unfold impl_SlopeCuts.f
  refine Evt.bind (blocks_impl hg h1) (Evt.pos rfl (Evt.cbind (show impl_isLeast.f x3 = some true from ?_) (Evt.succ ?_)))
  · unfold impl_isLeast.f impl_IsFinite.f
    rw [ffin_dy hs]
    simp [hs.fge (dy_zero .f32 4), hs0]
  · simp only [impl_SlopeCuts.j0]
    exact Evt.neg (by decide) hE
end
/-! ### The edge of a block -/
theorem edge_costs {l : List S34} (hl : GoodL l) : ∃ out : List Int, 1 ≤ out.length ∧ out.length ≤ 5 ∧ rd out 0 = 0 ∧ rd out ((out.length : Int) - 1) = (l.length : Int) - 1 ∧ (∀ i : Nat, i + 1 < out.length → rd out (i : Int) < rd out ((i : Int) + 1)) ∧ (∀ i : Nat, i < out.length → rd out (i : Int) < l.length) ∧
    Evt (fun k => impl_EdgeCosts.f k l) (out, true) := by
  have hlen := hl.len
  have inner : ∀ (n i j m : Nat) (q : Nat) (out : List Int), i < j → j + n = l.length → (m = i ∧ j = i + 1 ∨ i < m ∧ m < j) → j ≤ l.length → i + 1 < l.length → out.length ≤ 4 →
      ∃ m' : Nat, i < m' ∧ m' < l.length ∧ ∀ r : List Int × Bool, Evt (fun k => impl_EdgeCosts.l0 k l (out ++ [(m' : Int)]) (m' : Nat)) r → Evt (fun k => impl_EdgeCosts.l1 k l out (i : Nat) (m : Nat) q (j : Nat)) r := by
    intro n
    induction n with
    | zero =>
      intro i j m q out hij hj hm hjl hil ho
      have hm2 : i < m ∧ m < j := by omega
      refine ⟨m, hm2.1, by omega, fun r hk => Evt.succ ?_⟩
      simp only [impl_EdgeCosts.l1]
      exact Evt.neg (by omega) (Evt.pos (by omega) hk)
    | succ n ih =>
      intro i j m q out hij hj hm hjl hil ho
      obtain ⟨di, mi0, mi1, bi0, bi1⟩ := hl.at_ i (by omega)
      obtain ⟨dj, mj0, mj1, bj0, bj1⟩ := hl.at_ j (by omega)
      have mono : ∀ d : Nat, i + d + 1 < l.length → qb l i < qb l (i + d + 1) := by
        intro d
        induction d with
        | zero => intro h; exact (hl.up i h).1
        | succ d ihd => intro h; have := ihd (by omega); have := (hl.up (i + d + 1) (by omega)).1; rw [show i + (d + 1) + 1 = i + d + 1 + 1 by omega]; omega
      have hbb : qb l i < qb l j := by have := mono (j - i - 1) (by omega); rwa [show i + (j - i - 1) + 1 = j by omega] at this
      have ewj : wrap64 ((j : Int) + 1) = ((j + 1 : Nat) : Int) := by rw [wrap64_id (by omega) (by omega)]; omega
      have ebi : (rd_T34 l (i : Int)).f0 = qb l i := rfl
      have ebj : (rd_T34 l (j : Int)).f0 = qb l j := rfl
      obtain ⟨t, ht, dt⟩ := Dy.sub di dj (by omega) (by omega)
      have dd := dy_int .f32 (qb l j - qb l i) (by omega)
      obtain ⟨q2, hq2, _⟩ := div_Bd (n := 1) (M := 200) (show Bd .f32 t 200 from ⟨_, dt, (abs_dy (M := 200) (by omega) 2).1, (abs_dy (M := 200) (by omega) 2).2⟩) dd (by
        rw [show -((0 : Nat) : Int) = 0 from rfl, pw_zero, Rat.mul_one]
        have : (1 : Rat) ≤ ((qb l j - qb l i : Int) : Rat) := Rat.intCast_le_intCast.2 (show (1 : Int) ≤ qb l j - qb l i by omega)
        rw [show ((1 : Nat) : Rat) = 1 from rfl, Rat.mul_one]; exact this) (by omega)
      obtain ⟨m1, g1, g2, g3⟩ := ih i (j + 1) j q2 out (by omega) (by omega) (.inr ⟨hij, by omega⟩) (by omega) hil ho
      by_cases c : (m : Int) = (i : Int)
      · refine ⟨m1, g1, g2, fun r hk => Evt.succ ?_⟩
        simp only [impl_EdgeCosts.l1]
        refine Evt.pos (by omega) (Evt.pos (by omega) (Evt.pos (by omega) (Evt.pos (by omega) (Evt.cbind ht ?_))))
        rw [ebi, ebj, wrap64_id (by omega) (by omega), ewj]
        exact Evt.cbind hq2 (Evt.pos c (g3 r hk))
      · obtain ⟨m2, k1, k2, k3⟩ := ih i (j + 1) m q out (by omega) (by omega) (.inr (by omega)) (by omega) hil ho
        by_cases c2 : fge .f32 q2 q = true
        · refine ⟨m1, g1, g2, fun r hk => Evt.succ ?_⟩
          simp only [impl_EdgeCosts.l1]
          refine Evt.pos (by omega) (Evt.pos (by omega) (Evt.pos (by omega) (Evt.pos (by omega) (Evt.cbind ht ?_))))
          rw [ebi, ebj, wrap64_id (by omega) (by omega), ewj]
          exact Evt.cbind hq2 (Evt.neg c (Evt.pos c2 (g3 r hk)))
        · refine ⟨m2, k1, k2, fun r hk => Evt.succ ?_⟩
          simp only [impl_EdgeCosts.l1]
          refine Evt.pos (by omega) (Evt.pos (by omega) (Evt.pos (by omega) (Evt.pos (by omega) (Evt.cbind ht ?_))))
          rw [ebi, ebj, wrap64_id (by omega) (by omega), ewj]
          exact Evt.cbind hq2 (Evt.neg c (Evt.neg c2 (k3 r hk)))
  have outer : ∀ (n i : Nat) (out : List Int), i + n + 1 = l.length → 1 ≤ out.length → out.length ≤ i + 1 → rd out 0 = 0 → rd out ((out.length : Int) - 1) = (i : Int) → (∀ j : Nat, j + 1 < out.length → rd out (j : Int) < rd out ((j : Int) + 1)) → (∀ j : Nat, j < out.length → rd out (j : Int) < l.length) →
      ∃ out' : List Int, 1 ≤ out'.length ∧ out'.length ≤ 5 ∧ rd out' 0 = 0 ∧ rd out' ((out'.length : Int) - 1) = (l.length : Int) - 1 ∧ (∀ j : Nat, j + 1 < out'.length → rd out' (j : Int) < rd out' ((j : Int) + 1)) ∧ (∀ j : Nat, j < out'.length → rd out' (j : Int) < l.length) ∧
        Evt (fun k => impl_EdgeCosts.l0 k l out (i : Nat)) (out', true) := by
    intro n
    induction n using Nat.strongRecOn with
    | ind n ih =>
      intro i out hi h1 h5 h0 hlast hup hin
      have ew : wrap64 ((l.length : Int) - 1) = (l.length : Int) - 1 := wrap64_id (by omega) (by omega)
      by_cases c : n = 0
      · refine ⟨out, h1, by omega, h0, by omega, hup, hin, Evt.succ ?_⟩
        simp only [impl_EdgeCosts.l0]
        rw [ew]
        exact Evt.neg (by omega) (Evt.pure _)
      · obtain ⟨m, g1, g2, g3⟩ := inner (l.length - (i + 1)) i (i + 1) i 0 out (by omega) (by omega) (.inl ⟨rfl, rfl⟩) (by omega) (by omega) (by omega)
        have rdl : ∀ j : Nat, j < out.length → rd (out ++ [(m : Int)]) (j : Int) = rd out (j : Int) := by
          intro j hj
          unfold rd
          rw [List.getD_eq_getElem?_getD, List.getD_eq_getElem?_getD, Int.toNat_natCast, List.getElem?_append_left (by omega)]
        have rdn : rd (out ++ [(m : Int)]) (out.length : Int) = (m : Int) := rd_append out (m : Int) []
        have hl1 : ((out ++ [(m : Int)]).length : Int) - 1 = (out.length : Int) := by simp
        obtain ⟨o', k1, k2, k3, k4, k5, k6, k7⟩ := ih (l.length - m - 1) (by omega) m (out ++ [(m : Int)]) (by omega) (by simp) (by simp; omega) (by have e := rdl 0 (by omega); rw [show ((0 : Nat) : Int) = 0 from rfl] at e; rw [e]; exact h0) (by rw [hl1, rdn])
          (fun j hj => by
            simp at hj
            by_cases e : j + 1 < out.length
            · have := rdl (j + 1) e
              rw [show ((j + 1 : Nat) : Int) = (j : Int) + 1 by omega] at this
              rw [rdl j (by omega), this]; exact hup j e
            · have e2 : out.length = j + 1 := by omega
              rw [rdl j (by omega)]
              rw [e2] at rdn hlast
              rw [show ((j + 1 : Nat) : Int) = (j : Int) + 1 by omega] at rdn
              rw [rdn, show (j : Int) = ((j + 1 : Nat) : Int) - 1 by omega, hlast]; omega)
          (fun j hj => by
            simp at hj
            by_cases e : j < out.length
            · rw [rdl j e]; exact hin j e
            · have : j = out.length := by omega
              subst this; rw [rdn]; omega)
        refine ⟨o', k1, k2, k3, k4, k5, k6, Evt.succ ?_⟩
        simp only [impl_EdgeCosts.l0]
        rw [ew, wrap64_id (n := (i : Int) + 1) (by omega) (by omega)]
        exact Evt.pos (by omega) (g3 _ k7)
  obtain ⟨o', k1, k2, k3, k4, k5, k6, k7⟩ := outer (l.length - 1) 0 [0] (by omega) (by simp) (by simp) rfl rfl (fun j h => by simp at h) (fun j h => by simp at h; subst h; simp [rd]; omega)
  refine ⟨o', k1, k2, k3, k4, k5, k6, ?_⟩
  unfold impl_EdgeCosts.f
  exact Evt.bind (costs_impl hl) (Evt.pos rfl k7)
end Go.Proofs.Ytpngjpiodhpbnaa.PurePFnCuts
