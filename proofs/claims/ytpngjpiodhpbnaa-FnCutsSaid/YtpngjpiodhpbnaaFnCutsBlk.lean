/- The blocks that are drawn: what they are, and that both checks take them. -/
import Derived.Test.YtpngjpiodhpbnaaFnCutsSrc
import Derived.Test.YtpngjpiodhpbnaaFnCutsDp
import Derived.Test.YtpngjpiodhpbnaaDy
namespace Go.Proofs.Ytpngjpiodhpbnaa.PurePFnCuts
open Go.RowKit Go.Proofs.Ytpngjpiodhpbnaa.PFnCuts Go.Proofs.YtpngjpiodhpbnaaW.PrintWords Go.Proofs.YtpngjpiodhpbnaaW.PrintLast Go.Proofs.YtpngjpiodhpbnaaW.Fl
/-- The number of quarters that a word stands for. -/
def dm (x : Nat) : Int := (((val FloatKind.f32.format x).getD 0) * 4).num
theorem dm_of {x : Nat} {m : Int} (h : Dy .f32 2 x m) : dm x = m := by
  unfold dm
  rw [h.1, Option.getD_some, show pw (-((2 : Nat) : Int)) = 1 / 4 by decide +kernel]
  have : (m : Rat) * (1 / 4) * 4 = (m : Rat) := by grind
  rw [this, Rat.num_intCast]
/-- A cost of the drawn blocks: miss in quarters, bits. -/
def qm (l : List S34) (i : Nat) : Int := dm (rd_T34 l i).f1
def qb (l : List S34) (i : Nat) : Int := (rd_T34 l i).f0
structure GoodL (l : List S34) : Prop where
  len : 1 ≤ l.length ∧ l.length ≤ 5
  first : qb l 0 = 0
  at_ : ∀ i : Nat, i < l.length → Dy .f32 2 (rd_T34 l i).f1 (qm l i) ∧ 32 ≤ qm l i ∧ qm l i ≤ 128 ∧ 0 ≤ qb l i ∧ qb l i ≤ 24
  up : ∀ i : Nat, i + 1 < l.length → qb l i < qb l (i + 1) ∧ qm l (i + 1) < qm l i
theorem rd_app (l r : List S34) (i : Nat) (h : i < l.length) : rd_T34 (l ++ r) (i : Int) = rd_T34 l i := by
  rw [rdT34 _ _ (by simp; omega), rdT34 _ _ h, List.getElem_append_left h]
theorem rd_snoc (l : List S34) (c : S34) : rd_T34 (l ++ [c]) (l.length : Int) = c := by
  rw [rdT34 _ _ (by simp)]; simp
def GoodB (bs : List (List S34)) : Prop := bs.length ≤ 4 ∧ ∀ l ∈ bs, GoodL l
section
variable {code : List Int} (hc : Bytes code)
include hc
theorem draw_block : ∀ (n : Nat) (x4 : List (List S34)) (x5 : Int) (l : List S34) (x7 : Int) (x8 : Nat) (m at_ seed : Int) (P : List (List S34) → Prop),
    l.length + n ≤ 5 → (1 ≤ l.length ∨ 1 ≤ n) → x4.length ≤ 4 → 0 ≤ at_ → at_ + 4 * n ≤ 1000000 → (-100 ≤ x5 ∧ x5 ≤ 100) →
    Dy .f32 2 x8 m → (m + 8 * l.length ≥ 64 ∧ m ≤ 128) → (0 ≤ x7 ∧ x7 ≤ 6 * l.length) →
    (∀ i : Nat, i < l.length → Dy .f32 2 (rd_T34 l i).f1 (qm l i) ∧ 32 ≤ qm l i ∧ qm l i ≤ 128 ∧ 0 ≤ qb l i ∧ qb l i ≤ 24) →
    (∀ i : Nat, i + 1 < l.length → qb l i < qb l (i + 1) ∧ qm l (i + 1) < qm l i) →
    (1 ≤ l.length → qb l 0 = 0 ∧ qb l (l.length - 1) < x7 ∧ m < qm l (l.length - 1)) → (l.length = 0 → x7 = 0) →
    (∀ l' a s, GoodL l' → at_ ≤ a → a ≤ at_ + 4 * n → ∃ bs, P bs ∧ Evt (fun k => spec_B10Blocks.l0 k (x4 ++ [l']) (x5 - 1) code a s) bs) →
    ∃ bs, P bs ∧ Evt (fun k => spec_B10Blocks.l1 k x4 x5 l x7 x8 (n : Int) code at_ seed) bs := by
  intro n
  induction n with
  | zero =>
    intro x4 x5 l x7 x8 m at_ seed P hl hne h4 h0 h1 hx5 hx hm h7 hat hup hlast hfirst hk
    have hl1 : 1 ≤ l.length := by omega
    obtain ⟨bs, hP, hE⟩ := hk l at_ seed ⟨⟨hl1, by omega⟩, (hlast hl1).1, hat, hup⟩ (by omega) (by omega)
    refine ⟨bs, hP, Evt.succ ?_⟩
    simp only [spec_B10Blocks.l1]
    refine Evt.neg (by omega) (Evt.pos (by omega) ?_)
    rw [wrap64_id (by omega) (by omega)]
    exact hE
  | succ n ih =>
    intro x4 x5 l x7 x8 m at_ seed P hl hne h4 h0 h1 hx5 hx hm h7 hat hup hlast hfirst hk
    obtain ⟨p, a1, s1, e1, p0, p1, q0, q1⟩ := pick_some hc at_ seed 6 h0 (by omega) (by omega) (by omega)
    obtain ⟨r, a2, s2, e2, r0, r1, t0, t1⟩ := pick_some hc a1 s1 8 (by omega) (by omega) (by omega) (by omega)
    have w1 : wrap64 (1 + r) = 1 + r := wrap64_id (by omega) (by omega)
    have w2 : wrap64 (1 + p) = 1 + p := wrap64_id (by omega) (by omega)
    have w3 : wrap64 (x7 + (1 + p)) = x7 + (1 + p) := wrap64_id (by omega) (by omega)
    obtain ⟨y1, g1, d1⟩ := Dy.quo 2 (dy_int .f32 (1 + r) (by omega)) (show Dy .f32 0 1082130432 ((2 ^ 2 : Nat) : Int) by unfold Dy; decide +kernel) (by omega) (by omega)
    obtain ⟨y2, g2, d2⟩ := Dy.sub hx d1 (by omega) (by omega)
    have hqm : dm x8 = m := dm_of hx
    have hlen : (l ++ [(⟨x7, x8⟩ : S34)]).length = l.length + 1 := by simp
    have newm : qm (l ++ [(⟨x7, x8⟩ : S34)]) l.length = m := by unfold qm; rw [rd_snoc]; exact hqm
    have newb : qb (l ++ [(⟨x7, x8⟩ : S34)]) l.length = x7 := by unfold qb; rw [rd_snoc]
    have oldm : ∀ i : Nat, i < l.length → qm (l ++ [(⟨x7, x8⟩ : S34)]) i = qm l i := fun i hi => by unfold qm; rw [rd_app _ _ _ hi]
    have oldb : ∀ i : Nat, i < l.length → qb (l ++ [(⟨x7, x8⟩ : S34)]) i = qb l i := fun i hi => by unfold qb; rw [rd_app _ _ _ hi]
    obtain ⟨bs, hP, hE⟩ := ih x4 x5 (l ++ [(⟨x7, x8⟩ : S34)]) (x7 + (1 + p)) y2 (m - (1 + r)) a2 s2 P (by omega) (by omega) h4 (by omega) (by omega) hx5 d2 (by omega) (by omega)
      (by
        intro i hi
        by_cases c : i < l.length
        · rw [oldm i c, oldb i c, rd_app _ _ _ c]; exact hat i c
        · have : i = l.length := by omega
          subst this
          rw [newm, newb, rd_snoc]
          exact ⟨hx, by omega, by omega, by omega, by omega⟩)
      (by
        intro i hi
        by_cases c : i + 1 < l.length
        · rw [oldm i (by omega), oldb i (by omega), oldm (i + 1) c, oldb (i + 1) c]; exact hup i c
        · have hi2 : i + 1 = l.length := by omega
          have := (hlast (by omega)).2
          rw [oldm i (by omega), oldb i (by omega), hi2, newm, newb]
          rw [show l.length - 1 = i by omega] at this
          exact this)
      (by
        intro _
        rw [hlen, show l.length + 1 - 1 = l.length by omega, newm, newb]
        refine ⟨?_, by omega, by omega⟩
        by_cases c : 1 ≤ l.length
        · rw [oldb 0 (by omega)]; exact (hlast c).1
        · have hl0 : l.length = 0 := by omega
          have := hfirst hl0
          rw [hl0] at newb
          rw [newb, this])
      (by omega)
      (fun l' a s g k1 k2 => hk l' a s g (by omega) (by omega))
    refine ⟨bs, hP, Evt.succ ?_⟩
    simp only [spec_B10Blocks.l1]
    refine Evt.pos (by omega) (Evt.pos (by omega) (Evt.cbind e1 (Evt.cbind e2 ?_)))
    simp only []
    rw [w1, w2, w3]
    refine Evt.cbind g1 (Evt.cbind g2 ?_)
    rw [wrap64_id (n := ((n + 1 : Nat) : Int) - 1) (by omega) (by omega), show ((n + 1 : Nat) : Int) - 1 = (n : Int) by omega]
    exact hE
theorem draw_blocks : ∀ (n : Nat) (x4 : List (List S34)) (at_ seed : Int), x4.length + n ≤ 4 → GoodB x4 → 0 ≤ at_ → at_ + 30 * n ≤ 100000 →
    ∃ bs, (GoodB bs ∧ x4.length + n = bs.length) ∧ Evt (fun k => spec_B10Blocks.l0 k x4 (n : Int) code at_ seed) bs := by
  intro n
  induction n with
  | zero =>
    intro x4 at_ seed h4 hg h0 h1
    refine ⟨x4, ⟨hg, by omega⟩, Evt.succ ?_⟩
    simp only [spec_B10Blocks.l0]
    exact Evt.neg (by omega) (Evt.pure _)
  | succ n ih =>
    intro x4 at_ seed h4 hg h0 h1
    obtain ⟨p, a1, s1, e1, p0, p1, q0, q1⟩ := pick_some hc at_ seed 17 h0 (by omega) (by omega) (by omega)
    obtain ⟨r, a2, s2, e2, r0, r1, t0, t1⟩ := pick_some hc a1 s1 5 (by omega) (by omega) (by omega) (by omega)
    have w1 : wrap64 (16 + p) = 16 + p := wrap64_id (by omega) (by omega)
    have w2 : wrap64 (1 + r) = ((1 + r).toNat : Nat) := by rw [wrap64_id (by omega) (by omega)]; omega
    have d := (dy_int .f32 (16 + p) (by omega)).up 2
    obtain ⟨bs, hP, hE⟩ := draw_block hc (1 + r).toNat x4 ((n + 1 : Nat) : Int) [] 0 _ _ a2 s2 (fun bs => GoodB bs ∧ x4.length + (n + 1) = bs.length) (by simp; omega) (by simp; omega) (by omega) (by omega) (by omega) (by omega) d (by simp; omega) (by simp)
      (fun i hi => by simp at hi) (fun i hi => by simp at hi) (fun h => by simp at h) (fun _ => rfl)
      (fun l' a s g k1 k2 => by
        obtain ⟨bs, ⟨g1, g2⟩, hE⟩ := ih (x4 ++ [l']) a s (by simp; omega) ⟨by simp; omega, fun l hl => by
          rcases List.mem_append.1 hl with h | h
          · exact hg.2 l h
          · simp at h; subst h; exact g⟩ (by omega) (by omega)
        refine ⟨bs, ⟨g1, by simp at g2; omega⟩, ?_⟩
        rw [show ((n + 1 : Nat) : Int) - 1 = (n : Int) by omega]; exact hE)
    refine ⟨bs, hP, Evt.succ ?_⟩
    simp only [spec_B10Blocks.l0]
    refine Evt.pos (by omega) (Evt.cbind e1 (Evt.cbind e2 ?_))
    simp only []
    rw [w1, w2]
    exact hE
theorem drawn : ∃ bs, GoodB bs ∧ 1 ≤ bs.length ∧ Evt (fun k => spec_B10Blocks.f k code) bs := by
  obtain ⟨p, a1, s1, e1, p0, p1, q0, q1⟩ := pick_some hc 0 0 4 (by omega) (by omega) (by omega) (by omega)
  obtain ⟨bs, ⟨g1, g2⟩, hE⟩ := draw_blocks hc (1 + p).toNat [] a1 s1 (by simp; omega) ⟨by simp, fun l hl => by simp at hl⟩ (by omega) (by omega)
  refine ⟨bs, g1, by simp at g2; omega, ?_⟩
  unfold spec_B10Blocks.f spec_l00From.f
  refine Evt.cbind rfl (Evt.cbind e1 ?_)
  simp only []
  rw [wrap64_id (n := 1 + p) (by omega) (by omega), show (1 + p : Int) = (((1 + p).toNat : Nat) : Int) by omega]
  exact hE
end
/-! ### Both checks take them -/
theorem ffin_dy {x : Nat} {e : Nat} {m : Int} (h : Dy .f32 e x m) : ffin .f32 x = true := by
  obtain ⟨z, hz, hz2⟩ := ffin_V h
  unfold ffin; rw [hz]; exact hz2
theorem least_impl {x : Nat} {m : Int} (h : Dy .f32 2 x m) (hm : 0 ≤ m) : impl_isLeast.f x = some true := by
  unfold impl_isLeast.f impl_IsFinite.f
  rw [ffin_dy h]
  simp [h.fge (dy_zero .f32 2), hm]
theorem least_spec {x : Nat} {m : Int} (h : Dy .f32 2 x m) (hm : 0 ≤ m) : spec_l02Least.f x = some true := by
  unfold spec_l02Least.f spec_l01Finite.f
  rw [ffin_dy h]
  simp [h.fge (dy_zero .f32 2), hm]
theorem within_true {a b c : Int} (h : b ≤ a ∧ a ≤ c) : impl_within.f a b c = some true := by
  unfold impl_within.f; rw [if_pos (show a ≥ b from h.1), decide_eq_true h.2]
theorem in_true {a b c : Int} (h : b ≤ a ∧ a ≤ c) : spec_l00In.f a b c = some true := by
  unfold spec_l00In.f; rw [if_pos (show a ≥ b from h.1), decide_eq_true h.2]
theorem costs_impl {l : List S34} (h : GoodL l) : Evt (fun k => impl_AreCosts.f k l) true := by
  have hl := h.len
  have loop : ∀ (n i : Nat), i + n = l.length → Evt (fun k => impl_AreCosts.l0 k l l l.length (i : Nat)) true := by
    intro n
    induction n with
    | zero =>
      intro i hi
      refine Evt.succ ?_
      simp only [impl_AreCosts.l0]
      exact Evt.neg (by omega) (Evt.pure _)
    | succ n ih =>
      intro i hi
      obtain ⟨d, m0, m1, b0, b1⟩ := h.at_ i (by omega)
      have e : wrap64 ((i : Int) + 1) = ((i + 1 : Nat) : Int) := by rw [wrap64_id (by omega) (by omega)]; omega
      refine Evt.succ ?_
      simp only [impl_AreCosts.l0]
      refine Evt.pos (by omega) (Evt.pos (by omega) (Evt.pos (by omega) (Evt.cbind (within_true (by unfold qb at b0 b1; omega)) (Evt.pos rfl (Evt.cbind (least_impl d (by omega)) (Evt.succ ?_))))))
      simp only [impl_AreCosts.j1]
      refine Evt.neg (by decide) ?_
      rw [e]
      by_cases c : i = 0
      · exact Evt.neg (by omega) (ih (i + 1) (by omega))
      · obtain ⟨j, rfl⟩ : ∃ j, i = j + 1 := ⟨i - 1, by omega⟩
        obtain ⟨d', _⟩ := h.at_ j (by omega)
        have u := h.up j (by omega)
        have e2 : wrap64 (((j + 1 : Nat) : Int) - 1) = (j : Int) := by rw [wrap64_id (by omega) (by omega)]; omega
        rw [e2]
        refine Evt.pos (by omega) (Evt.pos (by omega) (Evt.pos (by omega) (Evt.neg (by unfold qb at u; omega) (Evt.neg ?_ (ih (j + 1 + 1) (by omega))))))
        rw [d.fge d']
        simp; omega
  unfold impl_AreCosts.f
  exact Evt.cbind (within_true (by omega)) (Evt.pos rfl (loop l.length 0 (by omega)))
theorem rdL3_mem (bs : List (List S34)) (i : Nat) (h : i < bs.length) : rd_L4 bs (i : Int) ∈ bs := by rw [rdL3 bs i h]; exact List.getElem_mem h
theorem blocks_impl {bs : List (List S34)} (h : GoodB bs) (h1 : 1 ≤ bs.length) : Evt (fun k => impl_areBlocks.f k bs) true := by
  have hl := h.1
  have loop : ∀ (n i : Nat), i + n = bs.length → Evt (fun k => impl_areBlocks.l0 k bs bs.length (i : Nat)) true := by
    intro n
    induction n with
    | zero =>
      intro i hi
      refine Evt.succ ?_
      simp only [impl_areBlocks.l0]
      exact Evt.neg (by omega) (Evt.pure _)
    | succ n ih =>
      intro i hi
      have e : wrap64 ((i : Int) + 1) = ((i + 1 : Nat) : Int) := by rw [wrap64_id (by omega) (by omega)]; omega
      refine Evt.succ ?_
      simp only [impl_areBlocks.l0]
      rw [e]
      exact Evt.pos (by omega) (Evt.pos (by omega) (Evt.pos (by omega) (Evt.bind (costs_impl (h.2 _ (rdL3_mem bs i (by omega)))) (Evt.pos rfl (ih (i + 1) (by omega))))))
  unfold impl_areBlocks.f
  exact Evt.cbind (within_true (by omega)) (Evt.pos rfl (loop bs.length 0 (by omega)))
theorem costs_spec {l : List S34} (h : GoodL l) : Evt (fun k => spec_l07Costs.f k l) true := by
  have hl := h.len
  have loop : ∀ (n i : Nat), i + n = l.length → Evt (fun k => spec_l07Costs.l0 k l l.length (i : Nat)) true := by
    intro n
    induction n with
    | zero =>
      intro i hi
      refine Evt.succ ?_
      simp only [spec_l07Costs.l0]
      exact Evt.neg (by omega) (Evt.pure _)
    | succ n ih =>
      intro i hi
      obtain ⟨d, m0, m1, b0, b1⟩ := h.at_ i (by omega)
      have e : wrap64 ((i : Int) + 1) = ((i + 1 : Nat) : Int) := by rw [wrap64_id (by omega) (by omega)]; omega
      refine Evt.succ ?_
      simp only [spec_l07Costs.l0]
      refine Evt.pos (by omega) (Evt.pos (by omega) (Evt.pos (by omega) (Evt.cbind (in_true (by unfold qb at b0 b1; omega)) (Evt.pos rfl (Evt.cbind (least_spec d (by omega)) (Evt.succ ?_))))))
      simp only [spec_l07Costs.j2]
      refine Evt.neg (by decide) ?_
      rw [e]
      by_cases c : i = 0
      · exact Evt.neg (by omega) (ih (i + 1) (by omega))
      · obtain ⟨j, rfl⟩ : ∃ j, i = j + 1 := ⟨i - 1, by omega⟩
        obtain ⟨d', _⟩ := h.at_ j (by omega)
        have u := h.up j (by omega)
        have e2 : wrap64 (((j + 1 : Nat) : Int) - 1) = (j : Int) := by rw [wrap64_id (by omega) (by omega)]; omega
        rw [e2]
        refine Evt.pos (by omega) (Evt.pos (by omega) (Evt.pos (by omega) (Evt.pos (by omega) (Evt.pos (by omega) (Evt.neg (by unfold qb at u; omega) (Evt.neg ?_ (ih (j + 1 + 1) (by omega))))))))
        rw [d.fge d']
        simp; omega
  unfold spec_l07Costs.f
  refine Evt.neg (by omega) (Evt.succ ?_)
  simp only [spec_l07Costs.j0]
  exact Evt.neg (by simp; omega) (loop l.length 0 (by omega))
theorem blocks_spec {bs : List (List S34)} (h : GoodB bs) (h1 : 1 ≤ bs.length) : Evt (fun k => spec_l07Blocks.f k bs) true := by
  have hl := h.1
  have loop : ∀ (n i : Nat), i + n = bs.length → Evt (fun k => spec_l07Blocks.l0 k bs bs.length (i : Nat)) true := by
    intro n
    induction n with
    | zero =>
      intro i hi
      refine Evt.succ ?_
      simp only [spec_l07Blocks.l0]
      exact Evt.neg (by omega) (Evt.pure _)
    | succ n ih =>
      intro i hi
      have e : wrap64 ((i : Int) + 1) = ((i + 1 : Nat) : Int) := by rw [wrap64_id (by omega) (by omega)]; omega
      refine Evt.succ ?_
      simp only [spec_l07Blocks.l0]
      rw [e]
      exact Evt.pos (by omega) (Evt.pos (by omega) (Evt.pos (by omega) (Evt.bind (costs_spec (h.2 _ (rdL3_mem bs i (by omega)))) (Evt.pos rfl (ih (i + 1) (by omega))))))
  unfold spec_l07Blocks.f
  refine Evt.neg (by omega) (Evt.succ ?_)
  simp only [spec_l07Blocks.j0]
  exact Evt.neg (by simp; omega) (loop bs.length 0 (by omega))
end Go.Proofs.Ytpngjpiodhpbnaa.PurePFnCuts
