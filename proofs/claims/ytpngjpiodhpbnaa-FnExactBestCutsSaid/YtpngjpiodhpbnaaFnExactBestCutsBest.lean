/- The best cuts of any blocks: the program's function and the reference's return the same. -/
import Derived.Test.YtpngjpiodhpbnaaFnExactBestCutsDp
import Derived.Test.YtpngjpiodhpbnaaDy
namespace Go.Proofs.Ytpngjpiodhpbnaa.PurePFnExactBestCuts
open Go Go.RowKit Go.Proofs.Ytpngjpiodhpbnaa.PFnExactBestCuts Go.Proofs.YtpngjpiodhpbnaaW.PrintWords Go.Proofs.YtpngjpiodhpbnaaW.PrintLast Go.Proofs.YtpngjpiodhpbnaaW.Fl
/-! ### Sums that are no NaN -/
def QF (x : Nat) : Prop := ∀ s t, FloatKind.f32.format.read x ≠ .nan s t
def NumF (x : Nat) : Prop := ∃ s m i, FloatKind.f32.format.read x = .number s m i
theorem fin_num {x : Nat} (h : ffin .f32 x = true) : NumF x := by
  have h4 : floatBits .sub .f32 x x = ((FloatKind.f32.format.read x).sum (FloatKind.f32.format.read x).opposite).map FloatKind.f32.format.write := rfl
  unfold NumF
  cases hr : FloatKind.f32.format.read x with
  | number s m i => exact ⟨s, m, i, rfl⟩
  | infinity s =>
    rw [hr] at h4
    have : floatBits .sub .f32 x x = none := by rw [h4]; cases s <;> rfl
    unfold ffin at h; rw [this] at h; cases h
  | nan s t =>
    rw [hr] at h4
    have : floatBits .sub .f32 x x = none := by rw [h4]; rfl
    unfold ffin at h; rw [this] at h; cases h
theorem read_le (neg : Bool) (rung : Nat) (h : rung ≤ FloatKind.f32.format.infRung) : QF (FloatKind.f32.format.word neg rung) := by
  intro s t
  rcases Nat.lt_or_eq_of_le h with h | h
  · rw [read_word _ neg rung h]
    split <;> simp
  · have e : FloatKind.f32.format.read (FloatKind.f32.format.word neg FloatKind.f32.format.infRung) = .infinity neg := by cases neg <;> decide +kernel
    rw [h, e]; simp
theorem q_nearest (neg : Bool) (mag : Nat) (place : Int) : QF (FloatKind.f32.format.nearest neg mag place) := by
  unfold Ieee.Format.nearest
  by_cases hm : mag = 0
  · rw [if_pos hm]; exact read_le neg 0 (Nat.zero_le _)
  · rw [if_neg hm]; exact read_le neg _ (Nat.min_le_right _ _)
theorem q_add {x y : Nat} (hx : QF x) (hy : NumF y) : ∃ r, floatBits .add .f32 x y = some r ∧ QF r := by
  obtain ⟨s, m, i, hy⟩ := hy
  have h4 : floatBits .add .f32 x y = ((FloatKind.f32.format.read x).sum (FloatKind.f32.format.read y)).map FloatKind.f32.format.write := rfl
  rw [h4, hy]
  cases hr : FloatKind.f32.format.read x with
  | nan s t => exact absurd hr (hx s t)
  | infinity s => exact ⟨_, rfl, read_le s _ (Nat.le_refl _)⟩
  | number s2 m2 i2 => exact ⟨_, rfl, q_nearest _ _ _⟩
theorem q_zero : QF 0 := by
  have h : FloatKind.f32.format.read 0 = .number false 0 FloatKind.f32.format.leastPlace := by decide +kernel
  intro s t; rw [h]; simp
/-! ### The checks -/
def qb (l : List S34) (i : Nat) : Int := (rd_T34 l i).f0
structure GoodC (l : List S34) : Prop where
  len : l.length ≤ 16
  at_ : ∀ i : Nat, i < l.length → (0 ≤ qb l i ∧ qb l i ≤ 512) ∧ NumF (rd_T34 l i).f1
theorem within_val (a b c : Int) : impl_within.f a b c = some (decide (b ≤ a ∧ a ≤ c)) := by
  unfold impl_within.f
  by_cases h : a ≥ b
  · rw [if_pos h]; congr 1; exact decide_eq_decide.2 ⟨fun x => ⟨h, x⟩, fun x => x.2⟩
  · rw [if_neg h, decide_eq_false (fun x => h x.1)]
theorem in_val (a b c : Int) : spec_l00In.f a b c = some (decide (b ≤ a ∧ a ≤ c)) := by
  unfold spec_l00In.f
  by_cases h : a ≥ b
  · rw [if_pos h]; congr 1; exact decide_eq_decide.2 ⟨fun x => ⟨h, x⟩, fun x => x.2⟩
  · rw [if_neg h, decide_eq_false (fun x => h x.1)]
theorem least_val (x : Nat) : impl_isLeast.f x = some (ffin .f32 x && fge .f32 x 0) := by
  unfold impl_isLeast.f impl_IsFinite.f
  cases ffin .f32 x <;> simp
theorem least_val2 (x : Nat) : spec_l02Least.f x = some (ffin .f32 x && fge .f32 x 0) := by
  unfold spec_l02Least.f spec_l01Finite.f
  cases ffin .f32 x <;> simp
theorem costs_both (l : List S34) (hl : l.length ≤ 1048576) : ∃ v, Evt (fun k => impl_AreCosts.f k l) v ∧ Evt (fun k => spec_l07Costs.f k l) v ∧ (v = true → GoodC l) := by
  have loop : ∀ (n i : Nat), i + n = l.length → l.length ≤ 16 → ∃ v, Evt (fun k => impl_AreCosts.l0 k l l l.length (i : Nat)) v ∧ Evt (fun k => spec_l07Costs.l0 k l l.length (i : Nat)) v ∧
      (v = true → ∀ j : Nat, i ≤ j → j < l.length → (0 ≤ qb l j ∧ qb l j ≤ 512) ∧ NumF (rd_T34 l j).f1) := by
    intro n
    induction n with
    | zero =>
      intro i hi h16
      refine ⟨true, Evt.succ ?_, Evt.succ ?_, fun _ j h1 h2 => by omega⟩
      · simp only [impl_AreCosts.l0]
        exact Evt.neg (by omega) (Evt.pure _)
      · simp only [spec_l07Costs.l0]
        exact Evt.neg (by omega) (Evt.pure _)
    | succ n ih =>
      intro i hi h16
      obtain ⟨v, v1, v2, v3⟩ := ih (i + 1) (by omega) h16
      have e : wrap64 ((i : Int) + 1) = ((i + 1 : Nat) : Int) := by rw [wrap64_id (by omega) (by omega)]; omega
      by_cases c1 : 0 ≤ (rd_T34 l i).f0 ∧ (rd_T34 l i).f0 ≤ 512
      · by_cases c2 : (ffin .f32 (rd_T34 l i).f1 && fge .f32 (rd_T34 l i).f1 0) = true
        · have hnum : NumF (rd_T34 l i).f1 := fin_num (Bool.and_eq_true_iff.1 c2).1
          have more : v = true → ∀ j : Nat, i ≤ j → j < l.length → (0 ≤ qb l j ∧ qb l j ≤ 512) ∧ NumF (rd_T34 l j).f1 := by
            intro hv j h1 h2
            by_cases e : j = i
            · subst e; exact ⟨c1, hnum⟩
            · exact v3 hv j (by omega) h2
          by_cases c0 : i = 0
          · refine ⟨v, Evt.succ ?_, Evt.succ ?_, more⟩
            · simp only [impl_AreCosts.l0]
              refine Evt.pos (by omega) (Evt.pos (by omega) (Evt.pos (by omega) (Evt.cbind (within_val _ _ _) (Evt.pos (decide_eq_true c1) (Evt.cbind (least_val _) (Evt.succ ?_))))))
              simp only [impl_AreCosts.j1]
              rw [c2, e]
              exact Evt.neg (by decide) (Evt.neg (by omega) v1)
            · simp only [spec_l07Costs.l0]
              refine Evt.pos (by omega) (Evt.pos (by omega) (Evt.pos (by omega) (Evt.cbind (in_val _ _ _) (Evt.pos (decide_eq_true c1) (Evt.cbind (least_val2 _) (Evt.succ ?_))))))
              simp only [spec_l07Costs.j2]
              rw [c2, e]
              exact Evt.neg (by decide) (Evt.neg (by omega) v2)
          · obtain ⟨p, rfl⟩ : ∃ p, i = p + 1 := ⟨i - 1, by omega⟩
            have e2 : wrap64 (((p + 1 : Nat) : Int) - 1) = (p : Int) := by rw [wrap64_id (by omega) (by omega)]; omega
            have key : ∃ v', Evt (fun k => if (rd_T34 l ((p + 1 : Nat) : Int)).f0 ≤ (rd_T34 l (p : Int)).f0 then some false else if fge .f32 (rd_T34 l ((p + 1 : Nat) : Int)).f1 (rd_T34 l (p : Int)).f1 = true then some false else impl_AreCosts.l0 k l l l.length ((p + 1 + 1 : Nat) : Int)) v' ∧
                Evt (fun k => if (rd_T34 l ((p + 1 : Nat) : Int)).f0 ≤ (rd_T34 l (p : Int)).f0 then some false else if fge .f32 (rd_T34 l ((p + 1 : Nat) : Int)).f1 (rd_T34 l (p : Int)).f1 = true then some false else spec_l07Costs.l0 k l l.length ((p + 1 + 1 : Nat) : Int)) v' ∧ (v' = true → v = true) := by
              by_cases d1 : (rd_T34 l ((p + 1 : Nat) : Int)).f0 ≤ (rd_T34 l (p : Int)).f0
              · exact ⟨false, Evt.pos d1 (Evt.pure _), Evt.pos d1 (Evt.pure _), fun h => by cases h⟩
              · by_cases d2 : fge .f32 (rd_T34 l ((p + 1 : Nat) : Int)).f1 (rd_T34 l (p : Int)).f1 = true
                · exact ⟨false, Evt.neg d1 (Evt.pos d2 (Evt.pure _)), Evt.neg d1 (Evt.pos d2 (Evt.pure _)), fun h => by cases h⟩
                · exact ⟨v, Evt.neg d1 (Evt.neg d2 v1), Evt.neg d1 (Evt.neg d2 v2), id⟩
            obtain ⟨v', k1, k2, k3⟩ := key
            refine ⟨v', Evt.succ ?_, Evt.succ ?_, fun h => more (k3 h)⟩
            · simp only [impl_AreCosts.l0]
              refine Evt.pos (by omega) (Evt.pos (by omega) (Evt.pos (by omega) (Evt.cbind (within_val _ _ _) (Evt.pos (decide_eq_true c1) (Evt.cbind (least_val _) (Evt.succ ?_))))))
              simp only [impl_AreCosts.j1]
              rw [c2, e, e2]
              exact Evt.neg (by decide) (Evt.pos (by omega) (Evt.pos (by omega) (Evt.pos (by omega) k1)))
            · simp only [spec_l07Costs.l0]
              refine Evt.pos (by omega) (Evt.pos (by omega) (Evt.pos (by omega) (Evt.cbind (in_val _ _ _) (Evt.pos (decide_eq_true c1) (Evt.cbind (least_val2 _) (Evt.succ ?_))))))
              simp only [spec_l07Costs.j2]
              rw [c2, e, e2]
              exact Evt.neg (by decide) (Evt.pos (by omega) (Evt.pos (by omega) (Evt.pos (by omega) (Evt.pos (by omega) (Evt.pos (by omega) k2)))))
        · refine ⟨false, Evt.succ ?_, Evt.succ ?_, fun h => by cases h⟩
          · simp only [impl_AreCosts.l0]
            refine Evt.pos (by omega) (Evt.pos (by omega) (Evt.pos (by omega) (Evt.cbind (within_val _ _ _) (Evt.pos (decide_eq_true c1) (Evt.cbind (least_val _) (Evt.succ ?_))))))
            simp only [impl_AreCosts.j1]
            exact Evt.pos (by rw [Bool.eq_false_iff.2 c2]; rfl) (Evt.pure _)
          · simp only [spec_l07Costs.l0]
            refine Evt.pos (by omega) (Evt.pos (by omega) (Evt.pos (by omega) (Evt.cbind (in_val _ _ _) (Evt.pos (decide_eq_true c1) (Evt.cbind (least_val2 _) (Evt.succ ?_))))))
            simp only [spec_l07Costs.j2]
            exact Evt.pos (by rw [Bool.eq_false_iff.2 c2]; rfl) (Evt.pure _)
      · refine ⟨false, Evt.succ ?_, Evt.succ ?_, fun h => by cases h⟩
        · simp only [impl_AreCosts.l0]
          refine Evt.pos (by omega) (Evt.pos (by omega) (Evt.pos (by omega) (Evt.cbind (within_val _ _ _) (Evt.neg (by simpa using c1) (Evt.succ ?_)))))
          simp only [impl_AreCosts.j1]
          exact Evt.pos trivial (Evt.pure _)
        · simp only [spec_l07Costs.l0]
          refine Evt.pos (by omega) (Evt.pos (by omega) (Evt.pos (by omega) (Evt.cbind (in_val _ _ _) (Evt.neg (by simpa using c1) (Evt.succ ?_)))))
          simp only [spec_l07Costs.j2]
          exact Evt.pos trivial (Evt.pure _)
  by_cases h1 : 1 ≤ l.length ∧ l.length ≤ 16
  · obtain ⟨v, v1, v2, v3⟩ := loop l.length 0 (by omega) h1.2
    refine ⟨v, ?_, ?_, fun h => ⟨h1.2, fun i hi => v3 h i (by omega) hi⟩⟩
    · unfold impl_AreCosts.f
      exact Evt.cbind (within_val _ _ _) (Evt.pos (by simp; omega) v1)
    · unfold spec_l07Costs.f
      refine Evt.neg (by omega) (Evt.succ ?_)
      simp only [spec_l07Costs.j0]
      exact Evt.neg (by simp; omega) v2
  · refine ⟨false, ?_, ?_, fun h => by cases h⟩
    · unfold impl_AreCosts.f
      exact Evt.cbind (within_val _ _ _) (Evt.neg (by simp; omega) (Evt.pure _))
    · unfold spec_l07Costs.f
      by_cases h2 : (l.length : Int) < 1
      · refine Evt.pos h2 (Evt.succ ?_)
        simp only [spec_l07Costs.j0]
        exact Evt.pos trivial (Evt.pure _)
      · refine Evt.neg h2 (Evt.succ ?_)
        simp only [spec_l07Costs.j0]
        exact Evt.pos (by simp; omega) (Evt.pure _)
def GoodBs (bs : List (List S34)) : Prop := bs.length ≤ 8 ∧ ∀ i : Nat, i < bs.length → GoodC (rd_L3 bs i)
theorem blocks_both (bs : List (List S34)) (hl : bs.length ≤ 1048576) (hm : ∀ l ∈ bs, l.length ≤ 1048576) : ∃ v, Evt (fun k => impl_areBlocks.f k bs) v ∧ Evt (fun k => spec_l07Blocks.f k bs) v ∧ (v = true → GoodBs bs) := by
  have loop : ∀ (n i : Nat), i + n = bs.length → ∃ v, Evt (fun k => impl_areBlocks.l0 k bs bs.length (i : Nat)) v ∧ Evt (fun k => spec_l07Blocks.l0 k bs bs.length (i : Nat)) v ∧
      (v = true → ∀ j : Nat, i ≤ j → j < bs.length → GoodC (rd_L3 bs j)) := by
    intro n
    induction n with
    | zero =>
      intro i hi
      refine ⟨true, Evt.succ ?_, Evt.succ ?_, fun _ j h1 h2 => by omega⟩
      · simp only [impl_areBlocks.l0]
        exact Evt.neg (by omega) (Evt.pure _)
      · simp only [spec_l07Blocks.l0]
        exact Evt.neg (by omega) (Evt.pure _)
    | succ n ih =>
      intro i hi
      obtain ⟨v, v1, v2, v3⟩ := ih (i + 1) (by omega)
      have e : wrap64 ((i : Int) + 1) = ((i + 1 : Nat) : Int) := by rw [wrap64_id (by omega) (by omega)]; omega
      obtain ⟨u, u1, u2, u3⟩ := costs_both (rd_L3 bs i) (by rw [rdL3 bs i (by omega)]; exact hm _ (List.getElem_mem _))
      cases u with
      | false =>
        refine ⟨false, Evt.succ ?_, Evt.succ ?_, fun h => by cases h⟩
        · simp only [impl_areBlocks.l0]
          exact Evt.pos (by omega) (Evt.pos (by omega) (Evt.pos (by omega) (Evt.bind u1 (Evt.neg (by decide) (Evt.pure _)))))
        · simp only [spec_l07Blocks.l0]
          exact Evt.pos (by omega) (Evt.pos (by omega) (Evt.pos (by omega) (Evt.bind u2 (Evt.neg (by decide) (Evt.pure _)))))
      | true =>
        refine ⟨v, Evt.succ ?_, Evt.succ ?_, fun h j h1 h2 => ?_⟩
        · simp only [impl_areBlocks.l0]
          rw [e]
          exact Evt.pos (by omega) (Evt.pos (by omega) (Evt.pos (by omega) (Evt.bind u1 (Evt.pos rfl v1))))
        · simp only [spec_l07Blocks.l0]
          rw [e]
          exact Evt.pos (by omega) (Evt.pos (by omega) (Evt.pos (by omega) (Evt.bind u2 (Evt.pos rfl v2))))
        · by_cases e : j = i
          · subst e; exact u3 rfl
          · exact v3 h j (by omega) h2
  by_cases h1 : 1 ≤ bs.length ∧ bs.length ≤ 8
  · obtain ⟨v, v1, v2, v3⟩ := loop bs.length 0 (by omega)
    refine ⟨v, ?_, ?_, fun h => ⟨h1.2, fun i hi => v3 h i (by omega) hi⟩⟩
    · unfold impl_areBlocks.f
      exact Evt.cbind (within_val _ _ _) (Evt.pos (by simp; omega) v1)
    · unfold spec_l07Blocks.f
      refine Evt.neg (by omega) (Evt.succ ?_)
      simp only [spec_l07Blocks.j0]
      exact Evt.neg (by simp; omega) v2
  · refine ⟨false, ?_, ?_, fun h => by cases h⟩
    · unfold impl_areBlocks.f
      exact Evt.cbind (within_val _ _ _) (Evt.neg (by simp; omega) (Evt.pure _))
    · unfold spec_l07Blocks.f
      by_cases h2 : (bs.length : Int) < 1
      · refine Evt.pos h2 (Evt.succ ?_)
        simp only [spec_l07Blocks.j0]
        exact Evt.pos trivial (Evt.pure _)
      · refine Evt.neg h2 (Evt.succ ?_)
        simp only [spec_l07Blocks.j0]
        exact Evt.pos (by simp; omega) (Evt.pure _)
/-! ### The rows -/
def RowQ (row : List S60) (n : Nat) : Prop := row.length = n ∧ ∀ b : Nat, b < n → (rd_T60 row b).f0 = true → QF (rd_T60 row b).f1
/-- What a place holds behind the first i costs. -/
def Got (B : List S60) (l : List S34) (b : Int) (i : Nat) (c : S60) : Prop :=
  c.f0 = true → QF c.f1 ∧ ∃ j : Nat, j < i ∧ c.f2 = (j : Int) ∧ qb l j ≤ b ∧ (rd_T60 B (b - qb l j)).f0 = true
theorem dpc_got {B : List S60} {n : Nat} (hB : RowQ B n) {l : List S34} (hl : GoodC l) {b : Nat} (hb : b < n) :
    ∀ (rest pre : List S34) (c : S60), l = pre ++ rest → Got B l b pre.length c → ∃ c', dpc B b rest pre.length c = some c' ∧ Got B l b l.length c' := by
  intro rest
  induction rest with
  | nil =>
    intro pre c hx hc
    simp only [List.append_nil] at hx
    rw [← hx] at hc
    exact ⟨c, rfl, hc⟩
  | cons x rest ih =>
    intro pre c hx hc
    have hxl : l.length = pre.length + (rest.length + 1) := by rw [hx]; simp
    have hxx : rd_T34 l (pre.length : Int) = x := by rw [rdT34 l pre.length (by omega)]; simp only [hx]; exact app_at _ _ _
    obtain ⟨⟨b0, b1⟩, dx⟩ := hl.at_ pre.length (by omega)
    have eb : qb l pre.length = x.f0 := by unfold qb; rw [hxx]
    rw [hxx] at dx
    have go : ∀ c2, Got B l b (pre.length + 1) c2 → ∃ c', dpc B b rest (pre.length + 1 : Nat) c2 = some c' ∧ Got B l b l.length c' := by
      intro c2 h2
      have := ih (pre ++ [x]) c2 (by rw [hx]; simp) (by simpa using h2)
      simpa using this
    have keep : Got B l b (pre.length + 1) c := by
      intro h
      obtain ⟨g1, j, g2, g3⟩ := hc h
      exact ⟨g1, j, by omega, g3⟩
    simp only [dpc]
    by_cases c1 : x.f0 > (b : Int)
    · rw [if_pos c1]; exact go c keep
    · rw [if_neg c1]
      obtain ⟨d, hd⟩ : ∃ d : Nat, (b : Int) - x.f0 = (d : Int) := ⟨((b : Int) - x.f0).toNat, by omega⟩
      by_cases c2 : (rd_T60 B ((b : Int) - x.f0)).f0 = true
      · rw [if_pos c2]
        have hq : QF (rd_T60 B ((b : Int) - x.f0)).f1 := by rw [hd] at c2 ⊢; exact hB.2 d (by omega) c2
        obtain ⟨s, hs, qs⟩ := q_add hq dx
        rw [hs]
        simp only [Option.bind_some]
        have put : Got B l b (pre.length + 1) ⟨true, s, (pre.length : Int)⟩ := fun _ => ⟨qs, pre.length, by omega, rfl, by rw [eb]; omega, by rw [eb]; exact c2⟩
        by_cases c3 : c.f0 = true
        · rw [if_pos c3]
          by_cases c4 : flt .f32 s c.f1 = true
          · rw [if_pos c4]; exact go _ put
          · rw [if_neg c4]; exact go c keep
        · rw [if_neg c3]; exact go _ put
      · rw [if_neg c2]; exact go c keep
structure RowG (B : List S60) (l : List S34) (n : Nat) (row : List S60) : Prop where
  is : IsRow B l n row
  at_ : ∀ b : Nat, b < n → Got B l b l.length (rd_T60 row b)
theorem row_got {B : List S60} {n : Nat} (hB : RowQ B n) {l : List S34} (hl : GoodC l) : ∃ row, RowG B l n row ∧ RowQ row n := by
  have key : ∀ b : Nat, b < n → ∃ c', dpc B b l 0 z60 = some c' ∧ Got B l b l.length c' := by
    intro b hb
    exact dpc_got hB hl hb l [] z60 rfl (fun h => by cases h)
  obtain ⟨row, hrow⟩ : ∃ row, row = (List.range n).map fun b => (dpc B (b : Nat) l 0 z60).getD z60 := ⟨_, rfl⟩
  have hlen : row.length = n := by rw [hrow]; simp
  have hget : ∀ b : Nat, b < n → dpc B b l 0 z60 = some (rd_T60 row b) := by
    intro b hb
    obtain ⟨c', h1, _⟩ := key b hb
    rw [rdT60 row b (by omega)]
    simp [hrow, h1]
  have hgot : ∀ b : Nat, b < n → Got B l b l.length (rd_T60 row b) := by
    intro b hb
    obtain ⟨c', h1, h2⟩ := key b hb
    rw [hget b hb] at h1
    injection h1 with h1
    rw [h1]; exact h2
  exact ⟨row, ⟨⟨hlen, hget⟩, hgot⟩, hlen, fun b hb h => (hgot b hb h).1⟩
structure Tab (bs : List (List S34)) (n : Nat) (B : List S60) (t : List (List S60)) : Prop where
  tab : IsTab n B bs t
  len : t.length = bs.length
  row : ∀ k : Nat, k < bs.length → RowG (rd_L6 (B :: t) (k : Int)) (rd_L3 bs (k : Int)) n (rd_L6 (B :: t) ((k + 1 : Nat) : Int))
  sum : ∀ k : Nat, k ≤ bs.length → RowQ (rd_L6 (B :: t) (k : Int)) n
  last : lastR B t = rd_L6 (B :: t) (bs.length : Int)
theorem rdL6_succ (r : List S60) (t : List (List S60)) (k : Nat) : rd_L6 (r :: t) ((k + 1 : Nat) : Int) = rd_L6 t (k : Int) := by
  unfold rd_L6; rw [Int.toNat_natCast, Int.toNat_natCast]; rfl
theorem rdL3_succ (l : List S34) (ls : List (List S34)) (k : Nat) : rd_L3 (l :: ls) ((k + 1 : Nat) : Int) = rd_L3 ls (k : Int) := by
  unfold rd_L3; rw [Int.toNat_natCast, Int.toNat_natCast]; rfl
theorem tab_of {n : Nat} : ∀ (bs : List (List S34)) (B : List S60), (∀ i : Nat, i < bs.length → GoodC (rd_L3 bs i)) → RowQ B n → ∃ t, Tab bs n B t := by
  intro bs
  induction bs with
  | nil =>
    intro B hg hB
    refine ⟨[], rfl, rfl, fun k hk => by simp at hk, fun k hk => ?_, rfl⟩
    have : k = 0 := by simpa using hk
    subst this
    exact hB
  | cons l ls ih =>
    intro B hg hB
    obtain ⟨row, hr, hs⟩ := row_got hB (hg 0 (by simp))
    have hr : RowG B l n row := hr
    obtain ⟨t, ht⟩ := ih row (fun i hi => by have := hg (i + 1) (by simpa using hi); rwa [rdL3_succ] at this) hs
    refine ⟨row :: t, ⟨row, t, rfl, hr.is, ht.tab⟩, by simp [ht.len], ?_, ?_, ?_⟩
    · intro k hk
      cases k with
      | zero => exact hr
      | succ k =>
        rw [rdL6_succ, rdL6_succ, rdL3_succ]
        exact ht.row k (by simpa using hk)
    · intro k hk
      cases k with
      | zero => exact hB
      | succ k =>
        rw [rdL6_succ]
        exact ht.sum k (by simpa using hk)
    · rw [List.length_cons, rdL6_succ]; exact ht.last
theorem trace {bs : List (List S34)} (hg : GoodBs bs) {n : Nat} {B : List S60} {t : List (List S60)} (hT : Tab bs n B t) :
    ∀ (k : Nat), k ≤ bs.length → ∀ (b : Nat), b < n → (rd_T60 (rd_L6 (B :: t) (k : Int)) (b : Int)).f0 = true → goodBack bs t n k b := by
  intro k
  induction k with
  | zero => intro _ _ _ _; trivial
  | succ k ih =>
    intro hk b hb hf
    obtain ⟨_, j, j1, j2, j3, j4⟩ := (hT.row k (by omega)).at_ b hb hf
    have h2 := ((hg.2 k (by omega)).at_ j j1).1
    obtain ⟨d, hd⟩ : ∃ d : Nat, (b : Int) - qb (rd_L3 bs (k : Int)) j = (d : Int) := ⟨((b : Int) - qb (rd_L3 bs (k : Int)) j).toNat, by omega⟩
    rw [rdL6_succ] at j2
    rw [hd] at j4
    have hf : (rd_T34 (rd_L3 bs (k : Int)) ((rd_T60 (rd_L6 t (k : Int)) (b : Int)).f2)).f0 = qb (rd_L3 bs (k : Int)) j := by rw [j2]; rfl
    refine ⟨by omega, by omega, ?_, ?_, ?_⟩
    · rw [j2]; omega
    · rw [hf]; omega
    · rw [hf, hd]; exact ih (by omega) d (by omega) j4
theorem good_ok {bs : List (List S34)} (h : GoodBs bs) : okBlocks bs := by
  refine ⟨h.1, fun l hl => ?_⟩
  obtain ⟨i, hi, e⟩ := List.getElem_of_mem hl
  have g := h.2 i hi
  rw [rdL3 bs i hi, e] at g
  refine ⟨g.len, fun x hx => ?_⟩
  obtain ⟨j, hj, e2⟩ := List.getElem_of_mem hx
  have := (g.at_ j hj).1
  unfold qb at this
  rwa [rdT34 l j hj, e2] at this
/-- THE TWO RETURN THE SAME; the miss is a number. -/
theorem best_both (bs : List (List S34)) (hl : bs.length ≤ 1048576) (hm : ∀ l ∈ bs, l.length ≤ 1048576) (a : Int) :
    ∃ out v ok, Evt (fun k => impl_BestCuts.f k bs a) (out, v, ok) ∧ Evt (fun k => spec_BestCuts.f k bs a) (out, v, ok) ∧ NumF v ∧ out.length ≤ 8 := by
  have num0 : NumF 0 := ⟨false, 0, FloatKind.f32.format.leastPlace, by decide +kernel⟩
  obtain ⟨u, u1, u2, u3⟩ := blocks_both bs hl hm
  cases u with
  | false =>
    refine ⟨[], 0, false, ?_, ?_, num0, by simp⟩
    · unfold impl_BestCuts.f
      refine Evt.bind u1 (Evt.neg (by decide) (Evt.succ ?_))
      simp only [impl_BestCuts.j0]
      exact Evt.pos trivial (Evt.pure _)
    · unfold spec_BestCuts.f
      refine Evt.bind u2 (Evt.neg (by decide) (Evt.succ ?_))
      simp only [spec_BestCuts.j0]
      exact Evt.pos trivial (Evt.pure _)
  | true =>
    have hg := u3 rfl
    have h4 := hg.1
    by_cases ha : 0 ≤ a ∧ a ≤ 512
    · obtain ⟨a, rfl⟩ : ∃ n : Nat, a = (n : Int) := ⟨a.toNat, by omega⟩
      have ha : a ≤ 512 := by omega
      obtain ⟨B, hBdef⟩ : ∃ B : List S60, B = List.replicate (a + 1) ⟨true, 0, 0⟩ := ⟨_, rfl⟩
      have hBlen : B.length = a + 1 := by rw [hBdef]; simp
      have hBat : ∀ b : Nat, b < a + 1 → rd_T60 B b = ⟨true, 0, 0⟩ := by
        intro b hb; rw [rdT60 B b (by omega)]; simp [hBdef]
      obtain ⟨t, hT⟩ := tab_of bs B hg.2 ⟨hBlen, fun b hb _ => by rw [hBat b hb]; exact q_zero⟩
      have htl := hT.len
      have hlast := hT.sum bs.length (Nat.le_refl _)
      have hrl : ∀ k : Nat, k < t.length → (rd_L6 t (k : Int)).length = a + 1 := by
        intro k hk
        have := (hT.sum (k + 1) (by omega)).1
        rwa [rdL6_succ] at this
      obtain ⟨F, hF⟩ : ∃ F, F = lastR B t := ⟨_, rfl⟩
      have hF2 : F = rd_L6 (B :: t) (bs.length : Int) := by rw [hF, hT.last]
      rw [← hF2] at hlast
      have ew : wrap64 ((a : Int) + 1) = ((a + 1 : Nat) : Int) := by rw [wrap64_id (by omega) (by omega)]; omega
      have ew2 : wrap64 ((bs.length : Int) - 1) = (bs.length : Int) - 1 := wrap64_id (by omega) (by omega)
      have hin : (0 : Int) ≤ (a : Int) ∧ (a : Int) ≤ 512 := by omega
      have start1 : ∀ r, Evt (fun k => impl_BestCuts.l1 k bs a F t bs bs.length (bs.length : Nat)) r → Evt (fun k => impl_BestCuts.f k bs a) r := by
        intro r hr
        unfold impl_BestCuts.f
        refine Evt.bind u1 (Evt.pos rfl (Evt.cbind (within_val _ _ _) (Evt.succ ?_)))
        simp only [impl_BestCuts.j0]
        rw [ew, decide_eq_true hin]
        refine Evt.neg (by decide) (Evt.pos (by omega) (Evt.pos (by omega) (Evt.cbind rfl ?_)))
        rw [Int.toNat_natCast, List.length_replicate]
        refine impl_start a ha bs ?_
        rw [← hBdef]
        refine impl_rows a ha bs (good_ok hg) bs [] B [] t rfl hBlen rfl hT.tab ?_
        rw [← hF]
        exact hr
      have start2 : ∀ r, Evt (fun k => spec_BestCuts.l1 k bs a (F.map S60.f1) (F.map S60.f0) (t.map fun r => r.map S60.f2) bs.length (bs.length : Nat)) r → Evt (fun k => spec_BestCuts.f k bs a) r := by
        intro r hr
        unfold spec_BestCuts.f
        refine Evt.bind u2 (Evt.pos rfl (Evt.cbind (in_val _ _ _) (Evt.succ ?_)))
        simp only [spec_BestCuts.j0]
        rw [ew, decide_eq_true hin]
        refine Evt.neg (by decide) (Evt.pos (by omega) (Evt.pos (by omega) (Evt.pos (by omega) (Evt.cbind rfl ?_))))
        rw [Int.toNat_natCast, List.length_replicate]
        refine spec_start a ha bs ?_
        have key := spec_rows (r := r) a ha bs (good_ok hg) bs [] B [] t rfl hBlen rfl hT.tab ?_
        · rw [hBdef, List.map_replicate, List.map_replicate] at key
          exact key
        rw [← hF]
        exact hr
      by_cases hok : (rd_T60 F (a : Int)).f0 = true
      · by_cases hfin : ffin .f32 (rd_T60 F (a : Int)).f1 = true
        · have gb := trace hg hT bs.length (Nat.le_refl _) a (by omega) (by rw [← hF2]; exact hok)
          have blen : ∀ (k : Nat) (left : Int) (out : List Int), (back bs t k left out).length = out.length := by
            intro k
            induction k with
            | zero => intro left out; rfl
            | succ k ih => intro left out; simp only [back]; rw [ih]; simp
          refine ⟨back bs t bs.length a (List.replicate bs.length 0), (rd_T60 F (a : Int)).f1, true, start1 _ (Evt.succ ?_), start2 _ (Evt.succ ?_), fin_num hfin, by rw [blen]; simpa using h4⟩
          · simp only [impl_BestCuts.l1]
            refine Evt.neg (by omega) (Evt.pos (by omega) (Evt.pos (by rw [hlast.1]; omega) (Evt.pos hok (Evt.cbind (show impl_IsFinite.f _ = some true by unfold impl_IsFinite.f; rw [hfin]) (Evt.succ ?_)))))
            simp only [impl_BestCuts.j6]
            refine Evt.neg (by decide) (Evt.pos (by omega) (Evt.pos (by omega) ?_))
            rw [ew2, Int.toNat_natCast]
            exact impl_back a ha bs (by omega) t htl hrl F hlast.1 bs.length a _ (Nat.le_refl _) (by simp) gb
          · simp only [spec_BestCuts.l1]
            rw [rdOf_f0, rdOf_f1]
            refine Evt.neg (by omega) (Evt.pos (by omega) (Evt.pos (by rw [List.length_map, hlast.1]; omega) (Evt.pos hok (Evt.pos (by rw [List.length_map, hlast.1]; omega) (Evt.cbind (show spec_l01Finite.f _ = some true by unfold spec_l01Finite.f; rw [hfin]) (Evt.succ ?_))))))
            simp only [spec_BestCuts.j7]
            refine Evt.neg (by decide) (Evt.pos (by omega) (Evt.pos (by omega) ?_))
            rw [ew2, Int.toNat_natCast]
            exact spec_back a ha bs (by omega) t htl hrl F hlast.1 bs.length a _ (Nat.le_refl _) (by simp) gb
        · have hfin : ffin .f32 (rd_T60 F (a : Int)).f1 = false := Bool.eq_false_iff.2 hfin
          refine ⟨[], 0, false, start1 _ (Evt.succ ?_), start2 _ (Evt.succ ?_), num0, by simp⟩
          · simp only [impl_BestCuts.l1]
            refine Evt.neg (by omega) (Evt.pos (by omega) (Evt.pos (by rw [hlast.1]; omega) (Evt.pos hok (Evt.cbind (show impl_IsFinite.f _ = some false by unfold impl_IsFinite.f; rw [hfin]) (Evt.succ ?_)))))
            simp only [impl_BestCuts.j6]
            exact Evt.pos rfl (Evt.pure _)
          · simp only [spec_BestCuts.l1]
            rw [rdOf_f0, rdOf_f1]
            refine Evt.neg (by omega) (Evt.pos (by omega) (Evt.pos (by rw [List.length_map, hlast.1]; omega) (Evt.pos hok (Evt.pos (by rw [List.length_map, hlast.1]; omega) (Evt.cbind (show spec_l01Finite.f _ = some false by unfold spec_l01Finite.f; rw [hfin]) (Evt.succ ?_))))))
            simp only [spec_BestCuts.j7]
            exact Evt.pos rfl (Evt.pure _)
      · refine ⟨[], 0, false, start1 _ (Evt.succ ?_), start2 _ (Evt.succ ?_), num0, by simp⟩
        · simp only [impl_BestCuts.l1]
          refine Evt.neg (by omega) (Evt.pos (by omega) (Evt.pos (by rw [hlast.1]; omega) (Evt.neg hok (Evt.succ ?_))))
          simp only [impl_BestCuts.j6]
          exact Evt.pos trivial (Evt.pure _)
        · simp only [spec_BestCuts.l1]
          rw [rdOf_f0]
          refine Evt.neg (by omega) (Evt.pos (by omega) (Evt.pos (by rw [List.length_map, hlast.1]; omega) (Evt.neg hok (Evt.succ ?_))))
          simp only [spec_BestCuts.j7]
          exact Evt.pos trivial (Evt.pure _)
    · refine ⟨[], 0, false, ?_, ?_, num0, by simp⟩
      · unfold impl_BestCuts.f
        refine Evt.bind u1 (Evt.pos rfl (Evt.cbind (within_val _ _ _) (Evt.succ ?_)))
        simp only [impl_BestCuts.j0]
        exact Evt.pos (by simp; omega) (Evt.pure _)
      · unfold spec_BestCuts.f
        refine Evt.bind u2 (Evt.pos rfl (Evt.cbind (in_val _ _ _) (Evt.succ ?_)))
        simp only [spec_BestCuts.j0]
        exact Evt.pos (by simp; omega) (Evt.pure _)
end Go.Proofs.Ytpngjpiodhpbnaa.PurePFnExactBestCuts
