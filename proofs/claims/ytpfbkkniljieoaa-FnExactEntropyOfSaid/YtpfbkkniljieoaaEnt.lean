/- The entropies of a list tell the same. -/
import Derived.Test.YtpfbkkniljieoaaEntLog
namespace Go.Proofs.Ytpfbkkniljieoaa.Pure
open Go.RowKit Go.Proofs.Ytpfbkkniljieoaa.PFnExactEntropyOf Go.Proofs.YtpfbkkniljieoaaW.PrintWords Go.Proofs.YtpfbkkniljieoaaW.PrintLast Go.Proofs.YtpfbkkniljieoaaW.Fl
/-! ### Lists of numbers -/
theorem copy_same (l : List Int) (hl : l.length ≤ 1048576) : Evt (fun k => laws_toInt64S.f k l) l := by
  have loop : ∀ (n i : Nat) (ys : List Int), i + n = l.length → ys = l.take i ++ List.replicate n 0 → Evt (fun k => laws_toInt64S.l0 k l ys (i : Int)) l := by
    intro n
    induction n with
    | zero =>
      intro i ys hi hy
      refine Evt.succ ?_
      simp only [laws_toInt64S.l0]
      refine Evt.neg (by omega) ?_
      have : i = l.length := by omega
      subst this
      simp only [List.take_length, List.replicate_zero, List.append_nil] at hy
      rw [hy]; exact Evt.pure _
    | succ n ih =>
      intro i ys hi hy
      have hlen : ys.length = l.length := by rw [hy]; simp; omega
      refine Evt.succ ?_
      simp only [laws_toInt64S.l0]
      refine Evt.pos (by omega) (Evt.pos (by omega) (Evt.pos (by omega) ?_))
      rw [wrap64_id (by omega) (by omega), show (i : Int) + 1 = ((i + 1 : Nat) : Int) by omega]
      refine ih (i + 1) _ (by omega) ?_
      rw [hy, Int.toNat_natCast]
      have e : rd l (i : Int) = l[i]'(by omega) := by simp [rd, List.getElem?_eq_getElem (show i < l.length by omega)]
      rw [e, List.set_append, if_neg (by simp; omega)]
      rw [List.take_succ_eq_append_getElem (show i < l.length by omega), List.append_assoc]
      rw [List.length_take, Nat.min_eq_left (show i ≤ l.length by omega), Nat.sub_self, List.replicate_succ]
      rfl
  unfold laws_toInt64S.f
  refine Evt.pos (by omega) (Evt.pos (by simp; omega) ?_)
  exact loop l.length 0 _ (by omega) (by simp)
theorem eq_same (l : List Int) (hl : l.length ≤ 1048576) : Evt (fun k => laws_eqInt64S.f k l l) true := by
  have loop : ∀ (n i : Nat), i + n = l.length → Evt (fun k => laws_eqInt64S.l0 k l l (i : Int)) true := by
    intro n
    induction n with
    | zero =>
      intro i hi
      refine Evt.succ ?_
      simp only [laws_eqInt64S.l0]
      exact Evt.neg (by omega) (Evt.pure _)
    | succ n ih =>
      intro i hi
      refine Evt.succ ?_
      simp only [laws_eqInt64S.l0]
      refine Evt.pos (by omega) (Evt.pos (by omega) (Evt.pos (by omega) (Evt.pos (by trivial) ?_)))
      rw [wrap64_id (by omega) (by omega), show (i : Int) + 1 = ((i + 1 : Nat) : Int) by omega]
      exact ih (i + 1) (by omega)
  unfold laws_eqInt64S.f
  exact Evt.pos rfl (loop l.length 0 (by omega))
/-- The two bounds' checks. -/
def within (l : List Int) (b : Int) : Bool := l.all fun x => decide (-b ≤ x) && decide (x ≤ b)
theorem bound_spec (l : List Int) (hl : l.length ≤ 1048576) : Evt (fun k => spec_l02Bound.f k l 1000000) (within l 1000000) := by
  have loop : ∀ (n i : Nat), i + n = l.length → Evt (fun k => spec_l02Bound.l0 k l 1000000 (i : Int)) (within (l.drop i) 1000000) := by
    intro n
    induction n with
    | zero =>
      intro i hi
      refine Evt.succ ?_
      simp only [spec_l02Bound.l0]
      refine Evt.neg (by omega) ?_
      rw [List.drop_eq_nil_of_le (by omega)]; exact Evt.pure _
    | succ n ih =>
      intro i hi
      have e : rd l (i : Int) = l[i]'(by omega) := by simp [rd, List.getElem?_eq_getElem (show i < l.length by omega)]
      refine Evt.succ ?_
      simp only [spec_l02Bound.l0]
      refine Evt.pos (by omega) (Evt.pos (by omega) ?_)
      rw [List.drop_eq_getElem_cons (show i < l.length by omega), e]
      generalize l[i]'(by omega) = x
      rw [wrap64_id (by omega) (by omega)]
      refine Evt.cbind (a := (decide (-1000000 ≤ x) && decide (x ≤ 1000000))) ?_ ?_
      · unfold spec_l00In.f
        by_cases h : x ≥ -1000000
        · rw [if_pos h, decide_eq_true (show -1000000 ≤ x from h)]; rfl
        · rw [if_neg h, decide_eq_false (show ¬ -1000000 ≤ x from h)]; rfl
      · by_cases h : (decide (-1000000 ≤ x) && decide (x ≤ 1000000)) = true
        · refine Evt.pos h ?_
          rw [wrap64_id (by omega) (by omega), show (i : Int) + 1 = ((i + 1 : Nat) : Int) by omega]
          have := ih (i + 1) (by omega)
          unfold within at this ⊢
          rw [List.all_cons, h, Bool.true_and]; exact this
        · refine Evt.neg h ?_
          unfold within
          rw [List.all_cons, Bool.eq_false_iff.2 h, Bool.false_and]; exact Evt.pure _
  unfold spec_l02Bound.f
  exact loop l.length 0 (by omega)
theorem bound_impl (l : List Int) (hl : l.length ≤ 1048576) : Evt (fun k => impl_areWithin.f k l 1000000) (within l 1000000) := by
  have loop : ∀ (n i : Nat), i + n = l.length → Evt (fun k => impl_areWithin.l0 k 1000000 l (l.length : Int) (i : Int)) (within (l.drop i) 1000000) := by
    intro n
    induction n with
    | zero =>
      intro i hi
      refine Evt.succ ?_
      simp only [impl_areWithin.l0]
      refine Evt.neg (by omega) ?_
      rw [List.drop_eq_nil_of_le (by omega)]; exact Evt.pure _
    | succ n ih =>
      intro i hi
      have e : rd l (i : Int) = l[i]'(by omega) := by simp [rd, List.getElem?_eq_getElem (show i < l.length by omega)]
      refine Evt.succ ?_
      simp only [impl_areWithin.l0]
      refine Evt.pos (by omega) (Evt.pos (by omega) (Evt.pos (by omega) ?_))
      rw [List.drop_eq_getElem_cons (show i < l.length by omega), e]
      generalize l[i]'(by omega) = x
      rw [wrap64_id (by omega) (by omega)]
      refine Evt.cbind (a := (decide (-1000000 ≤ x) && decide (x ≤ 1000000))) ?_ ?_
      · unfold impl_within.f
        by_cases h : x ≥ -1000000
        · rw [if_pos h, decide_eq_true (show -1000000 ≤ x from h)]; rfl
        · rw [if_neg h, decide_eq_false (show ¬ -1000000 ≤ x from h)]; rfl
      · by_cases h : (decide (-1000000 ≤ x) && decide (x ≤ 1000000)) = true
        · refine Evt.pos h ?_
          rw [wrap64_id (by omega) (by omega), show (i : Int) + 1 = ((i + 1 : Nat) : Int) by omega]
          have := ih (i + 1) (by omega)
          unfold within at this ⊢
          rw [List.all_cons, h, Bool.true_and]; exact this
        · refine Evt.neg h ?_
          unfold within
          rw [List.all_cons, Bool.eq_false_iff.2 h, Bool.false_and]; exact Evt.pure _
  unfold impl_areWithin.f
  exact loop l.length 0 (by omega)
/-- What both take. -/
def good (l : List Int) : Bool := decide (1 ≤ l.length ∧ l.length ≤ 128) && within l 1000000
theorem good_spec (l : List Int) (hl : l.length ≤ 1048576) : Evt (fun k => spec_l02Integers.f k l) (good l) := by
  unfold spec_l02Integers.f good
  by_cases h1 : (l.length : Int) ≥ 1
  · refine Evt.pos h1 ?_
    by_cases h2 : (l.length : Int) ≤ 128
    · refine Evt.pos h2 (Evt.bind (bound_spec l hl) ?_)
      rw [decide_eq_true (show 1 ≤ l.length ∧ l.length ≤ 128 by omega), Bool.true_and]; exact Evt.pure _
    · refine Evt.neg h2 ?_
      rw [decide_eq_false (show ¬ (1 ≤ l.length ∧ l.length ≤ 128) by omega)]; exact Evt.pure _
  · refine Evt.neg h1 ?_
    rw [decide_eq_false (show ¬ (1 ≤ l.length ∧ l.length ≤ 128) by omega)]; exact Evt.pure _
theorem good_impl (l : List Int) (hl : l.length ≤ 1048576) : Evt (fun k => impl_AreIntegers.f k l) (good l) := by
  unfold impl_AreIntegers.f good
  refine Evt.cbind (a := decide (1 ≤ l.length ∧ l.length ≤ 128)) ?_ ?_
  · unfold impl_within.f
    by_cases h1 : (l.length : Int) ≥ 1
    · rw [if_pos h1]; congr 1; apply decide_eq_decide.2; omega
    · rw [if_neg h1, decide_eq_false (show ¬ (1 ≤ l.length ∧ l.length ≤ 128) by omega)]
  · by_cases h : 1 ≤ l.length ∧ l.length ≤ 128
    · rw [decide_eq_true h, Bool.true_and]
      exact Evt.pos rfl (Evt.bind (bound_impl l hl) (Evt.pure _))
    · rw [decide_eq_false h, Bool.false_and]
      exact Evt.neg (by decide) (Evt.pure _)
/-! ### The counts -/
theorem firsts_nodup (l acc : List Int) (h : acc.Nodup) : (EO.firsts l acc).Nodup := by
  induction l generalizing acc with
  | nil => exact h
  | cons x l ih =>
    simp only [EO.firsts]
    split
    · exact ih _ h
    · rename_i hx
      refine ih _ ?_
      rw [List.nodup_append]
      refine ⟨h, by simp, ?_⟩
      intro a ha b hb
      simp at hb; subst hb
      intro hab; subst hab; exact hx ha
/-- The counts of the different numbers. -/
def cnts (l : List Int) : List Int := (EO.firsts l []).map fun x => (EO.often l x : Int)
theorem rd_get (l : List Int) (i : Nat) (h : i < l.length) : rd l (i : Int) = l[i] := by simp [rd, List.getElem?_eq_getElem h]
theorem inner_same (l vs cs : List Int) (n : Nat) (hn : n < l.length) (hvl : vs.length ≤ 1048576) {r : Nat × Bool} 
    (hyes : ∀ i : Nat, i < vs.length → rd vs i = rd l n → Evt (fun k => spec_EntropyOf.l1 k l vs cs n i vs.length) r)
    (hno : rd l n ∉ vs → Evt (fun k => spec_EntropyOf.l1 k l vs cs n (-1) vs.length) r) : Evt (fun k => spec_EntropyOf.l1 k l vs cs n (-1) 0) r := by
  have loop : ∀ (m j : Nat) (at_ : Int), j + m = vs.length → ((at_ = -1 ∧ ∀ i : Nat, i < j → rd vs i ≠ rd l n) ∨ ∃ i : Nat, at_ = i ∧ i < j ∧ rd vs i = rd l n) →
      Evt (fun k => spec_EntropyOf.l1 k l vs cs n at_ j) r := by
    intro m
    induction m with
    | zero =>
      intro j at_ hj h
      have : j = vs.length := by omega
      subst this
      rcases h with ⟨rfl, h⟩ | ⟨i, rfl, hi, h⟩
      · refine hno fun hm => ?_
        obtain ⟨i, hi, e⟩ := List.getElem_of_mem hm
        exact h i hi (by rw [rd_get _ _ hi, e])
      · exact hyes i hi h
    | succ m ih =>
      intro j at_ hj h
      refine Evt.succ ?_
      simp only [spec_EntropyOf.l1]
      refine Evt.pos (by omega) (Evt.pos (by omega) (Evt.pos (by omega) (Evt.pos (by omega) ?_)))
      rw [wrap64_id (by omega) (by omega), show (j : Int) + 1 = ((j + 1 : Nat) : Int) by omega]
      by_cases he : rd vs j = rd l n
      · exact Evt.pos he (ih (j + 1) j (by omega) (.inr ⟨j, rfl, by omega, he⟩))
      · refine Evt.neg he (ih (j + 1) at_ (by omega) ?_)
        rcases h with ⟨rfl, h⟩ | ⟨i, rfl, hi, h⟩
        · refine .inl ⟨rfl, fun i hi => ?_⟩
          by_cases hij : i = j
          · subst hij; exact he
          · exact h i (by omega)
        · exact .inr ⟨i, rfl, by omega, h⟩
  exact loop vs.length 0 (-1) (by omega) (.inl ⟨rfl, fun i hi => by omega⟩)
theorem counts_same (l : List Int) (hl : l.length ≤ 128) {r : Nat × Bool} (h : Evt (fun k => spec_EntropyOf.l2 k l (cnts l) 0 0) r) : Evt (fun k => spec_EntropyOf.l0 k l [] [] 0) r := by
  have loop : ∀ (m n : Nat), n + m = l.length → Evt (fun k => spec_EntropyOf.l0 k l (EO.firsts (l.take n) []) (cnts (l.take n)) n) r := by
    intro m
    induction m with
    | zero =>
      intro n hn
      refine Evt.succ ?_
      simp only [spec_EntropyOf.l0]
      refine Evt.neg (by omega) ?_
      rw [List.take_of_length_le (by omega)]; exact h
    | succ m ih =>
      intro n hn
      have hlt : n < l.length := by omega
      have IH := ih (n + 1) (by omega)
      have hfl := EO.firsts_le (l.take n) []
      have hcl : (cnts (l.take n)).length = (EO.firsts (l.take n) []).length := by simp [cnts]
      have hnd := firsts_nodup (l.take n) [] (by simp)
      have htl : (l.take n).length = n := by simp; omega
      simp only [List.length_nil, Nat.zero_add, htl] at hfl
      have hst := EO.firsts_step l n hlt
      have hos := EO.often_step l n hlt
      have hmem : ∀ x, x ∈ EO.firsts (l.take n) [] ↔ x ∈ l.take n := fun x => by rw [EO.mem_firsts]; simp
      refine Evt.succ ?_
      simp only [spec_EntropyOf.l0]
      refine Evt.pos (by omega) (inner_same l _ _ n hlt (by omega) ?_ ?_)
      · intro i hi he
        rw [rd_get _ _ hi] at he
        have hin : rd l n ∈ l.take n := by rw [← hmem, ← he]; exact List.getElem_mem hi
        have hne : EO.often (l.take n) (rd l n) ≠ 0 := by rw [Ne, EO.often_zero]; exact fun h => h hin
        rw [if_neg hne] at hst
        refine Evt.succ ?_
        simp only [spec_EntropyOf.l1]
        refine Evt.neg (by omega) (Evt.neg (by omega) (Evt.pos (by omega) (Evt.pos (by omega) ?_)))
        rw [wrap64_id (n := (n : Int) + 1) (by omega) (by omega), show (n : Int) + 1 = ((n + 1 : Nat) : Int) by omega]
        have e : (cnts (l.take n)).set ((i : Int)).toNat (wrap64 (rd (cnts (l.take n)) (i : Int) + 1)) = cnts (l.take (n + 1)) := by
          have hoi : EO.often (l.take n) (rd l n) ≤ n := by have := EO.often_le (l.take n) (rd l n); omega
          have hrd : rd (cnts (l.take n)) (i : Int) = (EO.often (l.take n) (rd l n) : Nat) := by
            rw [rd_get _ _ (by omega)]; simp only [cnts, List.getElem_map, he]
          rw [hrd, wrap64_id (by omega) (by omega)]
          apply List.ext_getElem
          · simp only [List.length_set, cnts, List.length_map, hst]
          · intro j hj1 hj2
            simp only [List.length_set] at hj1
            rw [List.getElem_set]
            have hj3 : j < (EO.firsts (l.take n) []).length := by omega
            simp only [cnts, List.getElem_map, hst, hos]
            by_cases hij : i = j
            · subst hij
              rw [if_pos (by simp), he, if_pos rfl]; simp
            · rw [if_neg (by simpa using hij), if_neg]
              · simp
              · intro h2
                exact hij ((List.getElem_inj hnd).1 (he.trans h2))
        rw [e, ← hst]
        exact IH
      · intro hno
        rw [hmem] at hno
        have hz : EO.often (l.take n) (rd l n) = 0 := (EO.often_zero _ _).2 hno
        rw [if_pos hz] at hst
        refine Evt.succ ?_
        simp only [spec_EntropyOf.l1]
        refine Evt.neg (by omega) (Evt.pos (by omega) (Evt.pos (by omega) (Evt.pos (by omega) (Evt.pos (by omega) (Evt.pos (by omega) (Evt.cbind rfl (Evt.pos (by omega) (Evt.pos ?_ ?_))))))))
        · simp only [List.length_append, List.length_cons, List.length_nil]; omega
        · rw [wrap64_id (n := (n : Int) + 1) (by omega) (by omega), show (n : Int) + 1 = ((n + 1 : Nat) : Int) by omega]
          have e : (cnts (l.take n) ++ [0]).set (((EO.firsts (l.take n) []).length : Int)).toNat (wrap64 (rd (cnts (l.take n) ++ [0]) ((EO.firsts (l.take n) []).length : Int) + 1)) = cnts (l.take (n + 1)) := by
            rw [← hcl, rd_append, Int.toNat_natCast, List.set_append, if_neg (by omega)]
            have h1 : cnts (l.take (n + 1)) = cnts (l.take n) ++ [1] := by
              unfold cnts
              rw [hst, List.map_append]
              congr 1
              · apply List.map_congr_left
                intro x hx
                rw [hos, if_neg]
                · simp
                · intro h2; subst h2; exact hno ((hmem _).1 hx)
              · simp [hos, hz]
            rw [h1]; simp [wrap64]
          rw [e, ← hst]
          exact IH
  exact loop l.length 0 (by omega)
/-! ### The sum -/
theorem sum_same (l : List Int) (hl1 : 1 ≤ l.length) (hl : l.length ≤ 128) : ∃ v a, V .f32 v a ∧ Evt (fun k => spec_EntropyOf.l2 k l (cnts l) 0 0) (v, true) ∧ Evt (fun k => EO.sum k l (EO.firsts l []) 0) (v, true) := by
  have hmem : ∀ x, x ∈ EO.firsts l [] ↔ x ∈ l := fun x => by rw [EO.mem_firsts]; simp
  have ints : ∀ n : Nat, n ≤ 128 → V .f32 (floatOfInt .f32 (n : Int)) (n : Rat) := by
    intro n hn
    have e : ((n : Int) : Rat) = (n : Rat) := rfl
    obtain ⟨c, h1, h2⟩ := ofInt_V .f32 (n : Int) (by rw [e]; exact fits_nat .f32 (M := n) (by omega) Rat.le_refl (by have : (0 : Rat) ≤ (n : Rat) := Rat.natCast_nonneg; grind))
    rw [e] at h2
    rw [h2.exact (rep_nat .f32 (by omega))] at h1
    exact h1
  have loop : ∀ (rest pre : List Int) (s : Nat), EO.firsts l [] = pre ++ rest → Bd .f32 s (34 * pre.length) → pre.length + rest.length ≤ 128 →
      ∃ v a, V .f32 v a ∧ Evt (fun k => spec_EntropyOf.l2 k l (cnts l) s (pre.length : Nat)) (v, true) ∧ Evt (fun k => EO.sum k l rest s) (v, true) := by
    intro rest
    induction rest with
    | nil =>
      intro pre s hp hs hlen
      simp only [List.append_nil] at hp
      have hcl : (cnts l).length = pre.length := by simp [cnts, hp]
      obtain ⟨v, hv, b⟩ := div_Bd (n := 2) (neg_Bd hs) (show V .f32 1060205080 ((1453635 : Rat)/2097152) by decide +kernel) (by decide +kernel) (by simp at hlen; omega)
      obtain ⟨a, va, _, _⟩ := b
      obtain ⟨z, hz, hz2⟩ := ffin_V va
      have hfin : ffin .f32 v = true := by unfold ffin; rw [hz]; exact hz2
      refine ⟨v, a, va, Evt.succ ?_, ?_⟩
      · simp only [spec_EntropyOf.l2]
        refine Evt.neg (by omega) (Evt.cbind hv (Evt.const ?_))
        simp [spec_l02Number.f, spec_l01Finite.f, hfin]
      · simp only [EO.sum]
        refine Evt.cbind hv (Evt.const ?_)
        simp [impl_finite.f, impl_IsFinite.f, hfin]
    | cons x rest ih =>
      intro pre s hp hs hlen
      simp only [List.length_cons] at hlen
      have hcl : (cnts l).length = pre.length + (rest.length + 1) := by simp [cnts, hp]
      have hx : x ∈ l := by rw [← hmem, hp]; simp
      have ho1 : EO.often l x ≠ 0 := by rw [Ne, EO.often_zero]; exact fun h => h hx
      have ho2 := EO.often_le l x
      have hrd : rd (cnts l) (pre.length : Int) = (EO.often l x : Nat) := by
        unfold cnts
        rw [hp, List.map_append, List.map_cons]
        have := rd_append (pre.map fun x => (EO.often l x : Int)) (EO.often l x : Nat) (rest.map fun x => (EO.often l x : Int))
        rw [List.length_map] at this
        exact this
      have v1 := ints (EO.often l x) (by omega)
      have v2 := ints l.length hl
      obtain ⟨c, hcdef⟩ : ∃ c, c = EO.often l x := ⟨_, rfl⟩
      rw [← hcdef] at ho1 ho2 hrd v1
      have r1 : (1 : Rat) ≤ (c : Rat) := (Rat.natCast_le_natCast (a := 1) (b := c)).2 (by omega)
      have r2 : (c : Rat) ≤ (l.length : Rat) := Rat.natCast_le_natCast.2 ho2
      have r3 : (l.length : Rat) ≤ 128 := (Rat.natCast_le_natCast (a := l.length) (b := 128)).2 hl
      have hlpos : (0 : Rat) < (l.length : Rat) := by grind
      have hq : (c : Rat) / (l.length : Rat) * (l.length : Rat) = (c : Rat) := Rat.div_mul_cancel (by grind)
      have q1 : (c : Rat) / (l.length : Rat) ≤ 1 := Rat.le_of_mul_le_mul_right (c := (l.length : Rat)) (by rw [hq]; grind) hlpos
      have q2 : pw (-7) ≤ (c : Rat) / (l.length : Rat) := by
        refine Rat.le_of_mul_le_mul_right (c := (l.length : Rat)) ?_ hlpos
        rw [hq, show pw (-7) = 1 / 128 by decide +kernel]; grind
      have q3 : (0 : Rat) < pw (-7) := pw_pos _
      obtain ⟨p, a, hp1, va, hn⟩ := div_V v1 v2 (by grind) (fits_nat .f32 (M := 1) (by omega) (by rw [show ((1 : Nat) : Rat) = 1 from rfl]; exact q1) (by rw [show ((1 : Nat) : Rat) = 1 from rfl]; grind))
      have a1 : pw (-7) ≤ a := hn.ge ⟨1, -7, by decide, by decide, by rw [show ((1 : Int) : Rat) = 1 from rfl, Rat.one_mul]⟩ q2
      have a2 : a ≤ 1 := by
        have := hn.le (rep_nat .f32 (M := 1) (by omega)) (by rw [show ((1 : Nat) : Rat) = 1 from rfl]; exact q1)
        rwa [show ((1 : Nat) : Rat) = 1 from rfl] at this
      obtain ⟨g, e1, e2, bg⟩ := log_same va a1 a2
      have bp : Bd .f32 p 1 := ⟨a, va, by rw [show ((1 : Nat) : Rat) = 1 from rfl]; exact a2, by rw [show ((1 : Nat) : Rat) = 1 from rfl]; grind⟩
      obtain ⟨t1, h1, b1⟩ := mul_Bd bp bg (by omega)
      obtain ⟨t2, h2, b2⟩ := add_Bd hs b1 (by omega)
      obtain ⟨v, b, vb, E1, E2⟩ := ih (pre ++ [x]) t2 (by rw [hp]; simp) (b2.mono (by simp; omega)) (by simp; omega)
      refine ⟨v, b, vb, Evt.succ ?_, ?_⟩
      · simp only [spec_EntropyOf.l2]
        refine Evt.pos (by omega) (Evt.pos (by omega) ?_)
        rw [hrd]
        refine Evt.cbind hp1 (Evt.bind e1 (Evt.cbind h1 (Evt.cbind h2 ?_)))
        rw [wrap64_id (by omega) (by omega), show (pre.length : Int) + 1 = (((pre ++ [x]).length : Nat) : Int) by simp]
        exact E1
      · simp only [EO.sum]
        rw [← hcdef]
        exact Evt.cbind hp1 (Evt.bind e2 (Evt.cbind h1 (Evt.cbind h2 E2)))
  obtain ⟨v, a, h1, h2, h3⟩ := loop (EO.firsts l []) [] 0 (by simp) ⟨0, V_zero _, by decide +kernel, by decide +kernel⟩ (by have := EO.firsts_le l []; simp at this ⊢; omega)
  exact ⟨v, a, h1, h2, h3⟩
/-- The two entropies. -/
theorem ent_same (l : List Int) (hl : l.length ≤ 1048576) : ∃ v b a, V .f32 v a ∧ Evt (fun k => spec_EntropyOf.f k l) (v, b) ∧ Evt (fun k => impl_EntropyOf.f k l) (v, b) := by
  by_cases hg : good l = true
  · have hlen : 1 ≤ l.length ∧ l.length ≤ 128 := by
      unfold good at hg
      simp only [Bool.and_eq_true, decide_eq_true_eq] at hg
      exact hg.1
    obtain ⟨v, a, va, h1, h2⟩ := sum_same l hlen.1 hlen.2
    refine ⟨v, true, a, va, ?_, ?_⟩
    · unfold spec_EntropyOf.f
      exact Evt.bind (good_spec l hl) (Evt.pos hg (counts_same l hlen.2 h1))
    · unfold impl_EntropyOf.f
      exact Evt.bind (good_impl l hl) (Evt.pos hg h2)
  · refine ⟨0, false, 0, V_zero _, ?_, ?_⟩
    · unfold spec_EntropyOf.f
      exact Evt.bind (good_spec l hl) (Evt.neg hg (Evt.pure _))
    · unfold impl_EntropyOf.f
      exact Evt.bind (good_impl l hl) (Evt.neg hg (Evt.pure _))
/-- A quotient of 1 by a zero. -/
theorem quo_zero {y : Nat} (h : V .f64 y 0) : ∃ r, floatBits .quo .f64 4607182418800017408 y = some r := by
  obtain ⟨s, m, i, h1, h2⟩ := val_some h.1
  have hm : m = 0 := by
    have hp := pw_pos i
    have : (m : Rat) * pw i = 0 := by cases s <;> simp [sg] at h2 <;> grind
    rcases Rat.mul_eq_zero.1 this with h | h
    · exact Rat.natCast_inj.1 (h : ((m : Nat) : Rat) = ((0 : Nat) : Rat))
    · grind
  subst hm
  have h3 : FloatKind.f64.format.read 4607182418800017408 = .number false (2 ^ 52) (-52) := by decide +kernel
  have h4 : floatBits .quo .f64 4607182418800017408 y = ((FloatKind.f64.format.read 4607182418800017408).quotient (FloatKind.f64.format.fractionBits + 2) (FloatKind.f64.format.read y)).map FloatKind.f64.format.write := rfl
  rw [h4, h1, h3]
  exact ⟨_, rfl⟩
theorem same_float {t : Nat} {a : Rat} (h : V .f64 t a) : Evt (fun k => laws_sameFloat.f k t t) true := by
  have hn : fne .f64 t t = false := (V_self h).2
  have he : feq .f64 t t = true := (V_self h).1
  unfold laws_sameFloat.f
  rw [hn]
  refine Evt.neg (by decide) (Evt.succ ?_)
  simp only [laws_sameFloat.j0, he]
  refine Evt.neg (by decide) ?_
  by_cases hz : a = 0
  · subst hz
    obtain ⟨r, hr⟩ := quo_zero h
    have hz : feq .f64 t 0 = true := by rw [feq_V h (V_zero _)]; simp
    refine Evt.pos hz (Evt.pos hz (Evt.cbind hr (Evt.cbind hr (Evt.const ?_))))
    simp
  · refine Evt.neg ?_ (Evt.pure _)
    rw [feq_V h (V_zero _)]; simpa using hz
/-- THE STATEMENT. -/
theorem entropyOf_true : laws_FnExactEntropyOf.Pure := by
  intro l _ _ _
  by_cases hl : l.length ≤ 1048576
  · obtain ⟨v, b, a, va, h1, h2⟩ := ent_same l hl
    obtain ⟨t, ht, vt⟩ := wide_V va
    refine Evt.ex ?_
    unfold laws_FnExactEntropyOf.f
    refine Evt.neg (by omega) (Evt.bind (copy_same l hl) (Evt.bind h1 (Evt.bind (copy_same l hl) (Evt.bind h2 (Evt.cbind ht (Evt.cbind ht (Evt.bind (same_float vt) (Evt.pos rfl (Evt.succ ?_)))))))))
    simp only [laws_FnExactEntropyOf.j0, bne_self_eq_false]
    exact Evt.neg (by decide) (Evt.bind (copy_same l hl) (Evt.bind (eq_same l hl) (Evt.pos rfl (Evt.pure _))))
  · refine ⟨0, ?_⟩
    unfold laws_FnExactEntropyOf.f
    rw [if_pos (by omega)]
end Go.Proofs.Ytpfbkkniljieoaa.Pure
