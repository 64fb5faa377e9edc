/- What the law FnExactBestCuts computes is true, for every list of lists of costs that a Go program can hold. -/
import Derived.Test.YtpngjpiodhpbnaaFnExactBestCutsBest
import Derived.Test.YtpngjpiodhpbnaaPFnExactBestCutsx8
namespace Go.Proofs.Ytpngjpiodhpbnaa.Pure
open Go Go.RowKit Go.Proofs.Ytpngjpiodhpbnaa.PFnExactBestCuts Go.Proofs.Ytpngjpiodhpbnaa.PurePFnExactBestCuts Go.Proofs.YtpngjpiodhpbnaaW.PrintWords Go.Proofs.YtpngjpiodhpbnaaW.PrintLast Go.Proofs.YtpngjpiodhpbnaaW.Fl
/-! ### Floats that are the same -/
theorem quo_any {x : Nat} (h : feq .f64 x 0 = true) : ∃ r, floatBits .quo .f64 4607182418800017408 x = some r := by
  have r0 : FloatKind.f64.format.read 0 = .number false 0 FloatKind.f64.format.leastPlace := by decide +kernel
  have h3 : FloatKind.f64.format.read 4607182418800017408 = .number false (2 ^ 52) (-52) := by decide +kernel
  have h4 : floatBits .quo .f64 4607182418800017408 x = ((FloatKind.f64.format.read 4607182418800017408).quotient (FloatKind.f64.format.fractionBits + 2) (FloatKind.f64.format.read x)).map FloatKind.f64.format.write := rfl
  have h5 : feq .f64 x 0 = ((FloatKind.f64.format.read x).order (FloatKind.f64.format.read 0) == some .eq) := rfl
  rw [h5, r0] at h
  rw [h4, h3]
  cases hr : FloatKind.f64.format.read x with
  | nan s t => rw [hr] at h; cases s <;> cases h
  | infinity s => rw [hr] at h; cases s <;> cases h
  | number s n j =>
    by_cases hn : n = 0
    · subst hn; exact ⟨_, rfl⟩
    · unfold Ieee.Datum.quotient
      simp only []
      rw [if_neg hn]
      exact ⟨_, rfl⟩
theorem feq_fne (x : Nat) : feq .f64 x x = !fne .f64 x x := by unfold feq fne; simp [bne]
theorem same_any (x : Nat) : Evt (fun k => laws_sameFloat.f k x x) true := by
  by_cases hn : fne .f64 x x = true
  · unfold laws_sameFloat.f
    refine Evt.pos hn (Evt.succ ?_)
    simp only [laws_sameFloat.j0]
    exact Evt.pos (by simp) (Evt.pos hn (Evt.const (by rw [hn])))
  · have he : feq .f64 x x = true := by rw [feq_fne, Bool.eq_false_iff.2 hn]; rfl
    unfold laws_sameFloat.f
    rw [Bool.eq_false_iff.2 hn]
    refine Evt.neg (by decide) (Evt.succ ?_)
    simp only [laws_sameFloat.j0]
    refine Evt.neg (by decide) ?_
    by_cases hz : feq .f64 x 0 = true
    · obtain ⟨r, hr⟩ := quo_any hz
      refine Evt.pos hz (Evt.pos hz (Evt.cbind hr (Evt.cbind hr (Evt.const ?_))))
      simp
    · refine Evt.neg hz (Evt.const ?_)
      rw [he]
theorem wide_num {x : Nat} (h : NumF x) : ∃ r, floatToFloatBits .f32 x .f64 = some r := by
  obtain ⟨s, m, i, h⟩ := h
  have hv : val FloatKind.f32.format x = some (sg s ((m : Rat) * pw i)) := by unfold val; rw [h]; rfl
  have ht := val_top (two_le .f32) hv
  have hf : FitsS FloatKind.f64.format (sg s ((m : Rat) * pw i)) := by
    refine fits_of_abs (M := pw (topOf FloatKind.f32.format)) ⟨1, topOf FloatKind.f32.format, by decide, by decide, ?_⟩ (by decide +kernel) ht.1 ht.2
    rw [show ((1 : Int) : Rat) = 1 from rfl, Rat.one_mul]
  obtain ⟨sg, m, i, h1, c, h2, h3⟩ := conv_rn FloatKind.f64.format (two_le .f64) hv hf
  refine ⟨FloatKind.f64.format.write (.number sg m i), ?_⟩
  unfold floatToFloatBits
  rw [if_neg (by decide)]
  unfold FloatKind.decode FloatKind.encode
  rw [h1]
  simp only []
  rw [if_neg (by rw [val_isInf h2]; decide)]
/-! ### Lists of costs -/
def cv (x : S76) : S34 := ⟨x.f0, x.f1⟩
def tot {α : Type} : List (List α) → Nat
  | [] => 0
  | l :: r => l.length + tot r
theorem drop_at {α : Type} (l : List (List α)) (i : Nat) (h : i < l.length) : l.drop i = l.getD i [] :: l.drop (i + 1) := by
  rw [List.drop_eq_getElem_cons h]; simp [h]
theorem tot_mem {α : Type} : ∀ (l : List (List α)), ∀ s ∈ l, s.length ≤ tot l
  | [], _, h => by cases h
  | x :: r, s, h => by
    simp only [tot]
    rcases List.mem_cons.1 h with rfl | h
    · omega
    · have := tot_mem r s h; omega
theorem tot_map (ls : List (List S76)) : tot (ls.map fun l => l.map cv) = tot ls := by
  induction ls with
  | nil => rfl
  | cons l r ih => simp only [List.map_cons, tot, List.length_map, ih]
theorem rdL9 (l : List (List S76)) (i : Nat) : rd_L9 l (i : Int) = l.getD i [] := by unfold rd_L9; rw [Int.toNat_natCast]
theorem sizes (l : List (List S76)) (hl : l.length ≤ 9223372036854775807) (hs : ∀ s ∈ l, s.length ≤ 9223372036854775807) : ∃ r : Int, Evt (fun k => laws_szCostSS.f k l 1048576) r ∧ (r < 0 ∨ l.length + tot l ≤ 1048576) := by
  have loop : ∀ (n i : Nat) (left : Int), i + n = l.length → 0 ≤ left → left ≤ 1048576 → l.length ≤ 1048576 → ∃ r : Int, Evt (fun k => laws_szCostSS.l0 k l left (i : Int)) r ∧ (r < 0 ∨ (tot (l.drop i) : Int) ≤ left) := by
    intro n
    induction n with
    | zero =>
      intro i left hi h1 _ h3
      refine ⟨left, Evt.succ ?_, .inr ?_⟩
      · simp only [laws_szCostSS.l0]
        exact Evt.neg (by omega) (Evt.pure _)
      · rw [List.drop_eq_nil_of_le (by omega)]; simpa [tot] using h1
    | succ n ih =>
      intro i left hi h1 h2 h3
      have hlt : i < l.length := by omega
      have hsz := hs (l.getD i []) (by simp [hlt])
      rw [drop_at l i hlt]
      have hw : wrap64 (left - ((l.getD i []).length : Int)) = left - ((l.getD i []).length : Int) := wrap64_id (by omega) (by omega)
      by_cases hneg : left - ((l.getD i []).length : Int) < 0
      · refine ⟨-1, Evt.succ ?_, .inl (by omega)⟩
        simp only [laws_szCostSS.l0, rdL9]
        refine Evt.pos (by omega) (Evt.pos (by omega) (Evt.cbind (a := -1) ?_ (Evt.pos (by omega) (Evt.pure _))))
        unfold laws_szCostS.f
        rw [if_pos (by rw [hw]; exact hneg)]
      · obtain ⟨r, hr, hc⟩ := ih (i + 1) (left - ((l.getD i []).length : Int)) (by clear hw; omega) (by clear hw; omega) (by clear hw; omega) h3
        refine ⟨r, Evt.succ ?_, ?_⟩
        · simp only [laws_szCostSS.l0, rdL9]
          refine Evt.pos (by clear hw; omega) (Evt.pos (by clear hw; omega) (Evt.cbind (a := left - ((l.getD i []).length : Int)) ?_ (Evt.neg hneg ?_)))
          · unfold laws_szCostS.f
            rw [if_neg (by rw [hw]; exact hneg), hw]
          · rw [wrap64_id (n := (i : Int) + 1) (by clear hw; omega) (by clear hw; omega), show (i : Int) + 1 = ((i + 1 : Nat) : Int) by clear hw; omega]
            exact hr
        · clear hw
          rcases hc with h | h
          · exact .inl h
          · right; simp only [tot]; omega
  have hw : wrap64 (1048576 - (l.length : Int)) = 1048576 - (l.length : Int) := wrap64_id (by omega) (by omega)
  unfold laws_szCostSS.f
  by_cases hneg : 1048576 - (l.length : Int) < 0
  · exact ⟨-1, Evt.pos (by rw [hw]; exact hneg) (Evt.pure _), .inl (by omega)⟩
  · obtain ⟨r, hr, hc⟩ := loop l.length 0 (1048576 - (l.length : Int)) (by omega) (by clear hw; omega) (by clear hw; omega) (by clear hw; omega)
    refine ⟨r, Evt.neg (by rw [hw]; exact hneg) (by rw [hw]; exact hr), ?_⟩
    clear hw
    rcases hc with h | h
    · exact .inl h
    · right; rw [List.drop_zero] at h; omega
theorem copy_row (l : List S76) (hl : l.length ≤ 1048576) : Evt (fun k => laws_toCostS.f k l) (l.map cv) := by
  have loop : ∀ (n i : Nat) (ys : List S34), i + n = l.length → ys = (l.map cv).take i ++ List.replicate n z34 → Evt (fun k => laws_toCostS.l0 k l ys (i : Int)) (l.map cv) := by
    intro n
    induction n with
    | zero =>
      intro i ys hi hy
      refine Evt.succ ?_
      simp only [laws_toCostS.l0]
      refine Evt.neg (by omega) ?_
      rw [List.take_of_length_le (by simp; omega), List.replicate_zero, List.append_nil] at hy
      rw [hy]; exact Evt.pure _
    | succ n ih =>
      intro i ys hi hy
      have hlen : ys.length = l.length := by rw [hy]; simp; omega
      have hlt : i < (l.map cv).length := by simp; omega
      refine Evt.succ ?_
      simp only [laws_toCostS.l0, laws_toCost.f]
      refine Evt.pos (by omega) (Evt.pos (by omega) (Evt.cbind rfl (Evt.pos (by omega) ?_)))
      rw [wrap64_id (by omega) (by omega), show (i : Int) + 1 = ((i + 1 : Nat) : Int) by omega]
      refine ih (i + 1) _ (by omega) ?_
      have e : (⟨(rd_T76 l (i : Int)).f0, (rd_T76 l (i : Int)).f1⟩ : S34) = (l.map cv)[i] := by
        simp [rd_T76, cv, List.getElem?_eq_getElem (show i < l.length by omega)]
      rw [hy, Int.toNat_natCast]
      rw [e, List.set_append, if_neg (by simp; omega)]
      rw [List.take_succ_eq_append_getElem hlt, List.append_assoc]
      rw [List.length_take, Nat.min_eq_left (by omega), Nat.sub_self, List.replicate_succ]
      rfl
  unfold laws_toCostS.f
  refine Evt.pos (by omega) (Evt.pos (by simp; omega) ?_)
  exact loop l.length 0 _ (by omega) (by simp)
theorem copy_rows (l : List (List S76)) (hl : l.length ≤ 1048576) (hm : ∀ s ∈ l, s.length ≤ 1048576) : Evt (fun k => laws_toCostSS.f k l) (l.map fun r => r.map cv) := by
  have loop : ∀ (n i : Nat) (ys : List (List S34)), i + n = l.length → ys = (l.map fun r => r.map cv).take i ++ List.replicate n [] → Evt (fun k => laws_toCostSS.l0 k l ys (i : Int)) (l.map fun r => r.map cv) := by
    intro n
    induction n with
    | zero =>
      intro i ys hi hy
      refine Evt.succ ?_
      simp only [laws_toCostSS.l0]
      refine Evt.neg (by omega) ?_
      rw [List.take_of_length_le (by simp; omega), List.replicate_zero, List.append_nil] at hy
      rw [hy]; exact Evt.pure _
    | succ n ih =>
      intro i ys hi hy
      have hlen : ys.length = l.length := by rw [hy]; simp; omega
      have hlt : i < (l.map fun r => r.map cv).length := by simp; omega
      have hil : i < l.length := by omega
      refine Evt.succ ?_
      simp only [laws_toCostSS.l0, rdL9]
      have e0 : l.getD i [] = l[i] := by simp [hil]
      refine Evt.pos (by omega) (Evt.pos (by omega) (Evt.bind (copy_row (l.getD i []) (by rw [e0]; exact hm _ (List.getElem_mem _))) (Evt.pos (by omega) ?_)))
      rw [wrap64_id (by omega) (by omega), show (i : Int) + 1 = ((i + 1 : Nat) : Int) by omega]
      refine ih (i + 1) _ (by omega) ?_
      have e : (l.getD i []).map cv = (l.map fun r => r.map cv)[i] := by rw [e0]; simp
      rw [hy, Int.toNat_natCast]
      rw [e, List.set_append, if_neg (by simp; omega)]
      rw [List.take_succ_eq_append_getElem hlt, List.append_assoc]
      rw [List.length_take, Nat.min_eq_left (by omega), Nat.sub_self, List.replicate_succ]
      rfl
  unfold laws_toCostSS.f
  refine Evt.pos (by omega) (Evt.pos (by simp; omega) ?_)
  exact loop l.length 0 _ (by omega) (by simp)
theorem eq_row (l : List S34) (hl : l.length ≤ 1048576) : Evt (fun k => laws_eqCostS.f k l l) true := by
  have loop : ∀ (n i : Nat), i + n = l.length → Evt (fun k => laws_eqCostS.l0 k l l (i : Int)) true := by
    intro n
    induction n with
    | zero =>
      intro i hi
      refine Evt.succ ?_
      simp only [laws_eqCostS.l0]
      exact Evt.neg (by omega) (Evt.pure _)
    | succ n ih =>
      intro i hi
      refine Evt.succ ?_
      simp only [laws_eqCostS.l0, laws_eqCost.f]
      refine Evt.pos (by omega) (Evt.pos (by omega) (Evt.pos (by omega) (Evt.bind (Evt.pos (by simp) (same_any _)) (Evt.pos rfl ?_))))
      rw [wrap64_id (by omega) (by omega), show (i : Int) + 1 = ((i + 1 : Nat) : Int) by omega]
      exact ih (i + 1) (by omega)
  unfold laws_eqCostS.f
  exact Evt.pos rfl (loop l.length 0 (by omega))
theorem eq_rows (l : List (List S34)) (hl : l.length ≤ 1048576) (hm : ∀ s ∈ l, s.length ≤ 1048576) : Evt (fun k => laws_eqCostSS.f k l l) true := by
  have loop : ∀ (n i : Nat), i + n = l.length → Evt (fun k => laws_eqCostSS.l0 k l l (i : Int)) true := by
    intro n
    induction n with
    | zero =>
      intro i hi
      refine Evt.succ ?_
      simp only [laws_eqCostSS.l0]
      exact Evt.neg (by omega) (Evt.pure _)
    | succ n ih =>
      intro i hi
      refine Evt.succ ?_
      simp only [laws_eqCostSS.l0]
      refine Evt.pos (by omega) (Evt.pos (by omega) (Evt.pos (by omega) (Evt.bind (eq_row _ (by rw [rdL3 l i (by omega)]; exact hm _ (List.getElem_mem _))) (Evt.pos rfl ?_))))
      rw [wrap64_id (by omega) (by omega), show (i : Int) + 1 = ((i + 1 : Nat) : Int) by omega]
      exact ih (i + 1) (by omega)
  unfold laws_eqCostSS.f
  exact Evt.pos rfl (loop l.length 0 (by omega))
theorem mark_row : ∀ (n i : Nat) (l : List S34) (a : Int), i + n = l.length → 0 ≤ a → a + 2 * n ≤ 1000000000 → i + n ≤ 1048576 → ∃ y, Evt (fun k => laws_markCostS.l0 k l a (i : Int)) (a + 2 * n, y) := by
  intro n
  induction n with
  | zero =>
    intro i l a hi h0 h1 h2
    refine ⟨l, Evt.succ ?_⟩
    simp only [laws_markCostS.l0]
    exact Evt.neg (by omega) (Evt.const (by simp))
  | succ n ih =>
    intro i l a hi h0 h1 h2
    have ew : wrap64 (wrap64 (a + 1) + 1) = a + 2 := by rw [wrap64_id (n := a + 1) (by omega) (by omega), wrap64_id (by omega) (by omega)]; omega
    obtain ⟨y, hy⟩ := ih (i + 1) ((l.set i (⟨a, (rd_T34 l (i : Int)).f1⟩ : S34)).set i (⟨(rd_T34 (l.set i (⟨a, (rd_T34 l (i : Int)).f1⟩ : S34)) (i : Int)).f0, floatOfInt .f32 (wrap64 (a + 1))⟩ : S34)) (a + 2) (by simp; omega) (by omega) (by omega) (by omega)
    refine ⟨y, Evt.succ ?_⟩
    simp only [laws_markCostS.l0]
    refine Evt.pos (by omega) (Evt.pos (by omega) (Evt.cbind rfl ?_))
    rw [ew, wrap64_id (n := (i : Int) + 1) (by omega) (by omega), show (i : Int) + 1 = ((i + 1 : Nat) : Int) by omega, Int.toNat_natCast]
    have e : a + 2 + 2 * (n : Int) = a + 2 * ((n + 1 : Nat) : Int) := by omega
    rw [← e]; exact hy
theorem mark_rows : ∀ (n i : Nat) (l : List (List S34)) (a : Int), i + n = l.length → l.length ≤ 1048576 → 0 ≤ a → a + 2 * tot (l.drop i) ≤ 1000000000 → (∀ s ∈ l.drop i, s.length ≤ 1048576) → ∃ r, Evt (fun k => laws_markCostSS.l0 k l a (i : Int)) r ∧ 0 ≤ r.1 := by
  intro n
  induction n with
  | zero =>
    intro i l a hi hl h0 h1 h2
    refine ⟨(a, l), Evt.succ ?_, h0⟩
    simp only [laws_markCostSS.l0]
    exact Evt.neg (by omega) (Evt.pure _)
  | succ n ih =>
    intro i l a hi hl h0 h1 h2
    have hlt : i < l.length := by omega
    rw [drop_at l i hlt] at h1 h2
    simp only [tot] at h1
    have hm := h2 _ (List.mem_cons_self ..)
    obtain ⟨y, hy⟩ := mark_row (l.getD i []).length 0 (l.getD i []) a (by omega) h0 (by omega) (by omega)
    have hd : ∀ t : List S34, (l.set i t).drop (i + 1) = l.drop (i + 1) := by
      intro t; rw [List.drop_set, if_pos (by omega)]
    obtain ⟨r, hr, h0r⟩ := ih (i + 1) (l.set i y) (a + 2 * ((l.getD i []).length : Nat)) (by simp; omega) (by simpa using hl) (by omega) (by rw [hd]; omega) (by rw [hd]; exact fun s hs => h2 s (List.mem_cons_of_mem _ hs))
    refine ⟨r, Evt.succ ?_, h0r⟩
    simp only [laws_markCostSS.l0, Int.toNat_natCast]
    refine Evt.pos (by omega) (Evt.pos (by omega) (Evt.bind (a := (a + 2 * ((l.getD i []).length : Nat), y)) hy ?_))
    rw [wrap64_id (n := (i : Int) + 1) (by omega) (by omega), show (i : Int) + 1 = ((i + 1 : Nat) : Int) by omega]
    exact hr
theorem mark_all (l : List (List S34)) (hl : l.length + tot l ≤ 1048576) : ∃ r : Int, Evt (fun k => laws_markCostSS.f k l 1) r ∧ 0 ≤ r := by
  obtain ⟨r, hr, h0⟩ := mark_rows l.length 0 l 1 (by omega) (by omega) (by omega) (by rw [List.drop_zero]; omega) (by rw [List.drop_zero]; exact fun s hs => by have := tot_mem l s hs; omega)
  refine ⟨r.1, ?_, h0⟩
  unfold laws_markCostSS.f laws_markCostSS.f2
  exact Evt.bind hr (Evt.pure _)
/-! ### Lists of numbers -/
theorem eq_ints (l : List Int) (hl : l.length ≤ 1048576) : Evt (fun k => laws_eqInt64S.f k l l) true := by
  have loop : ∀ (n i : Nat), i + n = l.length → Evt (fun k => laws_eqInt64S.l0 k l l (i : Int)) true := by
    intro n
    induction n with
    | zero =>
      intro i hi
      refine Evt.succ ?_
      simp only [laws_eqInt64S.l0]
      exact Evt.neg (by omega) (Evt.pure _)
    | succ n ih =>
      intro i hi
      refine Evt.succ ?_
      simp only [laws_eqInt64S.l0]
      refine Evt.pos (by omega) (Evt.pos (by omega) (Evt.pos (by omega) (Evt.pos (by trivial) ?_)))
      rw [wrap64_id (by omega) (by omega), show (i : Int) + 1 = ((i + 1 : Nat) : Int) by omega]
      exact ih (i + 1) (by omega)
  unfold laws_eqInt64S.f
  exact Evt.pos rfl (loop l.length 0 (by omega))
def up : Nat → Int → List Int
  | 0, _ => []
  | n + 1, a => a :: up n (a + 1)
theorem up_len : ∀ (n : Nat) (a : Int), (up n a).length = n
  | 0, _ => rfl
  | n + 1, a => by simp [up, up_len n]
theorem mark_ints : ∀ (n : Nat) (pre l : List Int) (a : Int), l.length = n → pre.length + n ≤ 100 → 0 ≤ a → a ≤ 1000 - n → Evt (fun k => laws_markInt64S.l0 k (pre ++ l) a (pre.length : Nat)) (a + n, pre ++ up n a) := by
  intro n
  induction n with
  | zero =>
    intro pre l a hn h1 h2 h3
    have : l = [] := List.length_eq_zero_iff.1 hn
    subst this
    refine Evt.succ ?_
    simp only [laws_markInt64S.l0]
    exact Evt.neg (by simp) (Evt.const (by simp [up]))
  | succ n ih =>
    intro pre l a hn h1 h2 h3
    cases l with
    | nil => simp at hn
    | cons x l =>
      refine Evt.succ ?_
      simp only [laws_markInt64S.l0]
      refine Evt.pos (by simp; omega) (Evt.pos (by omega) ?_)
      rw [wrap64_id (n := a + 1) (by omega) (by omega), wrap64_id (n := ((pre.length : Nat) : Int) + 1) (by omega) (by omega), Int.toNat_natCast]
      have := ih (pre ++ [a]) l (a + 1) (by simpa using hn) (by simp; omega) (by omega) (by omega)
      have e : (pre ++ x :: l).set pre.length a = pre ++ [a] ++ l := by simp
      rw [e, show ((pre.length : Nat) : Int) + 1 = (((pre ++ [a]).length : Nat) : Int) by simp]
      have e2 : a + 1 + (n : Int) = a + ((n + 1 : Nat) : Int) := by omega
      rw [e2] at this
      simpa [up] using this
theorem held_ints : ∀ (n : Nat) (pre : List Int) (a : Int), pre.length + n ≤ 100 → 0 ≤ a → a ≤ 1000 - n → Evt (fun k => laws_heldInt64S.l0 k (pre ++ up n a) a (pre.length : Nat)) (a + n) := by
  intro n
  induction n with
  | zero =>
    intro pre a h1 h2 h3
    refine Evt.succ ?_
    simp only [laws_heldInt64S.l0, up]
    exact Evt.neg (by simp) (Evt.const (by simp))
  | succ n ih =>
    intro pre a h1 h2 h3
    refine Evt.succ ?_
    simp only [laws_heldInt64S.l0, up]
    refine Evt.pos (by simp; omega) (Evt.pos (by omega) (Evt.pos (rd_append _ _ _) ?_))
    rw [wrap64_id (n := a + 1) (by omega) (by omega), wrap64_id (n := ((pre.length : Nat) : Int) + 1) (by omega) (by omega)]
    have := ih (pre ++ [a]) (a + 1) (by simp; omega) (by omega) (by omega)
    rw [show ((pre.length : Nat) : Int) + 1 = (((pre ++ [a]).length : Nat) : Int) by simp]
    have e2 : a + 1 + (n : Int) = a + ((n + 1 : Nat) : Int) := by omega
    rw [e2] at this
    simpa using this
/-- THE STATEMENT. -/
theorem FnExactBestCuts (l : List (List S76)) (a : Int) (hl : l.length ≤ 9223372036854775807) (hs : ∀ s ∈ l, s.length ≤ 9223372036854775807) : ∃ k, laws_FnExactBestCuts.f k l a = some true := by
  obtain ⟨r, hr, hc⟩ := sizes l hl hs
  refine Evt.ex ?_
  unfold laws_FnExactBestCuts.f
  refine Evt.bind hr ?_
  by_cases hneg : r < 0
  · exact Evt.pos hneg (Evt.pure _)
  · refine Evt.neg hneg ?_
    have hsz : l.length + tot l ≤ 1048576 := by rcases hc with h | h; exact absurd h hneg; exact h
    have hm : ∀ s ∈ l, s.length ≤ 1048576 := fun s h => by have := tot_mem l s h; omega
    have hl2 : l.length ≤ 1048576 := by omega
    obtain ⟨c, hcdef⟩ : ∃ c, c = l.map fun r => r.map cv := ⟨_, rfl⟩
    have hcopy := copy_rows l hl2 hm
    rw [← hcdef] at hcopy
    have hcl : c.length + tot c ≤ 1048576 := by rw [hcdef, tot_map, List.length_map]; exact hsz
    have hcm : ∀ s ∈ c, s.length ≤ 1048576 := fun s h => by have := tot_mem c s h; omega
    obtain ⟨out, v, ok, h1, h2, hv, ho⟩ := best_both c (by omega) hcm a
    obtain ⟨w, hw⟩ := wide_num hv
    obtain ⟨m, hm1, hm2⟩ := mark_all c hcl
    have he := eq_ints out (by omega)
    have hmark := mark_ints out.length [] out 1 rfl (by simp; omega) (by omega) (by omega)
    have hheld := held_ints out.length [] 1 (by simp; omega) (by omega) (by omega)
    rw [List.nil_append] at hmark hheld
    refine Evt.bind hcopy (Evt.bind h2 (Evt.bind hcopy (Evt.bind h1 (Evt.bind he (Evt.pos rfl (Evt.cbind hw (Evt.cbind hw (Evt.bind (same_any w) (Evt.pos rfl (Evt.succ ?_))))))))))
    simp only [laws_FnExactBestCuts.j0, bne_self_eq_false]
    refine Evt.neg (by decide) (Evt.bind hcopy (Evt.bind (eq_rows c (by omega) hcm) (Evt.pos rfl (Evt.bind hm1 (Evt.neg (by omega) (Evt.bind he (Evt.pos rfl (Evt.cbind hw (Evt.cbind hw (Evt.bind (same_any w) (Evt.pos rfl (Evt.succ ?_))))))))))))
    simp only [laws_FnExactBestCuts.j1]
    refine Evt.neg (by decide) (Evt.bind (a := (1 + (out.length : Int), up out.length 1)) ?_ (Evt.bind (a := 1 + (out.length : Int)) ?_ (Evt.neg (by omega) (Evt.pos rfl (Evt.bind hcopy (Evt.bind h1 (Evt.bind he (Evt.pos rfl (Evt.cbind hw (Evt.cbind hw (Evt.bind (same_any w) (Evt.pos rfl (Evt.succ ?_)))))))))))))
    · unfold laws_markInt64S.f; exact hmark
    · unfold laws_heldInt64S.f; exact hheld
    · simp only [laws_FnExactBestCuts.j2, bne_self_eq_false]
      refine Evt.neg (by decide) (Evt.bind (a := 1 + (out.length : Int)) ?_ (Evt.neg (by omega) (Evt.pos rfl (Evt.pure _))))
      unfold laws_heldInt64S.f; exact hheld
end Go.Proofs.Ytpngjpiodhpbnaa.Pure
