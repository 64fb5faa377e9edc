/- The best cuts: the program's table and the reference's are one. -/
import Derived.Test.YtpngjpiodhpbnaaPFnCutsx4
import Derived.Test.YtpngjpiodhpbnaaPFnCutsx6
import Derived.Test.YtpngjpiodhpbnaaEv
namespace Go.Proofs.Ytpngjpiodhpbnaa.PurePFnCuts
open Go.RowKit Go.Proofs.Ytpngjpiodhpbnaa.PFnCuts Go.Proofs.YtpngjpiodhpbnaaW.PrintWords Go.Proofs.YtpngjpiodhpbnaaW.PrintLast Go.Proofs.YtpngjpiodhpbnaaW.Fl
/-- One place of a row: over the costs of a block. -/
def dpc (before : List S60) (b : Int) : List S34 → Int → S60 → Option S60
  | [], _, c => some c
  | x :: r, i, c =>
    if x.f0 > b then dpc before b r (i + 1) c
    else if (rd_T60 before (b - x.f0)).f0 = true then
      (floatBits .add .f32 (rd_T60 before (b - x.f0)).f1 x.f1).bind fun s =>
        if c.f0 = true then (if flt .f32 s c.f1 = true then dpc before b r (i + 1) ⟨true, s, i⟩ else dpc before b r (i + 1) c)
        else dpc before b r (i + 1) ⟨true, s, i⟩
    else dpc before b r (i + 1) c
def IsRow (before : List S60) (l : List S34) (n : Nat) (row : List S60) : Prop := row.length = n ∧ ∀ b : Nat, b < n → dpc before b l 0 z60 = some (rd_T60 row b)
def IsTab (n : Nat) : List S60 → List (List S34) → List (List S60) → Prop
  | _, [], t => t = []
  | before, l :: ls, t => ∃ row t', t = row :: t' ∧ IsRow before l n row ∧ IsTab n row ls t'
/-- The row that stands last. -/
def lastR (before : List S60) : List (List S60) → List S60
  | [] => before
  | r :: t => lastR r t
/-- The way back: from the last block to the first; the indices, the first one first. -/
def back (blocks : List (List S34)) (t : List (List S60)) : Nat → Int → List Int → List Int
  | 0, _, out => out
  | k + 1, left, out =>
    let i := (rd_T60 (rd_L7 t k) left).f2
    back blocks t k (left - (rd_T34 (rd_L4 blocks k) i).f0) (out.set k i)
/-- What the way back may ask: every index lies in its block. -/
def goodBack (blocks : List (List S34)) (t : List (List S60)) (n : Nat) : Nat → Int → Prop
  | 0, _ => True
  | k + 1, left => 0 ≤ left ∧ left < n ∧ (0 ≤ (rd_T60 (rd_L7 t k) left).f2 ∧ (rd_T60 (rd_L7 t k) left).f2 < (rd_L4 blocks k).length) ∧ (0 ≤ (rd_T34 (rd_L4 blocks k) (rd_T60 (rd_L7 t k) left).f2).f0 ∧ (rd_T34 (rd_L4 blocks k) (rd_T60 (rd_L7 t k) left).f2).f0 ≤ 512) ∧ goodBack blocks t n k (left - (rd_T34 (rd_L4 blocks k) (rd_T60 (rd_L7 t k) left).f2).f0)
def okCosts (l : List S34) : Prop := l.length ≤ 16 ∧ ∀ x ∈ l, 0 ≤ x.f0 ∧ x.f0 ≤ 512
def okBlocks (bs : List (List S34)) : Prop := bs.length ≤ 8 ∧ ∀ l ∈ bs, okCosts l
theorem rdT34 (l : List S34) (i : Nat) (h : i < l.length) : rd_T34 l (i : Int) = l[i] := by simp [rd_T34, List.getElem?_eq_getElem h]
theorem rdL3 (l : List (List S34)) (i : Nat) (h : i < l.length) : rd_L4 l (i : Int) = l[i] := by simp [rd_L4, List.getElem?_eq_getElem h]
theorem rdT60 (l : List S60) (i : Nat) (h : i < l.length) : rd_T60 l (i : Int) = l[i] := by simp [rd_T60, List.getElem?_eq_getElem h]
theorem rdT60_set (l : List S60) (i j : Nat) (x : S60) (h : i < l.length) : rd_T60 (l.set i x) (j : Int) = if i = j then x else rd_T60 l j := by
  unfold rd_T60
  rw [List.getD_eq_getElem?_getD, List.getD_eq_getElem?_getD, Int.toNat_natCast, List.getElem?_set]
  by_cases e : i = j
  · subst e; simp [h]
  · simp [e]
theorem app_at {α : Type} (pre : List α) (x : α) (r : List α) : (pre ++ x :: r)[pre.length]'(by simp) = x := by simp
/-! ### The program -/
section
variable {r : List Int × Nat × Bool} {x0 : List (List S34)} {x1 : Int} {x9 : List (List S60)} {x43 : List (List S34)} {x44 x45 : Int}
theorem impl_cells (x7 : List S60) (n : Nat) (hn : n ≤ 513) (h7 : x7.length = n) (b : Nat) (hb : b < n) (x11 : List S34) (ho : okCosts x11) (x53 : Int) :
    ∀ (rest pre : List S34) (x12 : List S60) (c' : S60), x11 = pre ++ rest → x12.length = n → dpc x7 b rest pre.length (rd_T60 x12 b) = some c' →
      Evt (fun k => impl_BestCuts.l2 k x0 x1 x7 x9 x11 (x12.set b c') x43 x44 x45 x53 (b + 1 : Nat)) r →
      Evt (fun k => impl_BestCuts.l3 k x0 x1 x7 x9 x11 x12 b x43 x44 x45 x53 b x11 x11.length (pre.length : Nat)) r := by
  intro rest
  induction rest with
  | nil =>
    intro pre x12 c' hx h12 hd hc
    simp only [List.append_nil] at hx
    refine Evt.succ ?_
    simp only [impl_BestCuts.l3]
    refine Evt.neg (by rw [hx]; omega) ?_
    simp only [dpc, Option.some.injEq] at hd
    rw [wrap64_id (by omega) (by omega), show (b : Int) + 1 = ((b + 1 : Nat) : Int) by omega]
    rwa [← hd, rdT60 x12 b (by omega), List.set_getElem_self] at hc
  | cons x rest ih =>
    intro pre x12 c' hx h12 hd hc
    have hxl : x11.length = pre.length + (rest.length + 1) := by rw [hx]; simp
    have hl := ho.1
    have hxx : rd_T34 x11 (pre.length : Int) = x := by rw [rdT34 x11 pre.length (by omega)]; simp only [hx]; exact app_at _ _ _
    have hxb := ho.2 x (by rw [hx]; simp)
    have next : ∀ (x12' : List S60), x12'.length = n → x12'.set b c' = x12.set b c' → dpc x7 b rest ((pre.length : Nat) + 1) (rd_T60 x12' b) = some c' → Evt (fun k => impl_BestCuts.l3 k x0 x1 x7 x9 x11 x12' b x43 x44 x45 x53 b x11 x11.length (wrap64 ((pre.length : Nat) + 1))) r := by
      intro x12' h1 h2 h3
      rw [wrap64_id (by omega) (by omega)]
      have := ih (pre ++ [x]) x12' c' (by rw [hx]; simp) h1 (by simpa using h3) (by rw [h2]; exact hc)
      simpa using this
    refine Evt.succ ?_
    simp only [impl_BestCuts.l3]
    refine Evt.pos (by omega) (Evt.pos (by omega) (Evt.pos (by omega) ?_))
    rw [hxx]
    simp only [dpc] at hd
    by_cases c1 : x.f0 > (b : Int)
    · rw [if_pos c1] at hd
      refine Evt.pos c1 (Evt.succ ?_)
      simp only [impl_BestCuts.j5]
      exact Evt.pos trivial (next x12 h12 rfl hd)
    · rw [if_neg c1] at hd
      have e1 : wrap64 ((b : Int) - x.f0) = (b : Int) - x.f0 := wrap64_id (by omega) (by omega)
      refine Evt.neg c1 ?_
      rw [e1]
      refine Evt.pos (by omega) (Evt.pos (by omega) (Evt.succ ?_))
      simp only [impl_BestCuts.j5]
      by_cases c2 : (rd_T60 x7 ((b : Int) - x.f0)).f0 = true
      · rw [if_pos c2] at hd
        obtain ⟨s, hs, hd⟩ := Option.bind_eq_some_iff.mp hd
        refine Evt.neg (by rw [c2]; decide) ?_
        rw [e1]
        refine Evt.pos (by omega) (Evt.pos (by omega) (Evt.cbind hs (Evt.pos (by omega) (Evt.pos (by omega) ?_))))
        have put : dpc x7 b rest ((pre.length : Nat) + 1) ⟨true, s, (pre.length : Int)⟩ = some c' → Evt (fun k => impl_BestCuts.l3 k x0 x1 x7 x9 x11 (x12.set ((b : Int)).toNat ⟨true, s, (pre.length : Int)⟩) b x43 x44 x45 x53 b x11 x11.length (wrap64 ((pre.length : Nat) + 1))) r := by
          intro h3
          rw [Int.toNat_natCast]
          refine next _ (by simp [h12]) (by simp) ?_
          rw [rdT60_set x12 b b _ (by omega), if_pos rfl]; exact h3
        by_cases c3 : (rd_T60 x12 (b : Int)).f0 = true
        · rw [if_pos c3] at hd
          refine Evt.pos c3 ?_
          by_cases c4 : flt .f32 s (rd_T60 x12 (b : Int)).f1 = true
          · rw [if_pos c4] at hd
            exact Evt.pos c4 (put hd)
          · rw [if_neg c4] at hd
            exact Evt.neg c4 (next x12 h12 rfl hd)
        · rw [if_neg c3] at hd
          exact Evt.neg c3 (put hd)
      · rw [if_neg c2] at hd
        exact Evt.pos (by simpa using c2) (next x12 h12 rfl hd)
theorem impl_row (x7 : List S60) (n : Nat) (hn : n ≤ 513) (h7 : x7.length = n) (x11 : List S34) (ho : okCosts x11) (row : List S60) (hr : IsRow x7 x11 n row) (h45 : 0 ≤ x45 ∧ x45 < 8) (h9 : x9.length ≤ 8)
    (hc : Evt (fun k => impl_BestCuts.l1 k x0 x1 row (x9 ++ [row]) x43 x44 (x45 + 1)) r) :
    Evt (fun k => impl_BestCuts.l2 k x0 x1 x7 x9 x11 (List.replicate n z60) x43 x44 x45 n 0) r := by
  have loop : ∀ (m b : Nat), b + m = n → Evt (fun k => impl_BestCuts.l2 k x0 x1 x7 x9 x11 (row.take b ++ List.replicate m z60) x43 x44 x45 n b) r := by
    intro m
    induction m with
    | zero =>
      intro b hb
      have e : b = n := by omega
      subst e
      refine Evt.succ ?_
      simp only [impl_BestCuts.l2]
      refine Evt.neg (by omega) (Evt.pos (by omega) ?_)
      rw [List.take_of_length_le (by rw [hr.1]; exact Nat.le_refl _), List.replicate_zero, List.append_nil, wrap64_id (by omega) (by omega)]
      exact hc
    | succ m ih =>
      intro b hb
      have hlen : (row.take b ++ List.replicate (m + 1) z60).length = n := by simp [hr.1]; omega
      have hz : rd_T60 (row.take b ++ List.replicate (m + 1) z60) (b : Int) = z60 := by
        rw [rdT60 _ _ (by omega), List.getElem_append_right (by simp [hr.1]; omega)]; simp
      refine Evt.succ ?_
      simp only [impl_BestCuts.l2]
      refine Evt.pos (by omega) ?_
      refine impl_cells x7 n hn h7 b (by omega) x11 ho n x11 [] _ (rd_T60 row b) rfl hlen (by rw [hz]; exact hr.2 b (by omega)) ?_
      have e : (row.take b ++ List.replicate (m + 1) z60).set b (rd_T60 row b) = row.take (b + 1) ++ List.replicate m z60 := by
        have hbl : b < row.length := by rw [hr.1]; omega
        rw [List.set_append, if_neg (by simp [hr.1]; omega), List.length_take, Nat.min_eq_left (by omega), Nat.sub_self, List.replicate_succ, List.set_cons_zero, List.take_succ_eq_append_getElem hbl, rdT60 row b hbl]
        rw [List.append_assoc]; rfl
      rw [e]
      exact ih (b + 1) (by omega)
  have := loop n 0 (by omega)
  simpa using this
theorem impl_rows (a : Nat) (ha : a ≤ 512) (bs : List (List S34)) (hbs : okBlocks bs) :
    ∀ (rest pre : List (List S34)) (x7 : List S60) (x9 t : List (List S60)), bs = pre ++ rest → x7.length = a + 1 → x9.length = pre.length → IsTab (a + 1) x7 rest t →
      Evt (fun k => impl_BestCuts.l1 k bs a (lastR x7 t) (x9 ++ t) bs bs.length (bs.length : Nat)) r →
      Evt (fun k => impl_BestCuts.l1 k bs a x7 x9 bs bs.length (pre.length : Nat)) r := by
  intro rest
  induction rest with
  | nil =>
    intro pre x7 x9 t hp h7 h9 ht hc
    simp only [IsTab] at ht
    subst ht
    simp only [List.append_nil] at hp hc
    rw [← hp]; exact hc
  | cons l rest ih =>
    intro pre x7 x9 t hp h7 h9 ht hc
    obtain ⟨row, t', rfl, hr, ht⟩ := ht
    have hbl : bs.length = pre.length + (rest.length + 1) := by rw [hp]; simp
    have h8 := hbs.1
    have hl : rd_L4 bs (pre.length : Int) = l := by rw [rdL3 bs pre.length (by omega)]; simp only [hp]; exact app_at _ _ _
    refine Evt.succ ?_
    simp only [impl_BestCuts.l1]
    have ew : wrap64 ((a : Int) + 1) = ((a + 1 : Nat) : Int) := by rw [wrap64_id (by omega) (by omega)]; omega
    rw [ew]
    refine Evt.pos (by omega) (Evt.pos (by omega) (Evt.pos (by omega) (Evt.pos (by omega) (Evt.pos (by omega) (Evt.cbind rfl ?_)))))
    rw [hl, Int.toNat_natCast, List.length_replicate]
    refine impl_row x7 (a + 1) (by omega) h7 l (hbs.2 l (by rw [hp]; simp)) row hr ⟨by omega, by omega⟩ (by omega) ?_
    have := ih (pre ++ [l]) row (x9 ++ [row]) t' (by rw [hp]; simp) hr.1 (by simp [h9]) ht (by simpa [lastR] using hc)
    simpa using this
theorem impl_start (a : Nat) (ha : a ≤ 512) (bs : List (List S34)) (hc : Evt (fun k => impl_BestCuts.l1 k bs a (List.replicate (a + 1) ⟨true, 0, 0⟩) [] bs bs.length 0) r) :
    Evt (fun k => impl_BestCuts.l0 k bs a (List.replicate (a + 1) z60) (a + 1 : Nat) 0) r := by
  have loop : ∀ (m b : Nat), b + m = a + 1 → Evt (fun k => impl_BestCuts.l0 k bs a (List.replicate b ⟨true, 0, 0⟩ ++ List.replicate m z60) (a + 1 : Nat) b) r := by
    intro m
    induction m with
    | zero =>
      intro b hb
      have e : b = a + 1 := by omega
      subst e
      refine Evt.succ ?_
      simp only [impl_BestCuts.l0]
      refine Evt.neg (by omega) ?_
      rw [List.replicate_zero, List.append_nil]; exact hc
    | succ m ih =>
      intro b hb
      refine Evt.succ ?_
      simp only [impl_BestCuts.l0]
      refine Evt.pos (by omega) (Evt.pos (by omega) (Evt.pos (by simp; omega) ?_))
      rw [wrap64_id (by omega) (by omega), show (b : Int) + 1 = ((b + 1 : Nat) : Int) by omega]
      have hz : rd_T60 (List.replicate b (⟨true, 0, 0⟩ : S60) ++ List.replicate (m + 1) z60) (b : Int) = z60 := by
        rw [rdT60 _ _ (by simp), List.getElem_append_right (by simp)]; simp
      have e : (List.replicate b (⟨true, 0, 0⟩ : S60) ++ List.replicate (m + 1) z60).set ((b : Int)).toNat ⟨true, z60.f1, z60.f2⟩ = List.replicate (b + 1) (⟨true, 0, 0⟩ : S60) ++ List.replicate m z60 := by
        rw [Int.toNat_natCast, List.set_append, if_neg (by simp), List.length_replicate, Nat.sub_self, List.replicate_succ, List.set_cons_zero, List.replicate_succ', List.append_assoc]
        rfl
      rw [hz, e]
      exact ih (b + 1) (by omega)
  have := loop (a + 1) 0 (by omega)
  simpa using this
theorem impl_back (a : Nat) (ha : a ≤ 512) (bs : List (List S34)) (hb8 : bs.length ≤ 8) (t : List (List S60)) (htl : t.length = bs.length) (hrl : ∀ k : Nat, k < t.length → (rd_L7 t (k : Int)).length = a + 1) (x7 : List S60) (h7 : x7.length = a + 1) :
    ∀ (m : Nat) (left : Int) (out : List Int), m ≤ bs.length → out.length = bs.length → goodBack bs t (a + 1) m left →
      Evt (fun k => impl_BestCuts.l4 k bs a x7 t out left ((m : Int) - 1)) (back bs t m left out, (rd_T60 x7 (a : Int)).f1, true) := by
  intro m
  induction m with
  | zero =>
    intro left out hm hout hg
    refine Evt.succ ?_
    simp only [impl_BestCuts.l4, back]
    exact Evt.neg (by omega) (Evt.pos (by omega) (Evt.pos (by omega) (Evt.pure _)))
  | succ m ih =>
    intro left out hm hout hg
    obtain ⟨g1, g2, ⟨g3, g4⟩, ⟨g5, g6⟩, g7⟩ := hg
    have hrow := hrl m (by omega)
    refine Evt.succ ?_
    simp only [impl_BestCuts.l4, back]
    rw [show (((m + 1 : Nat) : Int) - 1) = (m : Int) by omega]
    refine Evt.pos (by omega) (Evt.pos (by omega) (Evt.pos (by omega) (Evt.pos g1 (Evt.pos (by omega) (Evt.pos (by omega) (Evt.pos (by omega) (Evt.pos g3 (Evt.pos g4 ?_))))))))
    rw [wrap64_id (n := (m : Int) - 1) (by omega) (by omega), wrap64_id (n := left - _) (by omega) (by omega), Int.toNat_natCast]
    exact ih _ _ (by omega) (by simp [hout]) g7
end
/-! ### The reference -/
theorem rdOf_f1 (l : List S60) (i : Int) : rdOf (0 : Nat) (l.map S60.f1) i = (rd_T60 l i).f1 := by
  unfold rdOf rd_T60; rw [List.getD_eq_getElem?_getD, List.getD_eq_getElem?_getD, List.getElem?_map]; cases l[i.toNat]? <;> rfl
theorem rdOf_f0 (l : List S60) (i : Int) : rdOf false (l.map S60.f0) i = (rd_T60 l i).f0 := by
  unfold rdOf rd_T60; rw [List.getD_eq_getElem?_getD, List.getD_eq_getElem?_getD, List.getElem?_map]; cases l[i.toNat]? <;> rfl
theorem rd_f2 (l : List S60) (i : Int) : rd (l.map S60.f2) i = (rd_T60 l i).f2 := by
  unfold rd rd_T60; rw [List.getD_eq_getElem?_getD, List.getD_eq_getElem?_getD, List.getElem?_map]; cases l[i.toNat]? <;> rfl
theorem rdL7_map (t : List (List S60)) (i : Int) : rd_L8 (t.map fun r => r.map S60.f2) i = (rd_L7 t i).map S60.f2 := by
  unfold rd_L8 rd_L7; rw [List.getD_eq_getElem?_getD, List.getD_eq_getElem?_getD, List.getElem?_map]; cases t[i.toNat]? <;> rfl
section
variable {r : List Int × Nat × Bool} {x0 : List (List S34)} {x10 : List (List Int)} {x47 x48 : Int}
theorem spec_cells (a : Nat) (ha : a ≤ 512) (B : List S60) (hB : B.length = a + 1) (b : Nat) (hb : b < a + 1) (x11 : Nat) (h11 : x11 < x0.length) (h11b : x11 < 8) (l : List S34) (hl : rd_L4 x0 (x11 : Int) = l) (ho : okCosts l) :
    ∀ (rest pre : List S34) (R : List S60) (c' : S60), l = pre ++ rest → R.length = a + 1 → dpc B b rest pre.length (rd_T60 R b) = some c' →
      Evt (fun k => spec_BestCuts.l2 k x0 a (B.map S60.f1) (B.map S60.f0) x10 x11 ((R.set b c').map S60.f1) ((R.set b c').map S60.f0) ((R.set b c').map S60.f2) (b + 1 : Nat) x47 x48) r →
      Evt (fun k => spec_BestCuts.l3 k x0 a (B.map S60.f1) (B.map S60.f0) x10 x11 (R.map S60.f1) (R.map S60.f0) (R.map S60.f2) b x47 x48 l.length (pre.length : Nat)) r := by
  intro rest
  induction rest with
  | nil =>
    intro pre R c' hx h12 hd hc
    simp only [List.append_nil] at hx
    refine Evt.succ ?_
    simp only [spec_BestCuts.l3]
    refine Evt.neg (by rw [hx]; omega) ?_
    simp only [dpc, Option.some.injEq] at hd
    rw [wrap64_id (by omega) (by omega), show (b : Int) + 1 = ((b + 1 : Nat) : Int) by omega]
    rwa [← hd, rdT60 R b (by omega), List.set_getElem_self] at hc
  | cons x rest ih =>
    intro pre R c' hx h12 hd hc
    have hxl : l.length = pre.length + (rest.length + 1) := by rw [hx]; simp
    have hlen := ho.1
    have hxx : rd_T34 l (pre.length : Int) = x := by rw [rdT34 l pre.length (by omega)]; simp only [hx]; exact app_at _ _ _
    have hxb := ho.2 x (by rw [hx]; simp)
    have next : ∀ (R' : List S60), R'.length = a + 1 → R'.set b c' = R.set b c' → dpc B b rest ((pre.length : Nat) + 1) (rd_T60 R' b) = some c' → Evt (fun k => spec_BestCuts.l3 k x0 a (B.map S60.f1) (B.map S60.f0) x10 x11 (R'.map S60.f1) (R'.map S60.f0) (R'.map S60.f2) b x47 x48 l.length (wrap64 ((pre.length : Nat) + 1))) r := by
      intro R' h1 h2 h3
      rw [wrap64_id (by omega) (by omega)]
      have := ih (pre ++ [x]) R' c' (by rw [hx]; simp) h1 (by simpa using h3) (by rw [h2]; exact hc)
      simpa using this
    have e1 : wrap64 ((b : Int) - x.f0) = (b : Int) - x.f0 := wrap64_id (by omega) (by omega)
    refine Evt.succ ?_
    simp only [spec_BestCuts.l3]
    refine Evt.pos (by omega) (Evt.pos (by omega) (Evt.pos (by omega) (Evt.pos (by omega) ?_)))
    rw [hl]
    refine Evt.pos (by omega) ?_
    rw [hxx, e1]
    simp only [dpc] at hd
    by_cases c1 : x.f0 > (b : Int)
    · rw [if_pos c1] at hd
      refine Evt.pos (by omega) (Evt.succ ?_)
      simp only [spec_BestCuts.j5]
      exact Evt.pos trivial (next R h12 rfl hd)
    · rw [if_neg c1] at hd
      refine Evt.neg (by omega) (Evt.pos (by omega) (Evt.pos (by simp; omega) (Evt.succ ?_)))
      simp only [spec_BestCuts.j5]
      rw [rdOf_f0]
      by_cases c2 : (rd_T60 B ((b : Int) - x.f0)).f0 = true
      · rw [if_pos c2] at hd
        obtain ⟨s, hs, hd⟩ := Option.bind_eq_some_iff.mp hd
        refine Evt.neg (by rw [c2]; decide) (Evt.pos (by omega) (Evt.pos (by simp; omega) (Evt.pos (by omega) (Evt.pos (by omega) (Evt.pos (by omega) ?_)))))
        rw [hl, hxx, rdOf_f1, rdOf_f0, rdOf_f1]
        refine Evt.pos (by omega) (Evt.cbind hs (Evt.pos (by omega) (Evt.pos (by simp; omega) ?_)))
        have put : dpc B b rest ((pre.length : Nat) + 1) ⟨true, s, (pre.length : Int)⟩ = some c' → Evt (fun k => spec_BestCuts.j6 k x0 a (B.map S60.f1) (B.map S60.f0) x10 x11 (R.map S60.f1) (R.map S60.f0) (R.map S60.f2) b (pre.length : Nat) s x47 x48 l.length (pre.length : Nat) true) r := by
          intro h3
          refine Evt.succ ?_
          simp only [spec_BestCuts.j6]
          refine Evt.pos trivial (Evt.pos (by omega) (Evt.pos (by simp; omega) (Evt.pos (by simp; omega) (Evt.pos (by simp; omega) ?_))))
          rw [Int.toNat_natCast]
          have := next (R.set b ⟨true, s, (pre.length : Int)⟩) (by simp [h12]) (by simp) (by rw [rdT60_set R b b _ (by omega), if_pos rfl]; exact h3)
          simpa only [List.map_set] using this
        by_cases c3 : (rd_T60 R (b : Int)).f0 = true
        · rw [if_pos c3] at hd
          refine Evt.pos c3 (Evt.pos (by simp; omega) ?_)
          by_cases c4 : flt .f32 s (rd_T60 R (b : Int)).f1 = true
          · rw [if_pos c4] at hd
            rw [c4]
            exact put hd
          · rw [if_neg c4] at hd
            refine Evt.succ ?_
            simp only [spec_BestCuts.j6]
            exact Evt.neg c4 (next R h12 rfl hd)
        · rw [if_neg c3] at hd
          exact Evt.neg c3 (put hd)
      · rw [if_neg c2] at hd
        exact Evt.pos (by simpa using c2) (next R h12 rfl hd)
theorem spec_row (a : Nat) (ha : a ≤ 512) (B : List S60) (hB : B.length = a + 1) (x11 : Nat) (h11 : x11 < x0.length) (h11b : x11 < 8) (l : List S34) (hl : rd_L4 x0 (x11 : Int) = l) (ho : okCosts l) (row : List S60) (hr : IsRow B l (a + 1) row) (h10 : x10.length ≤ 8)
    (hc : Evt (fun k => spec_BestCuts.l1 k x0 a (row.map S60.f1) (row.map S60.f0) (x10 ++ [row.map S60.f2]) x47 (x11 + 1 : Nat)) r) :
    Evt (fun k => spec_BestCuts.l2 k x0 a (B.map S60.f1) (B.map S60.f0) x10 x11 ((List.replicate (a + 1) z60).map S60.f1) ((List.replicate (a + 1) z60).map S60.f0) ((List.replicate (a + 1) z60).map S60.f2) 0 x47 x11) r := by
  have loop : ∀ (m b : Nat), b + m = a + 1 → Evt (fun k => spec_BestCuts.l2 k x0 a (B.map S60.f1) (B.map S60.f0) x10 x11 ((row.take b ++ List.replicate m z60).map S60.f1) ((row.take b ++ List.replicate m z60).map S60.f0) ((row.take b ++ List.replicate m z60).map S60.f2) b x47 x11) r := by
    intro m
    induction m with
    | zero =>
      intro b hb
      have e : b = a + 1 := by omega
      subst e
      refine Evt.succ ?_
      simp only [spec_BestCuts.l2]
      refine Evt.neg (by omega) (Evt.pos (by omega) ?_)
      rw [List.take_of_length_le (by rw [hr.1]; exact Nat.le_refl _), List.replicate_zero, List.append_nil, wrap64_id (by omega) (by omega)]
      exact hc
    | succ m ih =>
      intro b hb
      have hlen : (row.take b ++ List.replicate (m + 1) z60).length = a + 1 := by simp [hr.1]; omega
      have hz : rd_T60 (row.take b ++ List.replicate (m + 1) z60) (b : Int) = z60 := by
        rw [rdT60 _ _ (by omega), List.getElem_append_right (by simp [hr.1]; omega)]; simp
      refine Evt.succ ?_
      simp only [spec_BestCuts.l2]
      refine Evt.pos (by omega) (Evt.pos (by omega) (Evt.pos (by omega) ?_))
      rw [hl]
      refine spec_cells a ha B hB b (by omega) x11 h11 h11b l hl ho l [] _ (rd_T60 row b) rfl hlen (by rw [hz]; exact hr.2 b (by omega)) ?_
      have e : (row.take b ++ List.replicate (m + 1) z60).set b (rd_T60 row b) = row.take (b + 1) ++ List.replicate m z60 := by
        have hbl : b < row.length := by rw [hr.1]; omega
        rw [List.set_append, if_neg (by simp [hr.1]; omega), List.length_take, Nat.min_eq_left (by omega), Nat.sub_self, List.replicate_succ, List.set_cons_zero, List.take_succ_eq_append_getElem hbl, rdT60 row b hbl]
        rw [List.append_assoc]; rfl
      rw [e]
      exact ih (b + 1) (by omega)
  have := loop (a + 1) 0 (by omega)
  simpa using this
theorem spec_rows (a : Nat) (ha : a ≤ 512) (bs : List (List S34)) (hbs : okBlocks bs) :
    ∀ (rest pre : List (List S34)) (B : List S60) (t9 t : List (List S60)), bs = pre ++ rest → B.length = a + 1 → t9.length = pre.length → IsTab (a + 1) B rest t →
      Evt (fun k => spec_BestCuts.l1 k bs a ((lastR B t).map S60.f1) ((lastR B t).map S60.f0) ((t9 ++ t).map fun r => r.map S60.f2) bs.length (bs.length : Nat)) r →
      Evt (fun k => spec_BestCuts.l1 k bs a (B.map S60.f1) (B.map S60.f0) (t9.map fun r => r.map S60.f2) bs.length (pre.length : Nat)) r := by
  intro rest
  induction rest with
  | nil =>
    intro pre B t9 t hp h7 h9 ht hc
    simp only [IsTab] at ht
    subst ht
    simp only [List.append_nil] at hp hc
    rw [← hp]; exact hc
  | cons l rest ih =>
    intro pre B t9 t hp h7 h9 ht hc
    obtain ⟨row, t', rfl, hr, ht⟩ := ht
    have hbl : bs.length = pre.length + (rest.length + 1) := by rw [hp]; simp
    have h8 := hbs.1
    have hl : rd_L4 bs (pre.length : Int) = l := by rw [rdL3 bs pre.length (by omega)]; simp only [hp]; exact app_at _ _ _
    refine Evt.succ ?_
    simp only [spec_BestCuts.l1]
    have ew : wrap64 ((a : Int) + 1) = ((a + 1 : Nat) : Int) := by rw [wrap64_id (by omega) (by omega)]; omega
    rw [ew]
    refine Evt.pos (by omega) (Evt.pos (by omega) (Evt.pos (by omega) (Evt.pos (by omega) (Evt.pos (by omega) ?_))))
    rw [Int.toNat_natCast]
    have key := spec_row (x47 := (bs.length : Int)) (r := r) a ha B h7 pre.length (by omega) (by omega) l hl (hbs.2 l (by rw [hp]; simp)) row hr (x10 := t9.map fun r => r.map S60.f2) (by simp; omega) (by
      have := ih (pre ++ [l]) row (t9 ++ [row]) t' (by rw [hp]; simp) hr.1 (by simp [h9]) ht (by simpa [lastR] using hc)
      simpa using this)
    rw [List.map_replicate, List.map_replicate, List.map_replicate] at key
    exact key
theorem spec_start (a : Nat) (ha : a ≤ 512) (bs : List (List S34)) (hc : Evt (fun k => spec_BestCuts.l1 k bs a (List.replicate (a + 1) 0) (List.replicate (a + 1) true) [] bs.length 0) r) :
    Evt (fun k => spec_BestCuts.l0 k bs a (List.replicate (a + 1) 0) (List.replicate (a + 1) false) (a + 1 : Nat) 0) r := by
  have loop : ∀ (m b : Nat), b + m = a + 1 → Evt (fun k => spec_BestCuts.l0 k bs a (List.replicate (a + 1) 0) (List.replicate b true ++ List.replicate m false) (a + 1 : Nat) b) r := by
    intro m
    induction m with
    | zero =>
      intro b hb
      have e : b = a + 1 := by omega
      subst e
      refine Evt.succ ?_
      simp only [spec_BestCuts.l0]
      refine Evt.neg (by omega) ?_
      rw [List.replicate_zero (a := false), List.append_nil]; exact hc
    | succ m ih =>
      intro b hb
      refine Evt.succ ?_
      simp only [spec_BestCuts.l0]
      refine Evt.pos (by omega) (Evt.pos (by omega) (Evt.pos (by simp; omega) ?_))
      rw [wrap64_id (by omega) (by omega), show (b : Int) + 1 = ((b + 1 : Nat) : Int) by omega]
      have e : (List.replicate b true ++ List.replicate (m + 1) false).set ((b : Int)).toNat true = List.replicate (b + 1) true ++ List.replicate m false := by
        rw [Int.toNat_natCast, List.set_append, if_neg (by simp), List.length_replicate, Nat.sub_self, List.replicate_succ, List.set_cons_zero, List.replicate_succ', List.append_assoc]
        rfl
      rw [e]
      exact ih (b + 1) (by omega)
  have := loop (a + 1) 0 (by omega)
  simpa using this
theorem spec_back (a : Nat) (ha : a ≤ 512) (bs : List (List S34)) (hb8 : bs.length ≤ 8) (t : List (List S60)) (htl : t.length = bs.length) (hrl : ∀ k : Nat, k < t.length → (rd_L7 t (k : Int)).length = a + 1) (B : List S60) (h7 : B.length = a + 1) :
    ∀ (m : Nat) (left : Int) (out : List Int), m ≤ bs.length → out.length = bs.length → goodBack bs t (a + 1) m left →
      Evt (fun k => spec_BestCuts.l4 k bs a (B.map S60.f1) (t.map fun r => r.map S60.f2) out left ((m : Int) - 1)) (back bs t m left out, (rd_T60 B (a : Int)).f1, true) := by
  intro m
  induction m with
  | zero =>
    intro left out hm hout hg
    refine Evt.succ ?_
    simp only [spec_BestCuts.l4, back]
    rw [rdOf_f1]
    exact Evt.neg (by omega) (Evt.pos (by omega) (Evt.pos (by simp; omega) (Evt.pure _)))
  | succ m ih =>
    intro left out hm hout hg
    obtain ⟨g1, g2, ⟨g3, g4⟩, ⟨g5, g6⟩, g7⟩ := hg
    have hrow := hrl m (by omega)
    refine Evt.succ ?_
    simp only [spec_BestCuts.l4, back]
    rw [show (((m + 1 : Nat) : Int) - 1) = (m : Int) by omega, rdL7_map, rd_f2, Int.toNat_natCast]
    have e : rd (out.set m (rd_T60 (rd_L7 t (m : Int)) left).f2) (m : Int) = (rd_T60 (rd_L7 t (m : Int)) left).f2 := by simp [rd, show m < out.length by omega]
    refine Evt.pos (by omega) (Evt.pos (by omega) (Evt.pos (by simp; omega) (Evt.pos g1 (Evt.pos (by simp; omega) (Evt.pos (by omega) (Evt.cbind rfl ?_))))))
    rw [e]
    refine Evt.pos (by omega) (Evt.pos g3 (Evt.pos g4 ?_))
    rw [wrap64_id (n := (m : Int) - 1) (by omega) (by omega), wrap64_id (n := left - _) (by omega) (by omega)]
    exact ih _ _ (by omega) (by simp [hout]) g7
end
end Go.Proofs.Ytpngjpiodhpbnaa.PurePFnCuts
