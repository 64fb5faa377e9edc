/- What the table tells of drawn blocks: the least sums. -/
import Derived.Test.YtpngjpiodhpbnaaFnCutsBlk
namespace Go.Proofs.Ytpngjpiodhpbnaa.PurePFnCuts
open Go.RowKit Go.Proofs.Ytpngjpiodhpbnaa.PFnCuts Go.Proofs.YtpngjpiodhpbnaaW.PrintWords Go.Proofs.YtpngjpiodhpbnaaW.PrintLast Go.Proofs.YtpngjpiodhpbnaaW.Fl
def q60 (row : List S60) (b : Int) : Int := dm (rd_T60 row b).f1
/-- A row of sums in quarters, none of them greater than M. -/
def SumRow (row : List S60) (n : Nat) (M : Int) : Prop := row.length = n ∧ ∀ b : Nat, b < n → (rd_T60 row b).f0 = true ∧ Dy .f32 2 (rd_T60 row b).f1 (q60 row b) ∧ 0 ≤ q60 row b ∧ q60 row b ≤ M
/-- The best of the first i costs at b. -/
def Best (B : List S60) (l : List S34) (b : Int) (i : Nat) (c : S60) : Prop :=
  (c.f0 = false ∧ ∀ j : Nat, j < i → ¬ qb l j ≤ b) ∨
  (c.f0 = true ∧ ∃ j : Nat, j < i ∧ qb l j ≤ b ∧ c.f2 = (j : Int) ∧ Dy .f32 2 c.f1 (q60 B (b - qb l j) + qm l j) ∧ ∀ j' : Nat, j' < i → qb l j' ≤ b → q60 B (b - qb l j) + qm l j ≤ q60 B (b - qb l j') + qm l j')
theorem dpc_best {B : List S60} {n : Nat} {M : Int} (hB : SumRow B n M) (hM : M ≤ 1000) {l : List S34} (hl : GoodL l) {b : Nat} (hb : b < n) :
    ∀ (rest pre : List S34) (c : S60), l = pre ++ rest → Best B l b pre.length c → ∃ c', dpc B b rest pre.length c = some c' ∧ Best B l b l.length c' := by
  intro rest
  induction rest with
  | nil =>
    intro pre c hx hc
    simp only [List.append_nil] at hx
    rw [← hx] at hc
    exact ⟨c, rfl, hc⟩
  | cons x rest ih =>
    intro pre c hx hc
    have hxl : l.length = pre.length + (rest.length + 1) := by rw [hx]; simp
    have hxx : rd_T34 l (pre.length : Int) = x := by rw [rdT34 l pre.length (by omega)]; simp only [hx]; exact app_at _ _ _
    obtain ⟨dx, m0, m1, b0, b1⟩ := hl.at_ pre.length (by omega)
    have eb : qb l pre.length = x.f0 := by unfold qb; rw [hxx]
    have em : qm l pre.length = dm x.f1 := by unfold qm; rw [hxx]
    rw [hxx] at dx
    have go : ∀ c2, Best B l b (pre.length + 1) c2 → ∃ c', dpc B b rest (pre.length + 1 : Nat) c2 = some c' ∧ Best B l b l.length c' := by
      intro c2 h2
      have := ih (pre ++ [x]) c2 (by rw [hx]; simp) (by simpa using h2)
      simpa using this
    simp only [dpc]
    by_cases c1 : x.f0 > (b : Int)
    · rw [if_pos c1]
      refine go c ?_
      rcases hc with ⟨h1, h2⟩ | ⟨h1, j, h2, h3, h4, h5, h6⟩
      · refine .inl ⟨h1, fun j hj => ?_⟩
        by_cases e : j = pre.length
        · subst e; omega
        · exact h2 j (by omega)
      · refine .inr ⟨h1, j, by omega, h3, h4, h5, fun j' hj' hv => ?_⟩
        by_cases e : j' = pre.length
        · subst e; omega
        · exact h6 j' (by omega) hv
    · rw [if_neg c1]
      obtain ⟨d, hd⟩ : ∃ d : Nat, (b : Int) - x.f0 = (d : Int) := ⟨((b : Int) - x.f0).toNat, by omega⟩
      obtain ⟨g1, g2, g3, g4⟩ := hB.2 d (by omega)
      rw [hd, if_pos g1]
      obtain ⟨s, hs, ds⟩ := Dy.add g2 dx (by omega) (by omega)
      rw [hs]
      simp only [Option.bind_some]
      have ds' : Dy .f32 2 s (q60 B ((b : Int) - qb l pre.length) + qm l pre.length) := by rw [eb, hd]; exact ds
      have take : (∀ j' : Nat, j' < pre.length → qb l j' ≤ (b : Int) → q60 B ((b : Int) - qb l pre.length) + qm l pre.length ≤ q60 B ((b : Int) - qb l j') + qm l j') → Best B l b (pre.length + 1) ⟨true, s, (pre.length : Int)⟩ := by
        intro h
        refine .inr ⟨rfl, pre.length, by omega, by omega, rfl, ds', fun j' hj' hv => ?_⟩
        by_cases e : j' = pre.length
        · subst e; omega
        · exact h j' (by omega) hv
      rcases hc with ⟨h1, h2⟩ | ⟨h1, j, h2, h3, h4, h5, h6⟩
      · rw [if_neg (by rw [h1]; decide)]
        exact go _ (take fun j' hj' hv => absurd hv (h2 j' hj'))
      · rw [if_pos h1, ds'.flt h5]
        by_cases c2 : q60 B ((b : Int) - qb l pre.length) + qm l pre.length < q60 B ((b : Int) - qb l j) + qm l j
        · rw [if_pos (by simp [c2])]
          exact go _ (take fun j' hj' hv => by have := h6 j' hj' hv; omega)
        · rw [if_neg (by simp [c2])]
          refine go c (.inr ⟨h1, j, by omega, h3, h4, h5, fun j' hj' hv => ?_⟩)
          by_cases e : j' = pre.length
          · subst e; omega
          · exact h6 j' (by omega) hv
/-- What a row is, told by the row before it. -/
structure RowOf (B : List S60) (l : List S34) (n : Nat) (row : List S60) : Prop where
  is : IsRow B l n row
  at_ : ∀ b : Nat, b < n → ∃ j : Nat, j < l.length ∧ qb l j ≤ b ∧ (rd_T60 row b).f2 = (j : Int) ∧ q60 row b = q60 B (b - qb l j) + qm l j
  le : ∀ b : Nat, b < n → ∀ j : Nat, j < l.length → qb l j ≤ b → q60 row b ≤ q60 B (b - qb l j) + qm l j
theorem row_of {B : List S60} {n : Nat} {M : Int} (hB : SumRow B n M) (hM : M ≤ 1000) {l : List S34} (hl : GoodL l) : ∃ row, RowOf B l n row ∧ SumRow row n (M + 128) := by
  have key : ∀ b : Nat, b < n → ∃ c', dpc B b l 0 z60 = some c' ∧ Best B l b l.length c' := by
    intro b hb
    exact dpc_best hB hM hl hb l [] z60 rfl (.inl ⟨rfl, fun j hj => by simp at hj⟩)
  obtain ⟨row, hrow⟩ : ∃ row, row = (List.range n).map fun b => (dpc B (b : Nat) l 0 z60).getD z60 := ⟨_, rfl⟩
  have hlen : row.length = n := by rw [hrow]; simp
  have hget : ∀ b : Nat, b < n → dpc B b l 0 z60 = some (rd_T60 row b) := by
    intro b hb
    obtain ⟨c', h1, _⟩ := key b hb
    rw [rdT60 row b (by omega)]
    simp [hrow, h1]
  have hbest : ∀ b : Nat, b < n → ∃ j : Nat, j < l.length ∧ qb l j ≤ (b : Int) ∧ (rd_T60 row b).f0 = true ∧ (rd_T60 row b).f2 = (j : Int) ∧ Dy .f32 2 (rd_T60 row b).f1 (q60 B ((b : Int) - qb l j) + qm l j) ∧ ∀ j' : Nat, j' < l.length → qb l j' ≤ (b : Int) → q60 B ((b : Int) - qb l j) + qm l j ≤ q60 B ((b : Int) - qb l j') + qm l j' := by
    intro b hb
    obtain ⟨c', h1, h2⟩ := key b hb
    rw [hget b hb] at h1
    injection h1 with h1
    rw [← h1] at h2
    rcases h2 with ⟨_, h⟩ | ⟨h3, j, h4, h5, h6, h7, h8⟩
    · have := hl.first; have := hl.len; exact absurd (show qb l 0 ≤ (b : Int) by omega) (h 0 (by omega))
    · exact ⟨j, h4, h5, h3, h6, h7, h8⟩
  refine ⟨row, ⟨⟨hlen, hget⟩, ?_, ?_⟩, hlen, ?_⟩
  · intro b hb
    obtain ⟨j, h1, h2, h3, h4, h5, h6⟩ := hbest b hb
    exact ⟨j, h1, h2, h4, dm_of h5⟩
  · intro b hb j' h1' h2'
    obtain ⟨j, h1, h2, h3, h4, h5, h6⟩ := hbest b hb
    have : q60 row b = _ := dm_of h5
    rw [this]; exact h6 j' h1' h2'
  · intro b hb
    obtain ⟨j, h1, h2, h3, h4, h5, h6⟩ := hbest b hb
    have e : q60 row b = _ := dm_of h5
    obtain ⟨_, m0, m1, b0, b1⟩ := hl.at_ j h1
    obtain ⟨d, hd⟩ : ∃ d : Nat, (b : Int) - qb l j = (d : Int) := ⟨((b : Int) - qb l j).toNat, by omega⟩
    obtain ⟨g1, g2, g3, g4⟩ := hB.2 d (by omega)
    rw [hd] at e h5
    exact ⟨h3, by rw [e]; exact h5, by omega, by omega⟩
/-- All rows, the first one ahead. -/
structure Table (bs : List (List S34)) (n : Nat) (B : List S60) (t : List (List S60)) : Prop where
  tab : IsTab n B bs t
  len : t.length = bs.length
  row : ∀ k : Nat, k < bs.length → RowOf (rd_L7 (B :: t) (k : Int)) (rd_L4 bs (k : Int)) n (rd_L7 (B :: t) ((k + 1 : Nat) : Int))
  sum : ∀ k : Nat, k ≤ bs.length → SumRow (rd_L7 (B :: t) (k : Int)) n 1000
  last : lastR B t = rd_L7 (B :: t) (bs.length : Int)
theorem rdL6_succ (r : List S60) (t : List (List S60)) (k : Nat) : rd_L7 (r :: t) ((k + 1 : Nat) : Int) = rd_L7 t (k : Int) := by
  unfold rd_L7; rw [Int.toNat_natCast, Int.toNat_natCast]; rfl
theorem rdL3_succ (l : List S34) (ls : List (List S34)) (k : Nat) : rd_L4 (l :: ls) ((k + 1 : Nat) : Int) = rd_L4 ls (k : Int) := by
  unfold rd_L4; rw [Int.toNat_natCast, Int.toNat_natCast]; rfl
theorem table_of {n : Nat} : ∀ (bs : List (List S34)) (B : List S60) (M : Int), (∀ l ∈ bs, GoodL l) → SumRow B n M → 0 ≤ M → M + 128 * bs.length ≤ 1000 → ∃ t, Table bs n B t := by
  intro bs
  induction bs with
  | nil =>
    intro B M hg hB h0 hM
    refine ⟨[], rfl, rfl, fun k hk => by simp at hk, fun k hk => ?_, rfl⟩
    have : k = 0 := by simpa using hk
    subst this
    exact ⟨hB.1, fun b hb => by have := hB.2 b hb; simp at hM; exact ⟨this.1, this.2.1, this.2.2.1, by have := this.2.2.2; exact Int.le_trans this hM⟩⟩
  | cons l ls ih =>
    intro B M hg hB h0 hM
    simp only [List.length_cons] at hM
    obtain ⟨row, hr, hs⟩ := row_of hB (by omega) (hg l (by simp))
    obtain ⟨t, ht⟩ := ih row (M + 128) (fun x hx => hg x (by simp [hx])) hs (by omega) (by omega)
    refine ⟨row :: t, ⟨row, t, rfl, hr.is, ht.tab⟩, by simp [ht.len], ?_, ?_, ?_⟩
    · intro k hk
      cases k with
      | zero => exact hr
      | succ k =>
        rw [rdL6_succ, rdL6_succ, rdL3_succ]
        exact ht.row k (by simpa using hk)
    · intro k hk
      cases k with
      | zero =>
        rw [show rd_L7 (B :: row :: t) ((0 : Nat) : Int) = B from rfl]
        exact ⟨hB.1, fun b hb => by have := hB.2 b hb; exact ⟨this.1, this.2.1, this.2.2.1, by omega⟩⟩
      | succ k =>
        rw [rdL6_succ]
        exact ht.sum k (by simpa using hk)
    · rw [List.length_cons, rdL6_succ]; exact ht.last
/-! ### Sums of choices -/
def sumB (bs : List (List S34)) (sel : Nat → Nat) : Nat → Int
  | 0 => 0
  | k + 1 => sumB bs sel k + qb (rd_L4 bs (k : Int)) (sel k)
def sumM (bs : List (List S34)) (sel : Nat → Nat) : Nat → Int
  | 0 => 0
  | k + 1 => sumM bs sel k + qm (rd_L4 bs (k : Int)) (sel k)
theorem sumB_congr {bs : List (List S34)} {s s' : Nat → Nat} : ∀ k : Nat, (∀ i, i < k → s i = s' i) → sumB bs s k = sumB bs s' k
  | 0, _ => rfl
  | k + 1, h => by unfold sumB; rw [sumB_congr k (fun i hi => h i (by omega)), h k (by omega)]
theorem sumM_congr {bs : List (List S34)} {s s' : Nat → Nat} : ∀ k : Nat, (∀ i, i < k → s i = s' i) → sumM bs s k = sumM bs s' k
  | 0, _ => rfl
  | k + 1, h => by unfold sumM; rw [sumM_congr k (fun i hi => h i (by omega)), h k (by omega)]
def Valid (bs : List (List S34)) (sel : Nat → Nat) (k : Nat) : Prop := ∀ i, i < k → sel i < (rd_L4 bs (i : Int)).length
theorem sumB_nonneg {bs : List (List S34)} (hg : GoodB bs) {sel : Nat → Nat} : ∀ k : Nat, k ≤ bs.length → Valid bs sel k → 0 ≤ sumB bs sel k ∧ sumB bs sel k ≤ 24 * k ∧ 0 ≤ sumM bs sel k ∧ sumM bs sel k ≤ 128 * k
  | 0, _, _ => by simp [sumB, sumM]
  | k + 1, hk, hv => by
    have h1 := sumB_nonneg hg k (by omega) (fun i hi => hv i (by omega))
    have h2 := (hg.2 _ (rdL3_mem bs k (by omega))).at_ (sel k) (hv k (by omega))
    simp only [sumB, sumM]
    omega
section
variable {bs : List (List S34)} {n : Nat} {B : List S60} {t : List (List S60)} (hg : GoodB bs) (hT : Table bs n B t) (h0 : ∀ b : Nat, b < n → q60 B b = 0)
include hg hT h0
theorem lower : ∀ (k : Nat), k ≤ bs.length → ∀ (sel : Nat → Nat) (b : Nat), Valid bs sel k → b < n → sumB bs sel k ≤ b → q60 (rd_L7 (B :: t) (k : Int)) b ≤ sumM bs sel k := by
  intro k
  induction k with
  | zero =>
    intro hk sel b hv hb hs
    have : rd_L7 (B :: t) ((0 : Nat) : Int) = B := rfl
    rw [this, h0 b hb]; simp [sumM]
  | succ k ih =>
    intro hk sel b hv hb hs
    simp only [sumB] at hs
    simp only [sumM]
    have h2 := (hg.2 _ (rdL3_mem bs k (by omega))).at_ (sel k) (hv k (by omega))
    have hn := sumB_nonneg hg k (by omega) (fun i hi => hv i (by omega))
    obtain ⟨d, hd⟩ : ∃ d : Nat, (b : Int) - qb (rd_L4 bs (k : Int)) (sel k) = (d : Int) := ⟨((b : Int) - qb (rd_L4 bs (k : Int)) (sel k)).toNat, by omega⟩
    have := (hT.row k (by omega)).le b hb (sel k) (hv k (by omega)) (by omega)
    rw [hd] at this
    have := ih (by omega) sel d (fun i hi => hv i (by omega)) (by omega) (by omega)
    omega
theorem trace : ∀ (k : Nat), k ≤ bs.length → ∀ (b : Nat), b < n → ∃ sel : Nat → Nat, Valid bs sel k ∧ sumB bs sel k ≤ b ∧ sumM bs sel k = q60 (rd_L7 (B :: t) (k : Int)) b ∧ goodBack bs t n k b ∧
    ∀ out : List Int, out.length = bs.length → (back bs t k b out).length = bs.length ∧ ∀ i : Nat, i < bs.length → rd (back bs t k b out) (i : Int) = if i < k then (sel i : Int) else rd out i := by
  intro k
  induction k with
  | zero =>
    intro hk b hb
    refine ⟨fun _ => 0, fun i hi => by omega, by simp [sumB], ?_, trivial, fun out ho => ⟨ho, fun i hi => by simp [back]⟩⟩
    have : rd_L7 (B :: t) ((0 : Nat) : Int) = B := rfl
    rw [this, h0 b hb]; simp [sumM]
  | succ k ih =>
    intro hk b hb
    obtain ⟨j, j1, j2, j3, j4⟩ := (hT.row k (by omega)).at_ b hb
    have h2 := (hg.2 _ (rdL3_mem bs k (by omega))).at_ j j1
    obtain ⟨d, hd⟩ : ∃ d : Nat, (b : Int) - qb (rd_L4 bs (k : Int)) j = (d : Int) := ⟨((b : Int) - qb (rd_L4 bs (k : Int)) j).toNat, by omega⟩
    obtain ⟨sel, v1, v2, v3, v4, v5⟩ := ih (by omega) d (by omega)
    rw [rdL6_succ] at j3 j4
    rw [hd] at j4
    have hf : (rd_T34 (rd_L4 bs (k : Int)) ((rd_T60 (rd_L7 t (k : Int)) (b : Int)).f2)).f0 = qb (rd_L4 bs (k : Int)) j := by rw [j3]; rfl
    have e0 : ∀ i, i < k → (fun i => if i = k then j else sel i) i = sel i := fun i hi => by simp; omega
    refine ⟨fun i => if i = k then j else sel i, ?_, ?_, ?_, ?_, ?_⟩
    · intro i hi
      by_cases e : i = k
      · subst e; simpa using j1
      · simp only [e, if_false]; exact v1 i (by omega)
    · simp only [sumB, if_true]
      rw [sumB_congr k e0]; omega
    · simp only [sumM, if_true]
      rw [sumM_congr k e0, rdL6_succ, j4]; omega
    · refine ⟨by omega, by omega, ?_, ?_, ?_⟩
      · rw [j3]; omega
      · rw [hf]; omega
      · rw [hf, hd]; exact v4
    · intro out ho
      simp only [back]
      rw [hf, hd, j3]
      obtain ⟨w1, w2⟩ := v5 (out.set k (j : Int)) (by simp [ho])
      refine ⟨w1, fun i hi => ?_⟩
      rw [w2 i hi]
      by_cases e : i < k
      · rw [if_pos e, if_pos (by omega)]
        have : i ≠ k := by omega
        simp [this]
      · rw [if_neg e]
        by_cases e2 : i = k
        · subst e2
          rw [if_pos (by omega)]
          simp [rd, ho, hi]
        · rw [if_neg (by omega)]
          simp [rd, show k ≠ i by omega]
end
end Go.Proofs.Ytpngjpiodhpbnaa.PurePFnCuts
