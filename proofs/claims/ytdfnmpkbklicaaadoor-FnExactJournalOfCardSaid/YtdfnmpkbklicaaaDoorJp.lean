/- The two journals of lines are the same. -/
import Derived.Test.YtdfnmpkbklicaaaDoorPFnExactJournalOfx3
import Derived.Test.YtdfnmpkbklicaaaDoorEv
import Derived.Lib.IndexLaws
namespace Go.Proofs.YtdfnmpkbklicaaaDoor.Pure
open Go Go.RowKit Go.Proofs.YtdfnmpkbklicaaaDoor.PFnExactJournalOf Go.Proofs.YtdfnmpkbklicaaaDoorW.PrintWords Go.Proofs.YtdfnmpkbklicaaaDoorW.PrintLast Go.Proofs.YtdfnmpkbklicaaaDoorW.Fl
def at_ (l : List ByteArray) (i : Nat) : ByteArray := rdOf ByteArray.empty l (i : Int)
theorem at_eq (l : List ByteArray) (i : Nat) : rdOf ByteArray.empty l (i : Int) = at_ l i := rfl
theorem at_get (l : List ByteArray) (i : Nat) (h : i < l.length) : at_ l i = l[i] := by simp [at_, rdOf, List.getElem?_eq_getElem h]
/-! ### Checks -/
def chkF (s : ByteArray) : Nat → Nat → Int → Int
  | 0, _, c => c
  | n + 1, i, c => chkF s n (i + 1) (Int.tmod (853 * c + bt s (i : Int) + 139) 65003)
def chk (c : Int) (s : ByteArray) : Int := chkF s s.size 0 c
theorem tmod_range {x : Int} (h : 0 ≤ x) : 0 ≤ Int.tmod x 65003 ∧ Int.tmod x 65003 ≤ 65002 := by
  rw [Int.tmod_eq_emod_of_nonneg h]; omega
theorem chkF_range (s : ByteArray) : ∀ (n i : Nat) (c : Int), 0 ≤ c → c ≤ 65002 → 0 ≤ chkF s n i c ∧ chkF s n i c ≤ 65002
  | 0, _, c, h1, h2 => ⟨h1, h2⟩
  | n + 1, i, c, h1, h2 => by
    have hb := bt_range s (i : Int)
    have ht := tmod_range (x := 853 * c + bt s (i : Int) + 139) (by omega)
    exact chkF_range s n (i + 1) _ ht.1 ht.2
theorem chk_range (c : Int) (s : ByteArray) (h1 : 0 ≤ c) (h2 : c ≤ 65002) : 0 ≤ chk c s ∧ chk c s ≤ 65002 := chkF_range s _ _ _ h1 h2
theorem step_eq (c b : Int) (h1 : 0 ≤ c) (h2 : c ≤ 65002) (h3 : 0 ≤ b ∧ b ≤ 255) : wrap64 ((wrap64 ((wrap64 (853 * c)) + (wrap64 b))) + 139) = 853 * c + b + 139 := by
  rw [wrap64_id (n := 853 * c) (by omega) (by omega), wrap64_id (n := b) (by omega) (by omega), wrap64_id (n := 853 * c + b) (by omega) (by omega), wrap64_id (by omega) (by omega)]
theorem spec_check (s : ByteArray) (hs : s.size ≤ 100000000) (c : Int) (h1 : 0 ≤ c) (h2 : c ≤ 65002) : Evt (fun k => spec_l01Check.f k c s) (chk c s) := by
  have loop : ∀ (n i : Nat) (c : Int), i + n = s.size → 0 ≤ c → c ≤ 65002 → Evt (fun k => spec_l01Check.l0 k c s (i : Int)) (chkF s n i c) := by
    intro n
    induction n with
    | zero =>
      intro i c hi _ _
      refine Evt.succ ?_
      simp only [spec_l01Check.l0]
      exact Evt.neg (by omega) (Evt.pure _)
    | succ n ih =>
      intro i c hi h1 h2
      have hb := bt_range s (i : Int)
      have ht := tmod_range (x := 853 * c + bt s (i : Int) + 139) (by omega)
      refine Evt.succ ?_
      simp only [spec_l01Check.l0]
      refine Evt.pos (by omega) (Evt.pos (by omega) ?_)
      rw [step_eq c _ h1 h2 hb, wrap64_id (by omega) (by omega), show (i : Int) + 1 = ((i + 1 : Nat) : Int) by omega]
      exact ih (i + 1) _ (by omega) ht.1 ht.2
  unfold spec_l01Check.f
  exact loop s.size 0 c (by omega) h1 h2
theorem impl_check (s : ByteArray) (hs : s.size ≤ 100000000) (c : Int) (h1 : 0 ≤ c) (h2 : c ≤ 65002) : Evt (fun k => impl_CheckOf.f k c s) (chk c s, true) := by
  have loop : ∀ (n i : Nat) (c : Int), i + n = s.size → 0 ≤ c → c ≤ 65002 → Evt (fun k => impl_CheckOf.l0 k c s (s.size : Int) (i : Int)) (chkF s n i c, true) := by
    intro n
    induction n with
    | zero =>
      intro i c hi _ _
      refine Evt.succ ?_
      simp only [impl_CheckOf.l0]
      exact Evt.neg (by omega) (Evt.pure _)
    | succ n ih =>
      intro i c hi h1 h2
      have hb := bt_range s (i : Int)
      have ht := tmod_range (x := 853 * c + bt s (i : Int) + 139) (by omega)
      refine Evt.succ ?_
      simp only [impl_CheckOf.l0]
      refine Evt.pos (by omega) (Evt.pos (by omega) (Evt.pos (by omega) ?_))
      rw [step_eq c _ h1 h2 hb, wrap64_id (by omega) (by omega), show (i : Int) + 1 = ((i + 1 : Nat) : Int) by omega]
      exact ih (i + 1) _ (by omega) ht.1 ht.2
  unfold impl_CheckOf.f
  refine Evt.cbind (a := true) ?_ (Evt.pos rfl (loop s.size 0 c (by omega) h1 h2))
  unfold impl_within.f
  rw [if_pos h1, decide_eq_true h2]
/-! ### Decimals -/
theorem dec_list (u : Nat) : Lib.decDigits u = if u < 10 then [UInt8.ofNat (48 + u)] else Lib.decDigits (u / 10) ++ [UInt8.ofNat (48 + u % 10)] := by
  rw [Lib.decDigits]; split <;> rfl
def numsOf (u : Nat) : List Int := (Lib.decDigits u).map fun b => (b.toNat : Int)
theorem str_nums (l : List UInt8) : strOfNums (l.map fun b => (b.toNat : Int)) = ⟨l.toArray⟩ := by
  unfold strOfNums
  congr 2
  rw [List.map_map]
  conv => rhs; rw [← List.map_id l]
  apply List.map_congr_left
  intro b _
  simp
theorem digit_cell (d : Nat) (h : d < 10) : (wrap64 (48 + (d : Int))) % 256 = ((UInt8.ofNat (48 + d)).toNat : Int) := by
  rw [wrap64_id (by omega) (by omega), UInt8.toNat_ofNat']
  omega
theorem decDigits_len (u : Nat) (h : u < 100000) : (Lib.decDigits u).length ≤ 5 := by
  have key : ∀ (n u : Nat), u < 10 ^ (n + 1) → (Lib.decDigits u).length ≤ n + 1 := by
    intro n
    induction n with
    | zero => intro u h; rw [dec_list, if_pos (by omega)]; simp
    | succ n ih =>
      intro u h
      rw [dec_list]
      split
      · simp
      · have := ih (u / 10) (by rw [Nat.pow_succ] at h; omega)
        simp; omega
  exact key 4 u h
theorem spec_dec (n : Nat) (hn : n ≤ 65002) : Evt (fun k => spec_l01Dec.f k (n : Int)) (JO.dec (n : Int)) := by
  -- the digits that are left are those of u, the others stand
  have fin : ∀ (x3 : List Int), x3.length ≤ 10 → x3 ≠ [] → Evt (fun k => spec_l01Dec.l0 k (n : Int) x3 0) (strOfNums x3) := by
    intro x3 _ hne
    refine Evt.succ ?_
    simp only [spec_l01Dec.l0]
    refine Evt.neg (by have := List.length_pos_iff.2 hne; omega) (Evt.succ ?_)
    simp only [spec_l01Dec.j1]
    exact Evt.neg (by decide) (Evt.neg (by omega) (Evt.pure _))
  have loop : ∀ (m u : Nat) (x3 : List Int), u < 10 ^ m → u ≤ 65002 → x3.length + m ≤ 10 → (u ≠ 0 ∨ x3 = []) → Evt (fun k => spec_l01Dec.l0 k (n : Int) x3 (u : Int)) (strOfNums (numsOf u ++ x3)) := by
    intro m
    induction m with
    | zero =>
      intro u x3 hu _ hl hc
      have : u = 0 := by simpa using hu
      subst this
      rcases hc with h | rfl
      · exact absurd rfl h
      refine Evt.succ ?_
      simp only [spec_l01Dec.l0]
      refine Evt.pos (by simp) (Evt.succ ?_)
      simp only [spec_l01Dec.j1]
      refine Evt.pos trivial (Evt.neg (by decide) (Evt.cbind rfl (Evt.pos (by simp) ?_)))
      have e : numsOf 0 = [48] := by unfold numsOf; rw [dec_list]; rfl
      rw [e]
      simpa [wrap64] using fin [48] (by simp) (by simp)
    | succ m ih =>
      intro u x3 hu h6 hl hc
      have body : Evt (fun k => spec_l01Dec.j1 k (n : Int) x3 (u : Int) true) (strOfNums (numsOf u ++ x3)) := by
        refine Evt.succ ?_
        simp only [spec_l01Dec.j1]
        have ht : Int.tmod (u : Int) 10 = ((u % 10 : Nat) : Int) := by rw [Int.tmod_eq_emod_of_nonneg (by omega)]; omega
        have hd : Int.tdiv (u : Int) 10 = ((u / 10 : Nat) : Int) := by rw [Int.tdiv_eq_ediv_of_nonneg (by omega)]; omega
        rw [ht, hd]
        refine Evt.pos trivial (Evt.neg (by omega) (Evt.cbind rfl (Evt.pos (by simp; omega) ?_)))
        rw [digit_cell (u % 10) (by omega), wrap64_id (by omega) (by omega)]
        have e : numsOf u ++ x3 = (if u < 10 then [] else numsOf (u / 10)) ++ (((UInt8.ofNat (48 + u % 10)).toNat : Int) :: x3) := by
          unfold numsOf
          rw [dec_list u]
          by_cases h : u < 10
          · rw [if_pos h, if_pos h, Nat.mod_eq_of_lt h]; rfl
          · rw [if_neg h, if_neg h]; simp
        rw [e]
        by_cases h : u < 10
        · rw [if_pos h, show u / 10 = 0 by omega]
          exact fin _ (by simp; omega) (by simp)
        · rw [if_neg h]
          exact ih (u / 10) _ (by rw [Nat.pow_succ] at hu; omega) (by omega) (by simp; omega) (.inl (by omega))
      refine Evt.succ ?_
      simp only [spec_l01Dec.l0]
      by_cases hx : (x3.length : Int) = 0
      · exact Evt.pos hx body
      · refine Evt.neg hx ?_
        rcases hc with h | h
        · have : ((u : Int) != 0) = true := by simpa using h
          rw [this]; exact body
        · subst h; exact absurd rfl hx
  unfold spec_l01Dec.f
  have := loop 5 n [] (by omega) hn (by simp) (.inr rfl)
  rw [List.append_nil] at this
  have e : JO.dec (n : Int) = strOfNums (numsOf n) := by
    unfold JO.dec numsOf
    rw [str_nums]
    congr 2
  rw [e]
  exact this
/-! ### Journals -/
theorem dec_size (n : Nat) (h : n ≤ 65002) : 1 ≤ (JO.dec (n : Int)).size ∧ (JO.dec (n : Int)).size ≤ 5 := by
  have e : (JO.dec (n : Int)).size = (Lib.decDigits n).length := by unfold JO.dec Lib.itoa; rw [if_neg (by omega), Int.toNat_natCast]; simp [bsz_mk]
  rw [e]
  refine ⟨?_, decDigits_len n (by omega)⟩
  rw [dec_list]; split <;> simp
theorem piece_size (c : Int) (s : ByteArray) (h1 : 0 ≤ c) (h2 : c ≤ 65002) : s.size + 3 ≤ (JO.piece c s).size ∧ (JO.piece c s).size ≤ s.size + 7 := by
  obtain ⟨n, rfl⟩ : ∃ n : Nat, c = (n : Int) := ⟨c.toNat, by omega⟩
  have := dec_size n (by omega)
  have e : (JO.piece (n : Int) s).size = (JO.dec (n : Int)).size + 1 + s.size + 1 := by unfold JO.piece; simp only [ByteArray.size_append, bsz_mk, List.size_toArray, List.length_cons, List.length_nil]
  omega
def G : List ByteArray → Int → ByteArray → ByteArray
  | [], _, b => b
  | s :: r, c, b => G r (chk c s) (b ++ JO.piece (chk c s) s)
def tot : List ByteArray → Nat
  | [] => 0
  | s :: r => s.size + 3 + tot r
theorem tot_append (a b : List ByteArray) : tot (a ++ b) = tot a + tot b := by
  induction a with
  | nil => simp [tot]
  | cons x a ih => simp only [List.cons_append, tot, ih]; omega
theorem G_size : ∀ (l : List ByteArray) (c : Int) (b : ByteArray), 0 ≤ c → c ≤ 65002 → b.size + tot l ≤ (G l c b).size
  | [], _, _, _, _ => by simp [G, tot]
  | s :: r, c, b, h1, h2 => by
    have hc := chk_range c s h1 h2
    have hp := piece_size (chk c s) s hc.1 hc.2
    have := G_size r (chk c s) (b ++ JO.piece (chk c s) s) hc.1 hc.2
    rw [ByteArray.size_append] at this
    simp only [G, tot]
    omega
abbrev nl (s : ByteArray) : Prop := 0 ≤ Lib.indexByte s.data.toList 10
/-- What both answer. -/
def Rs (l : List ByteArray) (c : Int) (b : ByteArray) : ByteArray × Bool := if (l.any fun s => decide (nl s)) = true ∨ (G l c b).size > 16000 then ((⟨#[]⟩ : ByteArray), false) else (G l c b, true)
theorem impl_go : ∀ (l : List ByteArray) (c : Int) (b : ByteArray), (∀ s ∈ l, s.size ≤ 1048576) → 0 ≤ c → c ≤ 65002 → b.size ≤ 16000 → Evt (fun k => JO.go k l c b) (Rs l c b)
  | [], c, b, _, _, _, hb => by
    simp only [JO.go]
    have : Rs [] c b = (b, true) := by unfold Rs; rw [if_neg]; rfl; simp [G]; omega
    rw [this]; exact Evt.pure _
  | s :: r, c, b, hs, h1, h2, hb => by
    have hc := chk_range c s h1 h2
    have hp := piece_size (chk c s) s hc.1 hc.2
    have hss := hs s (by simp)
    have hg := G_size r (chk c s) (b ++ JO.piece (chk c s) s) hc.1 hc.2
    simp only [JO.go]
    by_cases hn : nl s
    · refine Evt.pos hn ?_
      have : Rs (s :: r) c b = ((⟨#[]⟩ : ByteArray), false) := by unfold Rs; rw [if_pos]; left; simp [hn]
      rw [this]; exact Evt.pure _
    · refine Evt.neg hn (Evt.bind (impl_check s (by omega) c h1 h2) ?_)
      dsimp only
      refine Evt.pos ⟨hc, by omega⟩ ?_
      by_cases hm : ((b ++ JO.piece (chk c s) s).size : Int) > 16000
      · refine Evt.pos hm ?_
        have : Rs (s :: r) c b = ((⟨#[]⟩ : ByteArray), false) := by unfold Rs; rw [if_pos]; right; simp only [G]; omega
        rw [this]; exact Evt.pure _
      · refine Evt.neg hm ?_
        have : Rs (s :: r) c b = Rs r (chk c s) (b ++ JO.piece (chk c s) s) := by
          unfold Rs
          simp only [G, List.any_cons, decide_eq_false hn, Bool.false_or]
        rw [this]
        exact impl_go r _ _ (fun x hx => hs x (by simp [hx])) hc.1 hc.2 (by omega)
theorem drop_at (l : List ByteArray) (i : Nat) (h : i < l.length) : l.drop i = at_ l i :: l.drop (i + 1) := by
  rw [List.drop_eq_getElem_cons h, at_get l i h]
theorem spec_journal (l : List ByteArray) (hl : l.length ≤ 1048576) (ht : tot l ≤ 4194304) : Evt (fun k => spec_l08Journal.f k l) (G l 0 (⟨#[]⟩ : ByteArray)) := by
  have loop : ∀ (n i : Nat) (c : Int) (b : ByteArray), i + n = l.length → 0 ≤ c → c ≤ 65002 → b.size + 3 * tot (l.drop i) ≤ 100000000 → Evt (fun k => spec_l08Journal.l0 k l b c (i : Int)) (G (l.drop i) c b) := by
    intro n
    induction n with
    | zero =>
      intro i c b hi _ _ _
      refine Evt.succ ?_
      simp only [spec_l08Journal.l0]
      rw [List.drop_eq_nil_of_le (by omega)]
      exact Evt.neg (by omega) (Evt.pure _)
    | succ n ih =>
      intro i c b hi h1 h2 hb
      have hlt : i < l.length := by omega
      rw [drop_at l i hlt] at hb ⊢
      simp only [tot] at hb
      have hc := chk_range c (at_ l i) h1 h2
      have hp := piece_size (chk c (at_ l i)) (at_ l i) hc.1 hc.2
      have IH := ih (i + 1) (chk c (at_ l i)) (b ++ JO.piece (chk c (at_ l i)) (at_ l i)) (by omega) hc.1 hc.2 (by rw [ByteArray.size_append]; omega)
      refine Evt.succ ?_
      simp only [spec_l08Journal.l0, at_eq]
      obtain ⟨m, hm⟩ : ∃ m : Nat, chk c (at_ l i) = (m : Int) := ⟨(chk c (at_ l i)).toNat, by omega⟩
      have hd := dec_size m (by omega)
      refine Evt.pos (by omega) (Evt.pos (by omega) (Evt.bind (spec_check (at_ l i) (by omega) c h1 h2) ?_))
      simp only [G]
      rw [hm] at IH ⊢
      refine Evt.bind (spec_dec m (by omega)) ?_
      rw [wrap64_id (by omega) (by omega), show (i : Int) + 1 = ((i + 1 : Nat) : Int) by omega]
      refine Evt.pos (by omega) (Evt.pos ?_ (Evt.pos ?_ (Evt.pos ?_ IH)))
      all_goals simp only [ByteArray.size_append, bsz_mk, List.size_toArray, List.length_cons, List.length_nil]; omega
  unfold spec_l08Journal.f
  have := loop l.length 0 0 (⟨#[]⟩ : ByteArray) (by omega) (by omega) (by omega) (by simp [bsz_mk]; omega)
  exact this
theorem bt_list (s : ByteArray) (i : Nat) (h : i < s.size) : bt s (i : Int) = 10 ↔ s.data.toList[i]? = some 10 := by
  have h' : i < s.data.size := h
  have e : bt s (i : Int) = ((s.data[i]'h').toNat : Int) := by
    unfold bt
    rw [dif_pos (by simpa using h)]
    rfl
  rw [e, Array.getElem?_toList, Array.getElem?_eq_getElem h', Option.some_inj]
  constructor
  · intro h2
    have : (s.data[i]'h').toNat = 10 := by omega
    exact UInt8.toNat_inj.1 this
  · intro h2; rw [h2]; rfl
theorem nl_iff (s : ByteArray) : nl s ↔ ∃ i : Nat, i < s.size ∧ bt s (i : Int) = 10 := by
  constructor
  · intro h
    obtain ⟨o, ho⟩ : ∃ o : Nat, Lib.indexByte s.data.toList 10 = (o : Int) := ⟨(Lib.indexByte s.data.toList 10).toNat, by omega⟩
    have hs := (Lib.indexByte_some ho).1
    have hlt : o < s.size := by
      have h2 := (List.getElem?_eq_some_iff.1 hs).1
      rw [Array.length_toList] at h2
      exact h2
    exact ⟨o, hlt, (bt_list s o hlt).2 hs⟩
  · rintro ⟨i, hi, hb⟩
    refine Decidable.byContradiction fun hn => ?_
    have hge := Lib.indexByte_ge s.data.toList 10
    have : Lib.indexByte s.data.toList 10 = -1 := by
      have : ¬ 0 ≤ Lib.indexByte s.data.toList 10 := hn
      omega
    exact Lib.indexByte_none this i ((bt_list s i hi).1 hb)
theorem spec_of (l : List ByteArray) (hl : l.length ≤ 1048576) (ht : tot l ≤ 4194304) : Evt (fun k => spec_JournalOf.f k l) (Rs l 0 (⟨#[]⟩ : ByteArray)) := by
  have hG := G_size l 0 (⟨#[]⟩ : ByteArray) (by omega) (by omega)
  have hno : ∀ i : Nat, i < l.length → nl (at_ l i) → Rs l 0 (⟨#[]⟩ : ByteArray) = ((⟨#[]⟩ : ByteArray), false) := by
    intro i hi hn
    unfold Rs
    rw [if_pos]
    left
    rw [List.any_eq_true]
    exact ⟨at_ l i, by rw [at_get l i hi]; exact List.getElem_mem hi, by simpa using hn⟩
  have loop : ∀ (n i : Nat), i + n = l.length → (∀ j : Nat, j < i → ¬ nl (at_ l j)) → tot (l.take i) ≤ 16000 → Evt (fun k => spec_JournalOf.l0 k l (tot (l.take i) : Nat) (i : Int)) (Rs l 0 (⟨#[]⟩ : ByteArray)) := by
    intro n
    induction n with
    | zero =>
      intro i hi hN _
      refine Evt.succ ?_
      simp only [spec_JournalOf.l0]
      refine Evt.neg (by omega) (Evt.bind (spec_journal l hl ht) ?_)
      have hany : ¬ (l.any fun s => decide (nl s)) = true := by
        intro h
        rw [List.any_eq_true] at h
        obtain ⟨x, hx, hd⟩ := h
        obtain ⟨j, hj, rfl⟩ := List.getElem_of_mem hx
        exact hN j (by omega) (by rw [at_get l j hj]; simpa using hd)
      by_cases hm : ((G l 0 (⟨#[]⟩ : ByteArray)).size : Int) > 16000
      · refine Evt.pos hm ?_
        have : Rs l 0 (⟨#[]⟩ : ByteArray) = ((⟨#[]⟩ : ByteArray), false) := by unfold Rs; rw [if_pos]; right; omega
        rw [this]; exact Evt.pure _
      · refine Evt.neg hm ?_
        have : Rs l 0 (⟨#[]⟩ : ByteArray) = (G l 0 (⟨#[]⟩ : ByteArray), true) := by
          unfold Rs; rw [if_neg]; intro h; rcases h with h | h
          · exact hany h
          · omega
        rw [this]; exact Evt.pure _
    | succ n ih =>
      intro i hi hN h16
      have hlt : i < l.length := by omega
      have e1 : tot (l.take (i + 1)) = tot (l.take i) + ((at_ l i).size + 3) := by
        rw [List.take_succ_eq_append_getElem hlt, tot_append, ← at_get l i hlt]; rfl
      have e2 : tot l = tot (l.take (i + 1)) + tot (l.drop (i + 1)) := by rw [← tot_append, List.take_append_drop]
      have IH := ih (i + 1) (by omega)
      have hw : wrap64 ((tot (l.take i) : Int) + wrap64 (((at_ l i).size : Int) + 3)) = ((tot (l.take (i + 1)) : Nat) : Int) := by
        rw [wrap64_id (n := ((at_ l i).size : Int) + 3) (by omega) (by omega), wrap64_id (by omega) (by omega)]; omega
      refine Evt.succ ?_
      simp only [spec_JournalOf.l0, at_eq]
      refine Evt.pos (by omega) (Evt.pos (by omega) ?_)
      by_cases hm : ((tot (l.take (i + 1)) : Nat) : Int) > 16000
      · refine Evt.pos (by rw [hw]; exact hm) ?_
        clear hw IH ih
        have : Rs l 0 (⟨#[]⟩ : ByteArray) = ((⟨#[]⟩ : ByteArray), false) := by unfold Rs; rw [if_pos]; right; omega
        rw [this]; exact Evt.pure _
      · refine Evt.neg (by rw [hw]; exact hm) ?_
        rw [hw]
        clear hw
        have inner : ∀ (m j : Nat), j + m = (at_ l i).size → (∀ q : Nat, q < j → bt (at_ l i) (q : Int) ≠ 10) → Evt (fun k => spec_JournalOf.l1 k l ((tot (l.take (i + 1)) : Nat) : Int) (i : Int) (j : Int)) (Rs l 0 (⟨#[]⟩ : ByteArray)) := by
          intro m
          induction m with
          | zero =>
            intro j hj hq
            refine Evt.succ ?_
            simp only [spec_JournalOf.l1, at_eq]
            refine Evt.pos (by omega) (Evt.pos (by omega) (Evt.neg (by omega) ?_))
            rw [wrap64_id (by omega) (by omega), show (i : Int) + 1 = ((i + 1 : Nat) : Int) by omega]
            refine IH ?_ (by omega)
            intro q hqi
            by_cases hqe : q = i
            · subst hqe
              rw [nl_iff]
              rintro ⟨p, hp, hp2⟩
              exact hq p (by omega) hp2
            · exact hN q (by omega)
          | succ m ihm =>
            intro j hj hq
            refine Evt.succ ?_
            simp only [spec_JournalOf.l1, at_eq]
            refine Evt.pos (by omega) (Evt.pos (by omega) (Evt.pos (by omega) (Evt.pos (by omega) ?_)))
            by_cases hb : bt (at_ l i) (j : Int) = 10
            · refine Evt.pos hb ?_
              rw [hno i hlt ((nl_iff _).2 ⟨j, by omega, hb⟩)]
              exact Evt.pure _
            · refine Evt.neg hb ?_
              rw [wrap64_id (by omega) (by omega), show (j : Int) + 1 = ((j + 1 : Nat) : Int) by omega]
              refine ihm (j + 1) (by omega) ?_
              intro q hqj
              by_cases hqe : q = j
              · subst hqe; exact hb
              · exact hq q (by omega)
        exact inner (at_ l i).size 0 (by omega) (fun q hq => by omega)
  unfold spec_JournalOf.f
  exact loop l.length 0 (by omega) (fun j hj => by omega) (by simp [tot])
end Go.Proofs.YtdfnmpkbklicaaaDoor.Pure
