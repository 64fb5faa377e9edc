/- What the program's law FnExactJournalOf computes is true, for every list of strings that a Go program can hold. -/
import Derived.Test.YtdfnmpkbklicaaaDoorJp
namespace Go.Proofs.YtdfnmpkbklicaaaDoor.Pure
open Go Go.RowKit Go.Proofs.YtdfnmpkbklicaaaDoor.PFnExactJournalOf Go.Proofs.YtdfnmpkbklicaaaDoorW.PrintWords Go.Proofs.YtdfnmpkbklicaaaDoorW.PrintLast Go.Proofs.YtdfnmpkbklicaaaDoorW.Fl
def sz : List ByteArray → Nat
  | [] => 0
  | s :: r => s.size + sz r
theorem sizes (l : List ByteArray) (hl : l.length ≤ 9223372036854775807) (hs : ∀ s ∈ l, s.size ≤ 9223372036854775807) : ∃ r : Int, Evt (fun k => laws_szStringS.f k l 1048576) r ∧ (r < 0 ∨ l.length + sz l ≤ 1048576) := by
  have loop : ∀ (n i : Nat) (left : Int), i + n = l.length → 0 ≤ left → left ≤ 1048576 → l.length ≤ 1048576 → ∃ r : Int, Evt (fun k => laws_szStringS.l0 k l left (i : Int)) r ∧ (r < 0 ∨ (sz (l.drop i) : Int) ≤ left) := by
    intro n
    induction n with
    | zero =>
      intro i left hi h1 _ h3
      refine ⟨left, Evt.succ ?_, .inr ?_⟩
      · simp only [laws_szStringS.l0]
        exact Evt.neg (by omega) (Evt.pure _)
      · rw [List.drop_eq_nil_of_le (by omega)]; simpa [sz] using h1
    | succ n ih =>
      intro i left hi h1 h2 h3
      have hlt : i < l.length := by omega
      have hsz := hs (at_ l i) (by rw [at_get l i hlt]; exact List.getElem_mem hlt)
      rw [drop_at l i hlt]
      have hw : wrap64 (left - ((at_ l i).size : Int)) = left - ((at_ l i).size : Int) := wrap64_id (by omega) (by omega)
      by_cases hneg : left - ((at_ l i).size : Int) < 0
      · refine ⟨-1, Evt.succ ?_, .inl (by omega)⟩
        simp only [laws_szStringS.l0, at_eq]
        exact Evt.pos (by omega) (Evt.pos (by omega) (Evt.pos (by rw [hw]; exact hneg) (Evt.pure _)))
      · obtain ⟨r, hr, hc⟩ := ih (i + 1) (left - ((at_ l i).size : Int)) (by clear hw; omega) (by clear hw; omega) (by clear hw; omega) h3
        refine ⟨r, Evt.succ ?_, ?_⟩
        · simp only [laws_szStringS.l0, at_eq]
          refine Evt.pos (by clear hw; omega) (Evt.pos (by clear hw; omega) (Evt.neg (by rw [hw]; exact hneg) ?_))
          rw [hw, wrap64_id (n := (i : Int) + 1) (by clear hw; omega) (by clear hw; omega), show (i : Int) + 1 = ((i + 1 : Nat) : Int) by clear hw; omega]
          exact hr
        · clear hw
          rcases hc with h | h
          · exact .inl h
          · right; simp only [sz]; omega
  have hw : wrap64 (1048576 - (l.length : Int)) = 1048576 - (l.length : Int) := wrap64_id (by omega) (by omega)
  unfold laws_szStringS.f
  by_cases hneg : 1048576 - (l.length : Int) < 0
  · exact ⟨-1, Evt.pos (by rw [hw]; exact hneg) (Evt.pure _), .inl (by omega)⟩
  · obtain ⟨r, hr, hc⟩ := loop l.length 0 (1048576 - (l.length : Int)) (by omega) (by clear hw; omega) (by clear hw; omega) (by clear hw; omega)
    refine ⟨r, Evt.neg (by rw [hw]; exact hneg) (by rw [hw]; exact hr), ?_⟩
    clear hw
    rcases hc with h | h
    · exact .inl h
    · right; rw [List.drop_zero] at h; omega
theorem copy_same (l : List ByteArray) (hl : l.length ≤ 1048576) : Evt (fun k => laws_toStringS.f k l) l := by
  have loop : ∀ (n i : Nat) (ys : List ByteArray), i + n = l.length → ys = l.take i ++ List.replicate n (⟨#[]⟩ : ByteArray) → Evt (fun k => laws_toStringS.l0 k l ys (i : Int)) l := by
    intro n
    induction n with
    | zero =>
      intro i ys hi hy
      refine Evt.succ ?_
      simp only [laws_toStringS.l0]
      refine Evt.neg (by omega) ?_
      have : i = l.length := by omega
      subst this
      simp only [List.take_length, List.replicate_zero, List.append_nil] at hy
      rw [hy]; exact Evt.pure _
    | succ n ih =>
      intro i ys hi hy
      have hlen : ys.length = l.length := by rw [hy]; simp; omega
      refine Evt.succ ?_
      simp only [laws_toStringS.l0, at_eq]
      refine Evt.pos (by omega) (Evt.pos (by omega) (Evt.pos (by omega) ?_))
      rw [wrap64_id (by omega) (by omega), show (i : Int) + 1 = ((i + 1 : Nat) : Int) by omega]
      refine ih (i + 1) _ (by omega) ?_
      rw [hy, Int.toNat_natCast]
      rw [at_get l i (by omega), List.set_append, if_neg (by simp; omega)]
      rw [List.take_succ_eq_append_getElem (show i < l.length by omega), List.append_assoc]
      rw [List.length_take, Nat.min_eq_left (show i ≤ l.length by omega), Nat.sub_self, List.replicate_succ]
      rfl
  unfold laws_toStringS.f
  refine Evt.pos (by omega) (Evt.pos (by simp; omega) ?_)
  exact loop l.length 0 _ (by omega) (by simp)
theorem eq_same (l : List ByteArray) (hl : l.length ≤ 1048576) : Evt (fun k => laws_eqStringS.f k l l) true := by
  have loop : ∀ (n i : Nat), i + n = l.length → Evt (fun k => laws_eqStringS.l0 k l l (i : Int)) true := by
    intro n
    induction n with
    | zero =>
      intro i hi
      refine Evt.succ ?_
      simp only [laws_eqStringS.l0]
      exact Evt.neg (by omega) (Evt.pure _)
    | succ n ih =>
      intro i hi
      refine Evt.succ ?_
      simp only [laws_eqStringS.l0]
      refine Evt.pos (by omega) (Evt.pos (by omega) (Evt.pos (by omega) (Evt.pos (by trivial) ?_)))
      rw [wrap64_id (by omega) (by omega), show (i : Int) + 1 = ((i + 1 : Nat) : Int) by omega]
      exact ih (i + 1) (by omega)
  unfold laws_eqStringS.f
  exact Evt.pos rfl (loop l.length 0 (by omega))
theorem sz_mem : ∀ (l : List ByteArray), (∀ s ∈ l, s.size ≤ sz l) ∧ tot l = sz l + 3 * l.length
  | [] => ⟨by simp, by simp [tot, sz]⟩
  | s :: r => by
    have ih := sz_mem r
    refine ⟨?_, by simp only [tot, sz, List.length_cons, ih.2]; omega⟩
    intro x hx
    simp only [sz]
    rcases List.mem_cons.1 hx with rfl | h
    · omega
    · have := ih.1 x h; omega
/-- THE STATEMENT. -/
theorem FnExactJournalOf (l : List ByteArray) (hl : l.length ≤ 9223372036854775807) (hs : ∀ s ∈ l, s.size ≤ 9223372036854775807) : ∃ k, laws_FnExactJournalOf.f k l = some true := by
  obtain ⟨r, hr, hc⟩ := sizes l hl hs
  refine Evt.ex ?_
  unfold laws_FnExactJournalOf.f
  refine Evt.bind hr ?_
  by_cases hneg : r < 0
  · exact Evt.pos hneg (Evt.pure _)
  · refine Evt.neg hneg ?_
    have hsz : l.length + sz l ≤ 1048576 := by rcases hc with h | h; exact absurd h hneg; exact h
    have hm := sz_mem l
    have hl2 : l.length ≤ 1048576 := by omega
    refine Evt.bind (copy_same l hl2) (Evt.bind (spec_of l hl2 (by omega)) (Evt.bind (copy_same l hl2) (Evt.bind (a := Rs l 0 (⟨#[]⟩ : ByteArray)) ?_ ?_)))
    · unfold impl_JournalOf.f
      exact Evt.pos (by omega) (impl_go l 0 (⟨#[]⟩ : ByteArray) (fun s h => by have := hm.1 s h; omega) (by omega) (by omega) (by simp [bsz_mk]))
    · refine Evt.pos rfl (Evt.succ ?_)
      simp only [laws_FnExactJournalOf.j0, bne_self_eq_false]
      exact Evt.neg (by decide) (Evt.bind (copy_same l hl2) (Evt.bind (eq_same l hl2) (Evt.pos rfl (Evt.pure _))))
end Go.Proofs.YtdfnmpkbklicaaaDoor.Pure
