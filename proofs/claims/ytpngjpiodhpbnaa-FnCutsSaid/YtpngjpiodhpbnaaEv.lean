/- What a function of the rounds tells from some number of rounds on. -/
import Derived.Test.YtpngjpiodhpbnaaFx
namespace Go.Proofs.YtpngjpiodhpbnaaW.Fl
open Go Go.RowKit Go.Proofs.YtpngjpiodhpbnaaW.PrintWords
/-- From some number of rounds on the answer is r. -/
def Evt {α : Type} (g : Nat → Option α) (r : α) : Prop := ∃ k0, ∀ k, k0 ≤ k → g k = some r
section
variable {α β : Type}
theorem Evt.pure (r : α) : Evt (fun _ => some r) r := ⟨0, fun _ _ => rfl⟩
theorem Evt.const {o : Option α} {r : α} (h : o = some r) : Evt (fun _ => o) r := ⟨0, fun _ _ => h⟩
theorem Evt.bind {g : Nat → Option α} {h : Nat → α → Option β} {a : α} {b : β} (hg : Evt g a) (hh : Evt (fun k => h k a) b) : Evt (fun k => (g k).bind (h k)) b := by
  obtain ⟨k1, h1⟩ := hg
  obtain ⟨k2, h2⟩ := hh
  exact ⟨max k1 k2, fun k hk => by simp only [h1 k (by omega)]; exact h2 k (by omega)⟩
theorem Evt.cbind {o : Option α} {h : Nat → α → Option β} {a : α} {b : β} (hg : o = some a) (hh : Evt (fun k => h k a) b) : Evt (fun k => o.bind (h k)) b := by
  subst hg; exact hh
theorem Evt.succ {g : Nat → Option α} {r : α} (h : Evt (fun k => g (k + 1)) r) : Evt g r := by
  obtain ⟨k0, h0⟩ := h
  refine ⟨k0 + 1, fun k hk => ?_⟩
  obtain ⟨j, rfl⟩ : ∃ j, k = j + 1 := ⟨k - 1, by omega⟩
  exact h0 j (by omega)
theorem Evt.ex {g : Nat → Option α} {r : α} (h : Evt g r) : ∃ k, g k = some r := by
  obtain ⟨k0, h0⟩ := h; exact ⟨k0, h0 k0 (Nat.le_refl _)⟩
theorem Evt.pos {c : Prop} [Decidable c] {g g' : Nat → Option α} {r : α} (hc : c) (h : Evt g r) : Evt (fun k => if c then g k else g' k) r := by
  simpa only [if_pos hc] using h
theorem Evt.neg {c : Prop} [Decidable c] {g g' : Nat → Option α} {r : α} (hc : ¬ c) (h : Evt g' r) : Evt (fun k => if c then g k else g' k) r := by
  simpa only [if_neg hc] using h
end
theorem wrap64_id {n : Int} (h1 : -9223372036854775808 ≤ n) (h2 : n ≤ 9223372036854775807) : wrap64 n = n := by unfold wrap64; omega
theorem rd_append (pre : List Int) (x : Int) (r : List Int) : rd (pre ++ x :: r) (pre.length : Int) = x := by simp [rd]
end Go.Proofs.YtpngjpiodhpbnaaW.Fl
