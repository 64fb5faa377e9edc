/- What a source draws: a number below the bound. -/
import Derived.Test.YtpngjpiodhpbnaaPFnCutsx3
import Derived.Test.YtpngjpiodhpbnaaEv
import Derived.Laws.BitsLemmas
namespace Go.Proofs.Ytpngjpiodhpbnaa.PurePFnCuts
open Go.RowKit Go.Proofs.Ytpngjpiodhpbnaa.PFnCuts Go.Proofs.YtpngjpiodhpbnaaW.PrintWords Go.Proofs.YtpngjpiodhpbnaaW.PrintLast Go.Proofs.YtpngjpiodhpbnaaW.Fl
def Bytes (l : List Int) : Prop := l.length ≤ 140737488351232 ∧ ∀ x ∈ l, 0 ≤ x ∧ x ≤ 255
theorem Bytes.of {l : List Int} (h1 : l.length * 1 ≤ 140737488351232) (h2 : ∀ x ∈ l, (Lit.int .u8 x).wf = true) : Bytes l := by
  refine ⟨by omega, fun x hx => ?_⟩
  have := h2 x hx
  simp only [Lit.wf, decide_eq_true_eq, Bool.and_eq_true] at this
  rw [show IntKind.u8.min = 0 from rfl, show IntKind.u8.max = 255 from rfl] at this
  omega
theorem Bytes.get {l : List Int} (h : Bytes l) (i : Int) : 0 ≤ rd l i ∧ rd l i ≤ 255 := by
  unfold rd
  rw [List.getD_eq_getElem?_getD]
  cases e : l[i.toNat]? with
  | none => simp
  | some x => exact h.2 x (List.mem_of_getElem? e)
theorem wrap_u64 (n : Int) : IntKind.u64.wrap n = n % 18446744073709551616 := by simp [IntKind.wrap, IntKind.bits, IntKind.signed]
theorem mask255 (x : Int) (h0 : 0 ≤ x) (h1 : x < 18446744073709551616) : Go.bits .and .u64 x 255 = x % 256 :=
  bits_mask .u64 64 (by decide) (fun n h0 h1 => by rw [wrap_u64]; omega) 8 (by decide) x h0 h1
theorem seed_byte (z : Int) : 0 ≤ wrap64 (Go.bits .and .u64 (IntKind.u64.wrap z / 1099511627776) 255) ∧ wrap64 (Go.bits .and .u64 (IntKind.u64.wrap z / 1099511627776) 255) ≤ 255 := by
  rw [wrap_u64]
  rw [mask255 _ (by omega) (by omega), wrap64_id (by omega) (by omega)]
  omega
theorem next_some {code : List Int} (h : Bytes code) (at_ seed : Int) (h0 : 0 ≤ at_) (h1 : at_ ≤ 1099511627776) :
    ∃ n s, spec_l00Src_next.f code at_ seed = some (n, at_ + 1, s) ∧ 0 ≤ n ∧ n ≤ 255 := by
  unfold spec_l00Src_next.f
  have e : wrap64 (at_ + 1) = at_ + 1 := wrap64_id (by omega) (by omega)
  by_cases c : at_ < (code.length : Int)
  · rw [if_pos c, if_pos h0, e, if_pos (by omega)]
    have := h.get at_
    rw [wrap64_id (n := rd code at_) (by omega) (by omega)]
    exact ⟨_, _, rfl, this.1, this.2⟩
  · rw [if_neg c, e, if_neg (by omega)]
    exact ⟨_, _, rfl, (seed_byte _).1, (seed_byte _).2⟩
theorem pick_some {code : List Int} (h : Bytes code) (at_ seed m : Int) (h0 : 0 ≤ at_) (h1 : at_ ≤ 1000000000000) (hm : 1 ≤ m) (hm2 : m ≤ 1000000) :
    ∃ n a s, spec_l00Src_pick.f code at_ seed m = some (n, a, s) ∧ 0 ≤ n ∧ n < m ∧ at_ ≤ a ∧ a ≤ at_ + 2 := by
  unfold spec_l00Src_pick.f
  by_cases c : m ≤ 1
  · rw [if_pos c]; exact ⟨_, _, _, rfl, by omega, by omega, by omega, by omega⟩
  · rw [if_neg c]
    obtain ⟨n, s, e, n0, n1⟩ := next_some h at_ seed h0 (by omega)
    rw [e]
    simp only [Option.bind_some]
    by_cases c2 : m > 200
    · rw [if_pos c2]
      obtain ⟨n2, s2, e2, m0, m1⟩ := next_some h (at_ + 1) s (by omega) (by omega)
      rw [e2]
      simp only [Option.bind_some]
      rw [if_neg (by omega), wrap64_id (n := n * 256) (by omega) (by omega), wrap64_id (by omega) (by omega)]
      refine ⟨_, _, _, rfl, Int.tmod_nonneg _ (by omega), Int.tmod_lt_of_pos _ (by omega), by omega, by omega⟩
    · rw [if_neg c2, if_neg (by omega)]
      exact ⟨_, _, _, rfl, Int.tmod_nonneg _ (by omega), Int.tmod_lt_of_pos _ (by omega), by omega, by omega⟩
end Go.Proofs.Ytpngjpiodhpbnaa.PurePFnCuts
