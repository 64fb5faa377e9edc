/- The row of FnExactBestCuts: out of the walk and the plain law. It covers every list of lists of costs and every budget that the statement covers. -/
import Derived.Test.YtpngjpiodhpbnaaRows
import Derived.Test.YtpngjpiodhpbnaaPFnExactBestCutsx8
import Derived.Test.YtpngjpiodhpbnaaFnExactBestCutsPureBest
import Derived.WalkKit
import Derived.ProofKit
import Derived.OpenShut
import Derived.ShutString
import Derived.ChangeOld
import Derived.Below
import Derived.SizedLaws
import Derived.Deep.SlicePairs
namespace Go.Proofs.Ytpngjpiodhpbnaa.fnExactBestCuts
open Go.ChangeShapes Go.WideShapes Go.ChangeAt Go.RowKit Go.Deep
open Go.Proofs.YtpngjpiodhpbnaaW.PrintWords Go.Proofs.Ytpngjpiodhpbnaa.PFnExactBestCuts
set_option linter.unusedVariables false
theorem own : ownKnob Try.prog.godebug = none := by kernel_rfl
theorem laidOut : laidOutB Try.prog = true := by kernel_rfl
section
variable {H : Type} {enc : TypeId × Value → H} {W : World} {base : Nat} {held : Bool}
theorem trod_float {P : Program} {spare : Nat → Bool} {fuel : Nat} {t : TypeId} {cs : List Value} {x : DataW H × List MemPlace} {k : FloatKind} (ht : P.underlying t = some (.float k)) (h : DataW.trod enc P W base spare held fuel t cs = some x) : ∃ b, cs = [.float k b] := by
  cases fuel with
  | zero => simp [DataW.trod] at h
  | succ n =>
    unfold DataW.trod at h
    rw [ht] at h
    split at h <;> simp_all
/-- One row of costs. -/
theorem inner {n : Nat} {v : Value} {x : DataW H × List MemPlace} (h : DataW.trod enc Try.prog W base (fun _ => true) held n 66 [v] = some x) :
    ∃ (A : Option Addr) (c : Nat) (xs : List S76), v = .slice A xs.length c ∧ xs.length ≤ c ∧ xs.length ≤ maxLen ∧ Kd.C k76 W A xs.length xs := by
  rcases open_slice_pairs Try.underlying66 Try.underlying76 (by kernel_rfl) rfl rfl (by kernel_rfl) (by kernel_rfl) h with ⟨hcs, _⟩ | ⟨a, len, cap, m, n', V0, V1, D0, D1, P0, P1, hcs, _, hl, hm, hmm, _, hx⟩
  · obtain rfl : v = .slice none 0 0 := by simpa using hcs
    exact ⟨none, 0, [], rfl, Nat.le_refl _, Nat.zero_le _, rfl, by simp, fun h => absurd h (by simp)⟩
  · obtain rfl : v = .slice (some a) len cap := by simpa using hcs
    have hlm : len ≤ m := by rw [hmm]; simpa using hl
    have each : ∀ i, i < len → ∃ y : Int × Nat, W.cell? (a.add (i * 2)) = some (.int .i64 y.1) ∧ W.cell? (a.add (i * 2 + 1)) = some (.float .f32 y.2) := by
      intro i hi
      obtain ⟨g0, g1, g2, g3⟩ := hx i (by omega)
      obtain ⟨z, hz, _, _⟩ := DataW.trod_int Try.underlying2 g2
      obtain ⟨b, hb⟩ := trod_float Try.underlying26 g3
      refine ⟨(z, b), ?_, ?_⟩
      · rw [g0]; simpa using hz
      · rw [g1]; simpa using hb
    obtain ⟨y, hy⟩ := choose_lt each
    have hlen : ((List.range len).map fun i => (⟨(y i).1, (y i).2⟩ : S76)).length = len := by simp
    refine ⟨some a, cap, (List.range len).map fun i => (⟨(y i).1, (y i).2⟩ : S76), by rw [hlen], by rw [hlen]; exact hl, by rw [hlen]; exact Nat.le_trans hl hm, rfl, by rw [hlen]; exact Nat.le_trans hl hm, fun _ => ⟨a, rfl, fun j p hp => ?_⟩⟩
    have hj : j < len := by
      have := (List.getElem?_eq_some_iff.1 hp).1
      simpa using this
    obtain rfl : (⟨(y j).1, (y j).2⟩ : S76) = p := by simpa [hj] using hp
    refine ⟨[.int .i64 (y j).1, .float .f32 (y j).2], rfl, ⟨[.int .i64 (y j).1], [.float .f32 (y j).2], rfl, rfl, rfl⟩, fun i u hu => ?_⟩
    match i, hu with
    | 0, hu => obtain rfl := Option.some.inj hu; exact (hy j hj).1
    | 1, hu => obtain rfl := Option.some.inj hu; exact (hy j hj).2
/-- The rows. -/
theorem outer {n : Nat} {a0 : Option Addr} {len0 cap0 : Nat} {x : DataW H × List MemPlace} (h : DataW.trod enc Try.prog W base (fun _ => true) held n 43 [.slice a0 len0 cap0] = some x) :
    ∃ ls : List (List S76), ls.length = len0 ∧ len0 ≤ cap0 ∧ len0 ≤ maxLen ∧ (∀ s ∈ ls, s.length ≤ maxLen) ∧ Kd.C (Kd.slice 76 k76) W a0 ls.length ls := by
  rcases open_slice1 Try.underlying43 (by kernel_rfl) h with ⟨hcs, _⟩ | ⟨a, len, cap, m, n', V, D, Pl, hcs, _, hl, hm, hmm, _, hx⟩
  · obtain ⟨rfl, rfl, rfl⟩ : a0 = none ∧ len0 = 0 ∧ cap0 = 0 := by simpa using hcs
    exact ⟨[], rfl, Nat.le_refl _, Nat.zero_le _, by simp, rfl, by simp, fun h => absurd h (by simp)⟩
  · obtain ⟨rfl, rfl, rfl⟩ : a0 = some a ∧ len0 = len ∧ cap0 = cap := by simpa using hcs
    have hlm : len0 ≤ m := by rw [hmm]; simpa using hl
    have each : ∀ i, i < len0 → ∃ y : Option Addr × Nat × List S76, V i = .slice y.1 y.2.2.length y.2.1 ∧ y.2.2.length ≤ y.2.1 ∧ y.2.2.length ≤ maxLen ∧ Kd.C k76 W y.1 y.2.2.length y.2.2 := by
      intro i hi
      obtain ⟨A, c, xs, g1, g2, g3, g4⟩ := inner (hx i (by omega)).2
      exact ⟨(A, c, xs), g1, g2, g3, g4⟩
    obtain ⟨y, hy⟩ := choose_lt each
    have hlen : ((List.range len0).map fun i => (y i).2.2).length = len0 := by simp
    refine ⟨(List.range len0).map fun i => (y i).2.2, hlen, hl, Nat.le_trans hl hm, ?_, rfl, by rw [hlen]; exact Nat.le_trans hl hm, fun _ => ⟨a, rfl, fun j p hp => ?_⟩⟩
    · intro s hs
      obtain ⟨i, hi, rfl⟩ := List.mem_map.1 hs
      exact (hy i (List.mem_range.1 hi)).2.2.1
    · have hj : j < len0 := by
        have := (List.getElem?_eq_some_iff.1 hp).1
        simpa using this
      obtain rfl : (y j).2.2 = p := by simpa [hj] using hp
      obtain ⟨g1, g2, g3, g4⟩ := hy j hj
      refine ⟨[V j], rfl, ⟨(y j).1, (y j).2.1, by rw [g1], g2, g4⟩, fun i u hu => ?_⟩
      match i, hu with
      | 0, hu =>
        obtain rfl := Option.some.inj hu
        have := (hx j (by omega)).1
        rw [show j * (Kd.slice 76 k76).sz + 0 = j from by show j * 1 + 0 = j; omega]
        exact this
end
set_option maxRecDepth 100000 in
theorem lifted (os : Os) (started : os.Started) (H : Type) (enc : TypeId × Value → H) :
    ReturnsInHanded {} Try.checked os 4 .any (Rows.fnExactBestCutsSpec.pre6 enc Try.prog Try.f4 Rows.fnExactBestCutsRow.domain false) (Rows.fnExactBestCutsSpec.post enc Try.prog Try.f4 false true false false) := by
  refine returnsInHanded_of_change_sized (C := Try.checked) own started (by kernel_rfl) Try.func4
    (ChangeSpec.witness6 (enc := enc) (C := Try.checked) false ⟨#[], #[.slice none 0 0, .int .i64 0], []⟩ 8 (by kernel_rfl) (by kernel_rfl) (by kernel_rfl) (by kernel_rfl)) ?_
  intro W base args ds gs before hval0 hW hcnd hsz0 _
  have hval : ∀ (j : Nat) t v, Try.f4.params[j]? = some t → args[j]? = some v → Value.okWide Try.prog W .any base t v := hval0
  have hW' := hW
  obtain ⟨p, q, hA0, hV, rfl, hfz, hnd⟩ := hW
  have hA : DataW.TrodAll enc Try.prog W 0 (fun _ => true) true Try.f4.params.toList args.toList ds p := hA0
  rw [Try.params4] at hA hval
  obtain ⟨v0, vs0, d0, ds0, p0, q0, hargs, rfl, rfl, h0, r0⟩ := trodAll_cons hA
  obtain ⟨v1, vs1, d1, ds1, p1, q1, rfl, rfl, rfl, h1, r1⟩ := trodAll_cons r0
  obtain ⟨rfl, rfl, rfl⟩ := trodAll_nil r1
  obtain rfl : args = #[v0, v1] := by cases args; simp_all
  obtain ⟨rfl, rfl⟩ := trodVars_none hV
  obtain ⟨a0, len0, cap0, rfl⟩ := okWide_slice Try.underlying43 (hval 0 43 v0 rfl rfl)
  have k0 := h0
  have lt0 : ∀ x ∈ p0, x.block < W.heap.size := by obtain ⟨m, hm⟩ := k0; exact DataW.trod_lt m _ _ _ hm
  obtain ⟨a1, rfl, rfl, rfl, w1⟩ := open_int Try.underlying2 (hval 1 2 v1 rfl rfl) h1
  obtain ⟨l, hlen, hcap, hmax, hsz, hC⟩ : ∃ ls : List (List S76), ls.length = len0 ∧ len0 ≤ cap0 ∧ len0 ≤ maxLen ∧ (∀ s ∈ ls, s.length ≤ maxLen) ∧ Kd.C (Kd.slice 76 k76) W a0 ls.length ls := by
    obtain ⟨fuel, hf⟩ := h0
    exact outer hf
  clear hA0 hval0 hsz0
  obtain ⟨k, hk⟩ := Pure.FnExactBestCuts l a1 (by rw [hlen]; exact hmax) hsz
  subst hlen
  refine (PFnExactBestCuts.laws_FnExactBestCuts.calls k a0 cap0 l a1 true W hC hcap hk).mono fun e W' ⟨he, bel⟩ => ?_
  subst he
  exact ⟨_, rfl, _, _, _, [], _, [], hW', trodAll_mk1 (shut_bool Try.underlying4 _), (trodAll_cons_mk (Below.trod laidOut (by kernel_rfl) (of_decide_eq_true (by kernel_rfl)) k0 bel lt0) (trodAll_cons_mk (shut_int Try.underlying2 w1) trodAll_mk0)), rfl, bel.frame _, fun h => by cases h⟩
theorem over : Rows.fnExactBestCutsRow.holds Try.pinned (OpenSpec.ofChange Rows.fnExactBestCutsSpec) :=
  OpenClaim.holds_of_wide 4 Try.f4 rfl rfl rfl rfl rfl rfl rfl ⟨rfl, rfl, rfl, rfl, rfl⟩ rfl rfl rfl rfl rfl (by kernel_rfl) Try.func4 (by kernel_rfl)
    (of_decide_eq_true (by kernel_rfl)) (by unfold Func.isWrapper; first | (rw [if_pos (by decide +kernel)]; kernel_rfl) | (rw [if_neg (by decide +kernel)]; exact ⟨rfl, rfl⟩))
    (fun os started H enc _ => lifted os started H enc)
theorem proved : Rows.FnExactBestCutsSaid := over
end Go.Proofs.Ytpngjpiodhpbnaa.fnExactBestCuts
namespace Go.Proofs.Ytpngjpiodhpbnaa
/-- The row, under a short name, for the claim. -/
theorem fnExactBestCuts_holds : Rows.FnExactBestCutsSaid := fnExactBestCuts.proved
end Go.Proofs.Ytpngjpiodhpbnaa
