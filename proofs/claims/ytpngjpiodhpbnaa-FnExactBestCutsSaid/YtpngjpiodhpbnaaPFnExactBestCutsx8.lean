-- Written by a turned copy of the kit's printer (wip/pf).
import Derived.Test.YtpngjpiodhpbnaaPFnExactBestCutsx0
import Derived.Test.YtpngjpiodhpbnaaPFnExactBestCutsx2
import Derived.Test.YtpngjpiodhpbnaaPFnExactBestCutsx4
import Derived.Test.YtpngjpiodhpbnaaPFnExactBestCutsx5
import Derived.Test.YtpngjpiodhpbnaaPFnExactBestCutsx6
import Derived.Test.YtpngjpiodhpbnaaPFnExactBestCutsx7
namespace Go.Proofs.Ytpngjpiodhpbnaa.PFnExactBestCuts
open Go.RowKit Go.Proofs.YtpngjpiodhpbnaaW.PrintWords Go.Proofs.YtpngjpiodhpbnaaW.PrintLast Go.Proofs.YtpngjpiodhpbnaaW.PrintMore
attribute [local go_sem] max2_int min2_int max_two min_two max_three min_three max_four min_four   -- for this text's walks alone
attribute [local go_sem high] feq_fold fne_fold flt_fold fle_fold fgt_fold fge_fold fneg_run fsame_run fstore_run
set_option linter.unusedVariables false
set_option linter.unusedSimpArgs false

/-! ### laws_FnExactBestCuts: function 4 -/
mutual
def laws_FnExactBestCuts.j0 : Nat → List (List (S76)) → Int → List Int → Nat → Bool → List (List (S34)) → List Int → Nat → Bool → Bool → Option (Bool)
  | 0, _, _, _, _, _, _, _, _, _, _ => none
  | k + 1, x0, x1, x6, x7, x8, x9, x10, x11, x12, x57 => if x57 = true then (some false) else ((laws_toCostSS.f k x0).bind fun t265 => ((laws_eqCostSS.f k x9 t265).bind fun t268 => (if t268 = true then ((laws_markCostSS.f k x9 1).bind fun t269 => (if t269 < 0 then (laws_FnExactBestCuts.j1 k x0 x1 x6 x7 x8 x10 true) else ((laws_eqInt64S.f k x10 x6).bind fun t270 => (if t270 = true then ((floatToFloatBits .f32 x11 .f64).bind fun t271 => ((floatToFloatBits .f32 x7 .f64).bind fun t272 => ((laws_sameFloat.f k t271 t272).bind fun t273 => (if t273 = true then (laws_FnExactBestCuts.j1 k x0 x1 x6 x7 x8 x10 (x12 != x8)) else (laws_FnExactBestCuts.j1 k x0 x1 x6 x7 x8 x10 true))))) else (laws_FnExactBestCuts.j1 k x0 x1 x6 x7 x8 x10 true))))) else (some false))))
def laws_FnExactBestCuts.j1 : Nat → List (List (S76)) → Int → List Int → Nat → Bool → List Int → Bool → Option (Bool)
  | 0, _, _, _, _, _, _, _ => none
  | k + 1, x0, x1, x6, x7, x8, x10, x86 => if x86 = true then (some false) else ((laws_markInt64S.f k x10 1).bind fun bt274 => ((laws_heldInt64S.f k bt274.2 1).bind fun t276 => (if t276 < 0 then (some false) else (if t276 = bt274.1 then ((laws_toCostSS.f k x0).bind fun t277 => ((impl_BestCuts.f k t277 x1).bind fun bt280 => ((laws_eqInt64S.f k bt280.1 x6).bind fun t285 => (if t285 = true then ((floatToFloatBits .f32 bt280.2.1 .f64).bind fun t286 => ((floatToFloatBits .f32 x7 .f64).bind fun t287 => ((laws_sameFloat.f k t286 t287).bind fun t288 => (if t288 = true then (laws_FnExactBestCuts.j2 k bt274.2 bt274.1 (bt280.2.2 != x8)) else (laws_FnExactBestCuts.j2 k bt274.2 bt274.1 true))))) else (laws_FnExactBestCuts.j2 k bt274.2 bt274.1 true))))) else (some false)))))
def laws_FnExactBestCuts.j2 : Nat → List Int → Int → Bool → Option (Bool)
  | 0, _, _, _ => none
  | k + 1, x10, x14, x122 => if x122 = true then (some false) else ((laws_heldInt64S.f k x10 1).bind fun t289 => (if t289 < 0 then (some false) else (if t289 = x14 then (some true) else (some false))))
end
def laws_FnExactBestCuts.f (k : Nat) (l0 : List (List (S76))) (a1 : Int) : Option (Bool) := (laws_szCostSS.f k l0 1048576).bind fun t244 => (if t244 < 0 then (some true) else ((laws_toCostSS.f k l0).bind fun t245 => ((spec_BestCuts.f k t245 a1).bind fun bt248 => ((laws_toCostSS.f k l0).bind fun t253 => ((impl_BestCuts.f k t253 a1).bind fun bt256 => ((laws_eqInt64S.f k bt256.1 bt248.1).bind fun t261 => (if t261 = true then ((floatToFloatBits .f32 bt256.2.1 .f64).bind fun t262 => ((floatToFloatBits .f32 bt248.2.1 .f64).bind fun t263 => ((laws_sameFloat.f k t262 t263).bind fun t264 => (if t264 = true then (laws_FnExactBestCuts.j0 k l0 a1 bt248.1 bt248.2.1 bt248.2.2 t253 bt256.1 bt256.2.1 bt256.2.2 (bt256.2.2 != bt248.2.2)) else (laws_FnExactBestCuts.j0 k l0 a1 bt248.1 bt248.2.1 bt248.2.2 t253 bt256.1 bt256.2.1 bt256.2.2 true))))) else (laws_FnExactBestCuts.j0 k l0 a1 bt248.1 bt248.2.1 bt248.2.2 t253 bt256.1 bt256.2.1 bt256.2.2 true))))))))
theorem laws_FnExactBestCuts.mono_l : ∀ k, (∀ y0 y1 y2 y3 y4 y5 y6 y7 y8 y9, LeO (laws_FnExactBestCuts.j0 k y0 y1 y2 y3 y4 y5 y6 y7 y8 y9) (laws_FnExactBestCuts.j0 (k + 1) y0 y1 y2 y3 y4 y5 y6 y7 y8 y9)) ∧ (∀ y0 y1 y2 y3 y4 y5 y6, LeO (laws_FnExactBestCuts.j1 k y0 y1 y2 y3 y4 y5 y6) (laws_FnExactBestCuts.j1 (k + 1) y0 y1 y2 y3 y4 y5 y6)) ∧ (∀ y0 y1 y2, LeO (laws_FnExactBestCuts.j2 k y0 y1 y2) (laws_FnExactBestCuts.j2 (k + 1) y0 y1 y2))
  | 0 => ⟨fun _ _ _ _ _ _ _ _ _ _ r h => by simp [laws_FnExactBestCuts.j0] at h, fun _ _ _ _ _ _ _ r h => by simp [laws_FnExactBestCuts.j1] at h, fun _ _ _ r h => by simp [laws_FnExactBestCuts.j2] at h⟩
  | k + 1 => by
    obtain ⟨ih0, ih1, ih2⟩ := laws_FnExactBestCuts.mono_l k
    refine ⟨?_, ?_, ?_⟩
    · intro y0 y1 y2 y3 y4 y5 y6 y7 y8 y9
      unfold laws_FnExactBestCuts.j0
      repeat' first
      | (with_reducible exact ih0 _ _ _ _ _ _ _ _ _ _)
      | (with_reducible exact ih1 _ _ _ _ _ _ _)
      | (with_reducible exact ih2 _ _ _)
      | (with_reducible exact impl_BestCuts.mono _ _ _)
      | (with_reducible exact laws_eqCostSS.mono _ _ _)
      | (with_reducible exact laws_eqInt64S.mono _ _ _)
      | (with_reducible exact laws_heldInt64S.mono _ _ _)
      | (with_reducible exact laws_markCostSS.mono _ _ _)
      | (with_reducible exact laws_markInt64S.mono _ _ _)
      | (with_reducible exact laws_sameFloat.mono _ _ _)
      | (with_reducible exact laws_szCostSS.mono _ _ _)
      | (with_reducible exact laws_toCostSS.mono _ _)
      | (with_reducible exact spec_BestCuts.mono _ _ _)
      | (with_reducible exact LeO.refl _)
      | (with_reducible exact LeO.none _)
      | (with_reducible refine LeO.ite ?_ ?_)
      | (with_reducible refine LeO.bind ?_ (fun _ => ?_))
      | exact ih0 _ _ _ _ _ _ _ _ _ _
      | exact ih1 _ _ _ _ _ _ _
      | exact ih2 _ _ _
      | exact impl_BestCuts.mono _ _ _
      | exact laws_eqCostSS.mono _ _ _
      | exact laws_eqInt64S.mono _ _ _
      | exact laws_heldInt64S.mono _ _ _
      | exact laws_markCostSS.mono _ _ _
      | exact laws_markInt64S.mono _ _ _
      | exact laws_sameFloat.mono _ _ _
      | exact laws_szCostSS.mono _ _ _
      | exact laws_toCostSS.mono _ _
      | exact spec_BestCuts.mono _ _ _
      | exact LeO.none _
      | refine LeO.ite ?_ ?_
      | refine LeO.bind ?_ (fun _ => ?_)
    · intro y0 y1 y2 y3 y4 y5 y6
      unfold laws_FnExactBestCuts.j1
      repeat' first
      | (with_reducible exact ih0 _ _ _ _ _ _ _ _ _ _)
      | (with_reducible exact ih1 _ _ _ _ _ _ _)
      | (with_reducible exact ih2 _ _ _)
      | (with_reducible exact impl_BestCuts.mono _ _ _)
      | (with_reducible exact laws_eqCostSS.mono _ _ _)
      | (with_reducible exact laws_eqInt64S.mono _ _ _)
      | (with_reducible exact laws_heldInt64S.mono _ _ _)
      | (with_reducible exact laws_markCostSS.mono _ _ _)
      | (with_reducible exact laws_markInt64S.mono _ _ _)
      | (with_reducible exact laws_sameFloat.mono _ _ _)
      | (with_reducible exact laws_szCostSS.mono _ _ _)
      | (with_reducible exact laws_toCostSS.mono _ _)
      | (with_reducible exact spec_BestCuts.mono _ _ _)
      | (with_reducible exact LeO.refl _)
      | (with_reducible exact LeO.none _)
      | (with_reducible refine LeO.ite ?_ ?_)
      | (with_reducible refine LeO.bind ?_ (fun _ => ?_))
      | exact ih0 _ _ _ _ _ _ _ _ _ _
      | exact ih1 _ _ _ _ _ _ _
      | exact ih2 _ _ _
      | exact impl_BestCuts.mono _ _ _
      | exact laws_eqCostSS.mono _ _ _
      | exact laws_eqInt64S.mono _ _ _
      | exact laws_heldInt64S.mono _ _ _
      | exact laws_markCostSS.mono _ _ _
      | exact laws_markInt64S.mono _ _ _
      | exact laws_sameFloat.mono _ _ _
      | exact laws_szCostSS.mono _ _ _
      | exact laws_toCostSS.mono _ _
      | exact spec_BestCuts.mono _ _ _
      | exact LeO.none _
      | refine LeO.ite ?_ ?_
      | refine LeO.bind ?_ (fun _ => ?_)
    · intro y0 y1 y2
      unfold laws_FnExactBestCuts.j2
      repeat' first
      | (with_reducible exact ih0 _ _ _ _ _ _ _ _ _ _)
      | (with_reducible exact ih1 _ _ _ _ _ _ _)
      | (with_reducible exact ih2 _ _ _)
      | (with_reducible exact impl_BestCuts.mono _ _ _)
      | (with_reducible exact laws_eqCostSS.mono _ _ _)
      | (with_reducible exact laws_eqInt64S.mono _ _ _)
      | (with_reducible exact laws_heldInt64S.mono _ _ _)
      | (with_reducible exact laws_markCostSS.mono _ _ _)
      | (with_reducible exact laws_markInt64S.mono _ _ _)
      | (with_reducible exact laws_sameFloat.mono _ _ _)
      | (with_reducible exact laws_szCostSS.mono _ _ _)
      | (with_reducible exact laws_toCostSS.mono _ _)
      | (with_reducible exact spec_BestCuts.mono _ _ _)
      | (with_reducible exact LeO.refl _)
      | (with_reducible exact LeO.none _)
      | (with_reducible refine LeO.ite ?_ ?_)
      | (with_reducible refine LeO.bind ?_ (fun _ => ?_))
      | exact ih0 _ _ _ _ _ _ _ _ _ _
      | exact ih1 _ _ _ _ _ _ _
      | exact ih2 _ _ _
      | exact impl_BestCuts.mono _ _ _
      | exact laws_eqCostSS.mono _ _ _
      | exact laws_eqInt64S.mono _ _ _
      | exact laws_heldInt64S.mono _ _ _
      | exact laws_markCostSS.mono _ _ _
      | exact laws_markInt64S.mono _ _ _
      | exact laws_sameFloat.mono _ _ _
      | exact laws_szCostSS.mono _ _ _
      | exact laws_toCostSS.mono _ _
      | exact spec_BestCuts.mono _ _ _
      | exact LeO.none _
      | refine LeO.ite ?_ ?_
      | refine LeO.bind ?_ (fun _ => ?_)
theorem laws_FnExactBestCuts.mono : ∀ a0 a1 k, LeO (laws_FnExactBestCuts.f k a0 a1) (laws_FnExactBestCuts.f (k + 1) a0 a1) := by
  intro a0 a1 k
  obtain ⟨ih0, ih1, ih2⟩ := laws_FnExactBestCuts.mono_l k
  unfold laws_FnExactBestCuts.f
  repeat' first
      | (with_reducible exact ih0 _ _ _ _ _ _ _ _ _ _)
      | (with_reducible exact ih1 _ _ _ _ _ _ _)
      | (with_reducible exact ih2 _ _ _)
      | (with_reducible exact impl_BestCuts.mono _ _ _)
      | (with_reducible exact laws_eqCostSS.mono _ _ _)
      | (with_reducible exact laws_eqInt64S.mono _ _ _)
      | (with_reducible exact laws_heldInt64S.mono _ _ _)
      | (with_reducible exact laws_markCostSS.mono _ _ _)
      | (with_reducible exact laws_markInt64S.mono _ _ _)
      | (with_reducible exact laws_sameFloat.mono _ _ _)
      | (with_reducible exact laws_szCostSS.mono _ _ _)
      | (with_reducible exact laws_toCostSS.mono _ _)
      | (with_reducible exact spec_BestCuts.mono _ _ _)
      | (with_reducible exact LeO.refl _)
      | (with_reducible exact LeO.none _)
      | (with_reducible refine LeO.ite ?_ ?_)
      | (with_reducible refine LeO.bind ?_ (fun _ => ?_))
      | exact ih0 _ _ _ _ _ _ _ _ _ _
      | exact ih1 _ _ _ _ _ _ _
      | exact ih2 _ _ _
      | exact impl_BestCuts.mono _ _ _
      | exact laws_eqCostSS.mono _ _ _
      | exact laws_eqInt64S.mono _ _ _
      | exact laws_heldInt64S.mono _ _ _
      | exact laws_markCostSS.mono _ _ _
      | exact laws_markInt64S.mono _ _ _
      | exact laws_sameFloat.mono _ _ _
      | exact laws_szCostSS.mono _ _ _
      | exact laws_toCostSS.mono _ _
      | exact spec_BestCuts.mono _ _ _
      | exact LeO.none _
      | refine LeO.ite ?_ ?_
      | refine LeO.bind ?_ (fun _ => ?_)
set_option maxHeartbeats 8000000 in
set_option maxRecDepth 100000 in
theorem laws_FnExactBestCuts.calls (k : Nat) (A0 : Option Addr) (c0 : Nat) (l0 : List (List (S76))) (a1 : Int) (r : Bool) (w : World) (hr0 : Kd.C (Kd.slice 76 k76) w A0 l0.length l0) (hc0 : l0.length ≤ c0) (h : laws_FnExactBestCuts.f k l0 a1 = some r) :
    Calls Try.prog 4 #[.slice A0 l0.length c0, .int .i64 a1] w fun e w' => e = .returned (.bool r) ∧ Below w.heap.size w w' := by
 have HR0 := Aside0.mk hr0
 have HC0 := Aside0.mk hc0
 clear hr0 hc0
 have HB := Aside0.mk (Below.refl w.heap.size w)
 have H : ((laws_szCostSS.f k l0 1048576).bind fun t244 => (if t244 < 0 then (some true) else ((laws_toCostSS.f k l0).bind fun t245 => ((spec_BestCuts.f k t245 a1).bind fun bt248 => ((laws_toCostSS.f k l0).bind fun t253 => ((impl_BestCuts.f k t253 a1).bind fun bt256 => ((laws_eqInt64S.f k bt256.1 bt248.1).bind fun t261 => (if t261 = true then ((floatToFloatBits .f32 bt256.2.1 .f64).bind fun t262 => ((floatToFloatBits .f32 bt248.2.1 .f64).bind fun t263 => ((laws_sameFloat.f k t262 t263).bind fun t264 => (if t264 = true then (laws_FnExactBestCuts.j0 k l0 a1 bt248.1 bt248.2.1 bt248.2.2 t253 bt256.1 bt256.2.1 bt256.2.2 (bt256.2.2 != bt248.2.2)) else (laws_FnExactBestCuts.j0 k l0 a1 bt248.1 bt248.2.1 bt248.2.2 t253 bt256.1 bt256.2.1 bt256.2.2 true))))) else (laws_FnExactBestCuts.j0 k l0 a1 bt248.1 bt248.2.1 bt248.2.2 t253 bt256.1 bt256.2.1 bt256.2.2 true))))))))) = some r := h
 clear h
 replace H := Option.bind_eq_some_iff.mp H
 obtain ⟨t244, A30, H⟩ := H
 replace H : (if t244 < 0 then (some true) else ((laws_toCostSS.f k l0).bind fun t245 => ((spec_BestCuts.f k t245 a1).bind fun bt248 => ((laws_toCostSS.f k l0).bind fun t253 => ((impl_BestCuts.f k t253 a1).bind fun bt256 => ((laws_eqInt64S.f k bt256.1 bt248.1).bind fun t261 => (if t261 = true then ((floatToFloatBits .f32 bt256.2.1 .f64).bind fun t262 => ((floatToFloatBits .f32 bt248.2.1 .f64).bind fun t263 => ((laws_sameFloat.f k t262 t263).bind fun t264 => (if t264 = true then (laws_FnExactBestCuts.j0 k l0 a1 bt248.1 bt248.2.1 bt248.2.2 t253 bt256.1 bt256.2.1 bt256.2.2 (bt256.2.2 != bt248.2.2)) else (laws_FnExactBestCuts.j0 k l0 a1 bt248.1 bt248.2.1 bt248.2.2 t253 bt256.1 bt256.2.1 bt256.2.2 true))))) else (laws_FnExactBestCuts.j0 k l0 a1 bt248.1 bt248.2.1 bt248.2.2 t253 bt256.1 bt256.2.1 bt256.2.2 true)))))))) = some r := H
 have A3 := Aside0.mk A30
 clear A30
 by_cases c4 : t244 < 0
 ·rw [if_pos c4] at H
  have c4b0 : decide (t244 < 0) = true := decide_eq_true c4
  clear c4
  obtain rfl := Option.some.inj H
  go_enter Try.func4, Try.ntmps4
  go_wp2_with (first | ((with_reducible refine gate_callee (f := 16) rfl ?_); refine goesL_ (some 21) rfl rfl Try.func16 (by kernel_rfl) rfl #[.slice A0 l0.length c0, .int .i64 1048576] rfl (by (try simp only [List.map_toArray, List.map_cons, List.map_nil]); first | done | rfl | (simp only [List.length_drop, List.length_take]; rfl)) ?_; (with_reducible refine (laws_szCostSS.calls k _ _ l0 1048576 t244 _ ?side1 ?side2 A3.out).mono ?_); (case side1 => repeat (first | exact HR0.out | (with_reducible refine Kd.C_alloc ?_ _) | (with_reducible refine Kd.C_drewN ?_ _) | (with_reducible refine Kd.C_drew ?_))); (case side2 => exact HC0.out); rintro e w' ⟨rfl, ⟨nd, rfl⟩⟩; refine ⟨_, rfl, ?_⟩))
  go_ret
  exact ⟨by first | rfl | (simp [errW_none, errW_some] <;> rfl) | (simp [*, errW_none, errW_some] <;> rfl), by repeat (first | (with_reducible first | exact HB.out | apply below_alloc | apply pw_below_drewN | apply below_drew1) | exact HB.out)⟩
 rw [if_neg c4] at H
 have c4b0 : decide (t244 < 0) = false := decide_eq_false c4
 clear c4
 replace H := Option.bind_eq_some_iff.mp H
 obtain ⟨t245, A50, H⟩ := H
 replace H : ((spec_BestCuts.f k t245 a1).bind fun bt248 => ((laws_toCostSS.f k l0).bind fun t253 => ((impl_BestCuts.f k t253 a1).bind fun bt256 => ((laws_eqInt64S.f k bt256.1 bt248.1).bind fun t261 => (if t261 = true then ((floatToFloatBits .f32 bt256.2.1 .f64).bind fun t262 => ((floatToFloatBits .f32 bt248.2.1 .f64).bind fun t263 => ((laws_sameFloat.f k t262 t263).bind fun t264 => (if t264 = true then (laws_FnExactBestCuts.j0 k l0 a1 bt248.1 bt248.2.1 bt248.2.2 t253 bt256.1 bt256.2.1 bt256.2.2 (bt256.2.2 != bt248.2.2)) else (laws_FnExactBestCuts.j0 k l0 a1 bt248.1 bt248.2.1 bt248.2.2 t253 bt256.1 bt256.2.1 bt256.2.2 true))))) else (laws_FnExactBestCuts.j0 k l0 a1 bt248.1 bt248.2.1 bt248.2.2 t253 bt256.1 bt256.2.1 bt256.2.2 true)))))) = some r := H
 have A5 := Aside0.mk A50
 clear A50
 replace H := Option.bind_eq_some_iff.mp H
 obtain ⟨⟨t248, t249, t250⟩, A60, H⟩ := H
 replace H : ((laws_toCostSS.f k l0).bind fun t253 => ((impl_BestCuts.f k t253 a1).bind fun bt256 => ((laws_eqInt64S.f k bt256.1 t248).bind fun t261 => (if t261 = true then ((floatToFloatBits .f32 bt256.2.1 .f64).bind fun t262 => ((floatToFloatBits .f32 t249 .f64).bind fun t263 => ((laws_sameFloat.f k t262 t263).bind fun t264 => (if t264 = true then (laws_FnExactBestCuts.j0 k l0 a1 t248 t249 t250 t253 bt256.1 bt256.2.1 bt256.2.2 (bt256.2.2 != t250)) else (laws_FnExactBestCuts.j0 k l0 a1 t248 t249 t250 t253 bt256.1 bt256.2.1 bt256.2.2 true))))) else (laws_FnExactBestCuts.j0 k l0 a1 t248 t249 t250 t253 bt256.1 bt256.2.1 bt256.2.2 true))))) = some r := H
 have A6 := Aside0.mk A60
 clear A60
 replace H := Option.bind_eq_some_iff.mp H
 obtain ⟨t253, A70, H⟩ := H
 replace H : ((impl_BestCuts.f k t253 a1).bind fun bt256 => ((laws_eqInt64S.f k bt256.1 t248).bind fun t261 => (if t261 = true then ((floatToFloatBits .f32 bt256.2.1 .f64).bind fun t262 => ((floatToFloatBits .f32 t249 .f64).bind fun t263 => ((laws_sameFloat.f k t262 t263).bind fun t264 => (if t264 = true then (laws_FnExactBestCuts.j0 k l0 a1 t248 t249 t250 t253 bt256.1 bt256.2.1 bt256.2.2 (bt256.2.2 != t250)) else (laws_FnExactBestCuts.j0 k l0 a1 t248 t249 t250 t253 bt256.1 bt256.2.1 bt256.2.2 true))))) else (laws_FnExactBestCuts.j0 k l0 a1 t248 t249 t250 t253 bt256.1 bt256.2.1 bt256.2.2 true)))) = some r := H
 have A7 := Aside0.mk A70
 clear A70
 replace H := Option.bind_eq_some_iff.mp H
 obtain ⟨⟨t256, t257, t258⟩, A80, H⟩ := H
 replace H : ((laws_eqInt64S.f k t256 t248).bind fun t261 => (if t261 = true then ((floatToFloatBits .f32 t257 .f64).bind fun t262 => ((floatToFloatBits .f32 t249 .f64).bind fun t263 => ((laws_sameFloat.f k t262 t263).bind fun t264 => (if t264 = true then (laws_FnExactBestCuts.j0 k l0 a1 t248 t249 t250 t253 t256 t257 t258 (t258 != t250)) else (laws_FnExactBestCuts.j0 k l0 a1 t248 t249 t250 t253 t256 t257 t258 true))))) else (laws_FnExactBestCuts.j0 k l0 a1 t248 t249 t250 t253 t256 t257 t258 true))) = some r := H
 have A8 := Aside0.mk A80
 clear A80
 have HC9 := Aside0.mk H
 clear H
 go_enter Try.func4, Try.ntmps4
 go_upto_region 8 with (first | ((with_reducible refine gate_callee (f := 16) rfl ?_); refine goesL_ (some 21) rfl rfl Try.func16 (by kernel_rfl) rfl #[.slice A0 l0.length c0, .int .i64 1048576] rfl (by (try simp only [List.map_toArray, List.map_cons, List.map_nil]); first | done | rfl | (simp only [List.length_drop, List.length_take]; rfl)) ?_; (with_reducible refine (laws_szCostSS.calls k _ _ l0 1048576 t244 _ ?side1 ?side2 A3.out).mono ?_); (case side1 => repeat (first | exact HR0.out | (with_reducible refine Kd.C_alloc ?_ _) | (with_reducible refine Kd.C_drewN ?_ _) | (with_reducible refine Kd.C_drew ?_))); (case side2 => exact HC0.out); rintro e w' ⟨rfl, ⟨nd, rfl⟩⟩; refine ⟨_, rfl, ?_⟩) | ((with_reducible refine gate_callee (f := 17) rfl ?_); refine goesL_ (some 26) rfl rfl Try.func17 (by kernel_rfl) rfl #[.slice A0 l0.length c0] rfl (by (try simp only [List.map_toArray, List.map_cons, List.map_nil]); first | done | rfl | (simp only [List.length_drop, List.length_take]; rfl)) ?_; (with_reducible refine (laws_toCostSS.calls k _ _ l0 t245 _ ?side1 ?side2 A5.out).mono ?_); (case side1 => repeat (first | exact HR0.out | (with_reducible refine Kd.C_alloc ?_ _) | (with_reducible refine Kd.C_drewN ?_ _) | (with_reducible refine Kd.C_drew ?_))); (case side2 => exact HC0.out); rintro e w10 ⟨v246, rfl, ho0, hb⟩; refine ⟨_, rfl, ?_⟩; have n0_ := Aside0.mk (Kd.S_lower ho0 (below_size (by repeat (first | (with_reducible first | exact HB.out | apply below_alloc | apply pw_below_drewN | apply below_drew1) | exact HB.out)))); have n1_ := Aside0.mk (below_step (by repeat (first | (with_reducible first | exact HB.out | apply below_alloc | apply pw_below_drewN | apply below_drew1) | exact HB.out)) hb); clear HB; have HO247 := n0_; have HB := n1_; clear n0_ n1_; (try clear hb); (try clear hb2); (try clear hk); (try clear hi); (try clear ho0); obtain ⟨Ao11, co11, eo11⟩ := Kd.S_slice HO247.out; subst eo11) | ((with_reducible refine gate_callee (f := 11) rfl ?_); refine goesL_ (some 28) rfl rfl Try.func11 (by kernel_rfl) rfl #[.slice Ao11 t245.length co11, .int .i64 a1] rfl (by (try simp only [List.map_toArray, List.map_cons, List.map_nil]); first | done | rfl | (simp only [List.length_drop, List.length_take]; rfl)) ?_; (with_reducible refine (spec_BestCuts.calls k _ _ t245 a1 t248 t249 t250 _ ?side1 ?side2 A6.out).mono ?_); (case side1 => repeat (first | exact (Kd.S_reads' HO247.out).2.2 | (with_reducible refine Kd.C_alloc ?_ _) | (with_reducible refine Kd.C_drewN ?_ _) | (with_reducible refine Kd.C_drew ?_))); (case side2 => exact (Kd.S_reads' HO247.out).2.1); rintro e w12 ⟨v251, rfl, ho0, hb⟩; refine ⟨_, rfl, ?_⟩; have n0_ := Aside0.mk (Kd.S_below (by (with_reducible repeat (first | apply Kd.S_alloc | apply Kd.S_drewN | apply Kd.S_drew)); exact HO247.out) hb); have n1_ := Aside0.mk (Kd.R_lower ho0 (below_size (by repeat (first | (with_reducible first | exact HB.out | apply below_alloc | apply pw_below_drewN | apply below_drew1) | exact HB.out)))); have n2_ := Aside0.mk (below_step (by repeat (first | (with_reducible first | exact HB.out | apply below_alloc | apply pw_below_drewN | apply below_drew1) | exact HB.out)) hb); clear HO247; clear HB; have HO247 := n0_; have HO252 := n1_; have HB := n2_; clear n0_ n1_ n2_; (try clear hb); (try clear hb2); (try clear hk); (try clear hi); (try clear ho0)) | ((with_reducible refine gate_callee (f := 17) rfl ?_); refine goesL_ (some 33) rfl rfl Try.func17 (by kernel_rfl) rfl #[.slice A0 l0.length c0] rfl (by (try simp only [List.map_toArray, List.map_cons, List.map_nil]); first | done | rfl | (simp only [List.length_drop, List.length_take]; rfl)) ?_; (with_reducible refine (laws_toCostSS.calls k _ _ l0 t253 _ ?side1 ?side2 A7.out).mono ?_); (case side1 => repeat (first | exact (Kd.C_below HR0.out HB.out) | (with_reducible refine Kd.C_alloc ?_ _) | (with_reducible refine Kd.C_drewN ?_ _) | (with_reducible refine Kd.C_drew ?_))); (case side2 => exact HC0.out); rintro e w13 ⟨v254, rfl, ho0, hb⟩; refine ⟨_, rfl, ?_⟩; have n0_ := Aside0.mk (Kd.S_elder' (by (with_reducible repeat (first | apply Kd.S_alloc | apply Kd.S_drewN | apply Kd.S_drew)); exact HO247.out) (Kd.S_base ho0) hb); have n1_ := Aside0.mk (Kd.R_below (by (with_reducible repeat (first | apply Kd.R_alloc | apply Kd.R_drewN | apply Kd.R_drew)); exact HO252.out) hb); have n2_ := Aside0.mk (Kd.S_lower (Kd.S_new' ho0 (Kd.S_lt (by (with_reducible repeat (first | apply Kd.S_alloc | apply Kd.S_drewN | apply Kd.S_drew)); exact HO247.out))) (below_size (by repeat (first | (with_reducible first | exact HB.out | apply below_alloc | apply pw_below_drewN | apply below_drew1) | exact HB.out)))); have n3_ := Aside0.mk (below_step (by repeat (first | (with_reducible first | exact HB.out | apply below_alloc | apply pw_below_drewN | apply below_drew1) | exact HB.out)) hb); clear HO247; clear HO252; clear HB; have HO247 := n0_; have HO252 := n1_; have HO255 := n2_; have HB := n3_; clear n0_ n1_ n2_ n3_; (try clear hb); (try clear hb2); (try clear hk); (try clear hi); (try clear ho0); obtain ⟨Ao14, co14, eo14⟩ := Kd.S_slice HO255.out; subst eo14) | ((with_reducible refine gate_callee (f := 9) rfl ?_); refine goesL_ (some 37) rfl rfl Try.func9 (by kernel_rfl) rfl #[.slice Ao14 t253.length co14, .int .i64 a1] rfl (by (try simp only [List.map_toArray, List.map_cons, List.map_nil]); first | done | rfl | (simp only [List.length_drop, List.length_take]; rfl)) ?_; (with_reducible refine (impl_BestCuts.calls k _ _ t253 a1 t256 t257 t258 _ ?side1 ?side2 A8.out).mono ?_); (case side1 => repeat (first | exact (Kd.S_reads' HO255.out).2.2 | (with_reducible refine Kd.C_alloc ?_ _) | (with_reducible refine Kd.C_drewN ?_ _) | (with_reducible refine Kd.C_drew ?_))); (case side2 => exact (Kd.S_reads' HO255.out).2.1); rintro e w15 ⟨v259, rfl, ho0, hb⟩; refine ⟨_, rfl, ?_⟩; have n0_ := Aside0.mk (Kd.S_below (by (with_reducible repeat (first | apply Kd.S_alloc | apply Kd.S_drewN | apply Kd.S_drew)); exact HO247.out) hb); have n1_ := Aside0.mk (Kd.R_elder' (by (with_reducible repeat (first | apply Kd.R_alloc | apply Kd.R_drewN | apply Kd.R_drew)); exact HO252.out) (Kd.R_base ho0) hb); have n2_ := Aside0.mk (Kd.S_below (by (with_reducible repeat (first | apply Kd.S_alloc | apply Kd.S_drewN | apply Kd.S_drew)); exact HO255.out) hb); have n3_ := Aside0.mk (Kd.R_lower (Kd.R_new' ho0 (Kd.R_lt (by (with_reducible repeat (first | apply Kd.R_alloc | apply Kd.R_drewN | apply Kd.R_drew)); exact HO252.out))) (below_size (by repeat (first | (with_reducible first | exact HB.out | apply below_alloc | apply pw_below_drewN | apply below_drew1) | exact HB.out)))); have n4_ := Aside0.mk (below_step (by repeat (first | (with_reducible first | exact HB.out | apply below_alloc | apply pw_below_drewN | apply below_drew1) | exact HB.out)) hb); clear HO247; clear HO252; clear HO255; clear HB; have HO247 := n0_; have HO252 := n1_; have HO255 := n2_; have HO260 := n3_; have HB := n4_; clear n0_ n1_ n2_ n3_ n4_; (try clear hb); (try clear hb2); (try clear hk); (try clear hi); (try clear ho0)))
 (try simp only [Act.put, List.setIfInBounds_toArray, List.set_cons_zero, List.set_cons_succ])
 go_cut [57] (fun v57 wc => ∃ (kq : Nat) (x57_8 : Bool), v57 = .bool x57_8 ∧ Aside0 (laws_FnExactBestCuts.j0 kq l0 a1 t248 t249 t250 t253 t256 t257 t258 x57_8 = some r) ∧ Aside0 (kq ≤ k) ∧ Aside0 (Kd.R (Kd.int .i64) 2 wc w.heap.size (fun k_ => some k_ ≠ (v259 : Value).ownBlock) v251 t248) ∧ Aside0 (Kd.S (Kd.slice 34 k34) 32 wc w.heap.size (fun _ => True) (.slice Ao14 t253.length co14) t253) ∧ Aside0 (Kd.R (Kd.int .i64) 2 wc w.heap.size (fun k_ => some k_ ≠ (v251 : Value).ownBlock) v259 t256) ∧ Aside0 (Below w.heap.size w wc))
 case first =>
  have H := HC9.out
  clear HC9
  replace H := Option.bind_eq_some_iff.mp H
  obtain ⟨t261, A160, H⟩ := H
  replace H : (if t261 = true then ((floatToFloatBits .f32 t257 .f64).bind fun t262 => ((floatToFloatBits .f32 t249 .f64).bind fun t263 => ((laws_sameFloat.f k t262 t263).bind fun t264 => (if t264 = true then (laws_FnExactBestCuts.j0 k l0 a1 t248 t249 t250 t253 t256 t257 t258 (t258 != t250)) else (laws_FnExactBestCuts.j0 k l0 a1 t248 t249 t250 t253 t256 t257 t258 true))))) else (laws_FnExactBestCuts.j0 k l0 a1 t248 t249 t250 t253 t256 t257 t258 true)) = some r := H
  have A16 := Aside0.mk A160
  clear A160
  by_cases c17 : t261 = true
  rotate_left
  ·replace c17 := Bool.eq_false_iff.mpr c17
   subst c17
   have H1 : (laws_FnExactBestCuts.j0 k l0 a1 t248 t249 t250 t253 t256 t257 t258 true) = some r := by rw [if_neg (show ¬ (false = true) by decide)] at H; exact H
   clear H
   have H := H1
   clear H1
   have H' := Aside0.mk H
   clear H
   obtain ⟨Ao26, co26, eo26⟩ := Kd.R_slice HO260.out
   subst eo26
   obtain ⟨Ao27, co27, eo27⟩ := Kd.R_slice HO252.out
   subst eo27
   go_wp2_with (first | ((with_reducible refine gate_callee (f := 18) rfl ?_); refine goesL_ (some 43) rfl rfl Try.func18 (by kernel_rfl) rfl #[.slice Ao26 t256.length co26, .slice Ao27 t248.length co27] rfl (by (try simp only [List.map_toArray, List.map_cons, List.map_nil]); first | done | rfl | (simp only [List.length_drop, List.length_take]; rfl)) ?_; (with_reducible refine (laws_eqInt64S.calls k _ _ t256 _ _ t248 false _ ?side1 ?side2 ?side3 ?side4 A16.out).mono ?_); (case side1 => repeat (first | exact (Kd.R_reads' HO260.out).2.2 | (with_reducible refine Kd.C_alloc ?_ _) | (with_reducible refine Kd.C_drewN ?_ _) | (with_reducible refine Kd.C_drew ?_))); (case side2 => exact (Kd.R_reads' HO260.out).2.1); (case side3 => repeat (first | exact (Kd.R_reads' HO252.out).2.2 | (with_reducible refine Kd.C_alloc ?_ _) | (with_reducible refine Kd.C_drewN ?_ _) | (with_reducible refine Kd.C_drew ?_))); (case side4 => exact (Kd.R_reads' HO252.out).2.1); rintro e w' ⟨rfl, ⟨nd, rfl⟩⟩; refine ⟨_, rfl, ?_⟩))
   go_meet
   case rel => exact ⟨_, (true), (by first|rfl|(simp; done)|(simp [*]; done)), H', ⟨by first | omega | exact Nat.le_refl _⟩, ⟨by (with_reducible repeat (first | apply Kd.R_alloc | apply Kd.R_drewN | apply Kd.R_drew)); exact Kd.R_mono HO252.out (fun _ hk => hk.2)⟩, ⟨by (with_reducible repeat (first | apply Kd.S_alloc | apply Kd.S_drewN | apply Kd.S_drew)); exact Kd.S_mono HO255.out (fun _ hk => trivial)⟩, ⟨by (with_reducible repeat (first | apply Kd.R_alloc | apply Kd.R_drewN | apply Kd.R_drew)); exact Kd.R_mono HO260.out (fun _ hk => hk.2)⟩, ⟨by repeat (first | (with_reducible first | exact HB.out | apply below_alloc | apply pw_below_drewN | apply below_drew1) | exact HB.out)⟩⟩
  subst c17
  have H1 : ((floatToFloatBits .f32 t257 .f64).bind fun t262 => ((floatToFloatBits .f32 t249 .f64).bind fun t263 => ((laws_sameFloat.f k t262 t263).bind fun t264 => (if t264 = true then (laws_FnExactBestCuts.j0 k l0 a1 t248 t249 t250 t253 t256 t257 t258 (t258 != t250)) else (laws_FnExactBestCuts.j0 k l0 a1 t248 t249 t250 t253 t256 t257 t258 true))))) = some r := by rw [if_pos rfl] at H; exact H
  clear H
  have H := H1
  clear H1
  replace H := Option.bind_eq_some_iff.mp H
  obtain ⟨t262, F180, H⟩ := H
  replace H : ((floatToFloatBits .f32 t249 .f64).bind fun t263 => ((laws_sameFloat.f k t262 t263).bind fun t264 => (if t264 = true then (laws_FnExactBestCuts.j0 k l0 a1 t248 t249 t250 t253 t256 t257 t258 (t258 != t250)) else (laws_FnExactBestCuts.j0 k l0 a1 t248 t249 t250 t253 t256 t257 t258 true)))) = some r := H
  have F18 := run_float_float (P := Try.prog) F180 26 31 (by kernel_rfl) (by kernel_rfl)
  clear F180
  replace H := Option.bind_eq_some_iff.mp H
  obtain ⟨t263, F190, H⟩ := H
  replace H : ((laws_sameFloat.f k t262 t263).bind fun t264 => (if t264 = true then (laws_FnExactBestCuts.j0 k l0 a1 t248 t249 t250 t253 t256 t257 t258 (t258 != t250)) else (laws_FnExactBestCuts.j0 k l0 a1 t248 t249 t250 t253 t256 t257 t258 true))) = some r := H
  have F19 := run_float_float (P := Try.prog) F190 26 31 (by kernel_rfl) (by kernel_rfl)
  clear F190
  replace H := Option.bind_eq_some_iff.mp H
  obtain ⟨t264, A200, H⟩ := H
  replace H : (if t264 = true then (laws_FnExactBestCuts.j0 k l0 a1 t248 t249 t250 t253 t256 t257 t258 (t258 != t250)) else (laws_FnExactBestCuts.j0 k l0 a1 t248 t249 t250 t253 t256 t257 t258 true)) = some r := H
  have A20 := Aside0.mk A200
  clear A200
  by_cases c21 : t264 = true
  ·subst c21
   have H1 : (laws_FnExactBestCuts.j0 k l0 a1 t248 t249 t250 t253 t256 t257 t258 (t258 != t250)) = some r := by rw [if_pos rfl] at H; exact H
   clear H
   have H := H1
   clear H1
   have H' := Aside0.mk H
   clear H
   obtain ⟨Ao22, co22, eo22⟩ := Kd.R_slice HO260.out
   subst eo22
   obtain ⟨Ao23, co23, eo23⟩ := Kd.R_slice HO252.out
   subst eo23
   go_wp2_with (first | ((with_reducible refine gate_callee (f := 18) rfl ?_); refine goesL_ (some 43) rfl rfl Try.func18 (by kernel_rfl) rfl #[.slice Ao22 t256.length co22, .slice Ao23 t248.length co23] rfl (by (try simp only [List.map_toArray, List.map_cons, List.map_nil]); first | done | rfl | (simp only [List.length_drop, List.length_take]; rfl)) ?_; (with_reducible refine (laws_eqInt64S.calls k _ _ t256 _ _ t248 true _ ?side1 ?side2 ?side3 ?side4 A16.out).mono ?_); (case side1 => repeat (first | exact (Kd.R_reads' HO260.out).2.2 | (with_reducible refine Kd.C_alloc ?_ _) | (with_reducible refine Kd.C_drewN ?_ _) | (with_reducible refine Kd.C_drew ?_))); (case side2 => exact (Kd.R_reads' HO260.out).2.1); (case side3 => repeat (first | exact (Kd.R_reads' HO252.out).2.2 | (with_reducible refine Kd.C_alloc ?_ _) | (with_reducible refine Kd.C_drewN ?_ _) | (with_reducible refine Kd.C_drew ?_))); (case side4 => exact (Kd.R_reads' HO252.out).2.1); rintro e w' ⟨rfl, ⟨nd, rfl⟩⟩; refine ⟨_, rfl, ?_⟩) | (go_at_call 19; (with_reducible refine (laws_sameFloat.calls k t262 t263 true _ A20.out).mono ?_); rintro e w' ⟨rfl, ⟨nd, rfl⟩⟩))
   go_meet
   case rel => exact ⟨_, ((t258 != t250)), (by first|rfl|(simp; done)|(simp [*]; done)), H', ⟨by first | omega | exact Nat.le_refl _⟩, ⟨by (with_reducible repeat (first | apply Kd.R_alloc | apply Kd.R_drewN | apply Kd.R_drew)); exact Kd.R_mono HO252.out (fun _ hk => hk.2)⟩, ⟨by (with_reducible repeat (first | apply Kd.S_alloc | apply Kd.S_drewN | apply Kd.S_drew)); exact Kd.S_mono HO255.out (fun _ hk => trivial)⟩, ⟨by (with_reducible repeat (first | apply Kd.R_alloc | apply Kd.R_drewN | apply Kd.R_drew)); exact Kd.R_mono HO260.out (fun _ hk => hk.2)⟩, ⟨by repeat (first | (with_reducible first | exact HB.out | apply below_alloc | apply pw_below_drewN | apply below_drew1) | exact HB.out)⟩⟩
  replace c21 := Bool.eq_false_iff.mpr c21
  subst c21
  have H1 : (laws_FnExactBestCuts.j0 k l0 a1 t248 t249 t250 t253 t256 t257 t258 true) = some r := by rw [if_neg (show ¬ (false = true) by decide)] at H; exact H
  clear H
  have H := H1
  clear H1
  have H' := Aside0.mk H
  clear H
  obtain ⟨Ao24, co24, eo24⟩ := Kd.R_slice HO260.out
  subst eo24
  obtain ⟨Ao25, co25, eo25⟩ := Kd.R_slice HO252.out
  subst eo25
  go_wp2_with (first | ((with_reducible refine gate_callee (f := 18) rfl ?_); refine goesL_ (some 43) rfl rfl Try.func18 (by kernel_rfl) rfl #[.slice Ao24 t256.length co24, .slice Ao25 t248.length co25] rfl (by (try simp only [List.map_toArray, List.map_cons, List.map_nil]); first | done | rfl | (simp only [List.length_drop, List.length_take]; rfl)) ?_; (with_reducible refine (laws_eqInt64S.calls k _ _ t256 _ _ t248 true _ ?side1 ?side2 ?side3 ?side4 A16.out).mono ?_); (case side1 => repeat (first | exact (Kd.R_reads' HO260.out).2.2 | (with_reducible refine Kd.C_alloc ?_ _) | (with_reducible refine Kd.C_drewN ?_ _) | (with_reducible refine Kd.C_drew ?_))); (case side2 => exact (Kd.R_reads' HO260.out).2.1); (case side3 => repeat (first | exact (Kd.R_reads' HO252.out).2.2 | (with_reducible refine Kd.C_alloc ?_ _) | (with_reducible refine Kd.C_drewN ?_ _) | (with_reducible refine Kd.C_drew ?_))); (case side4 => exact (Kd.R_reads' HO252.out).2.1); rintro e w' ⟨rfl, ⟨nd, rfl⟩⟩; refine ⟨_, rfl, ?_⟩) | (go_at_call 19; (with_reducible refine (laws_sameFloat.calls k t262 t263 false _ A20.out).mono ?_); rintro e w' ⟨rfl, ⟨nd, rfl⟩⟩))
  go_meet
  case rel => exact ⟨_, (true), (by first|rfl|(simp; done)|(simp [*]; done)), H', ⟨by first | omega | exact Nat.le_refl _⟩, ⟨by (with_reducible repeat (first | apply Kd.R_alloc | apply Kd.R_drewN | apply Kd.R_drew)); exact Kd.R_mono HO252.out (fun _ hk => hk.2)⟩, ⟨by (with_reducible repeat (first | apply Kd.S_alloc | apply Kd.S_drewN | apply Kd.S_drew)); exact Kd.S_mono HO255.out (fun _ hk => trivial)⟩, ⟨by (with_reducible repeat (first | apply Kd.R_alloc | apply Kd.R_drewN | apply Kd.R_drew)); exact Kd.R_mono HO260.out (fun _ hk => hk.2)⟩, ⟨by repeat (first | (with_reducible first | exact HB.out | apply below_alloc | apply pw_below_drewN | apply below_drew1) | exact HB.out)⟩⟩
 clear HC9
 try clear c1
 try clear c2
 try clear p2
 try clear c4
 try clear c4b0
 try clear c9
 try clear c11
 try clear c16
 try clear c17
 try clear c18
 try clear c21
 obtain ⟨kq, x57_8, rfl, HA, HJ8, HO_6, HO_9, HO_10, HB⟩ := hcut
 cases kq with
 | zero => exact absurd HA.out (by simp [laws_FnExactBestCuts.j0])
 | succ kj8 => ?_
 have H := HA.out
 clear HA
 simp only [laws_FnExactBestCuts.j0] at H
 by_cases c28 : x57_8 = true
 ·subst c28
  have H1 : (some false) = some r := by rw [if_pos rfl] at H; exact H
  clear H
  have H := H1
  clear H1
  obtain rfl := Option.some.inj H
  go_wp2
  go_ret
  exact ⟨by first | rfl | (simp [errW_none, errW_some] <;> rfl) | (simp [*, errW_none, errW_some] <;> rfl), by repeat (first | (with_reducible first | exact HB.out | apply below_alloc | apply pw_below_drewN | apply below_drew1) | exact HB.out)⟩
 replace c28 := Bool.eq_false_iff.mpr c28
 subst c28
 have H1 : ((laws_toCostSS.f kj8 l0).bind fun t265 => ((laws_eqCostSS.f kj8 t253 t265).bind fun t268 => (if t268 = true then ((laws_markCostSS.f kj8 t253 1).bind fun t269 => (if t269 < 0 then (laws_FnExactBestCuts.j1 kj8 l0 a1 t248 t249 t250 t256 true) else ((laws_eqInt64S.f kj8 t256 t248).bind fun t270 => (if t270 = true then ((floatToFloatBits .f32 t257 .f64).bind fun t271 => ((floatToFloatBits .f32 t249 .f64).bind fun t272 => ((laws_sameFloat.f kj8 t271 t272).bind fun t273 => (if t273 = true then (laws_FnExactBestCuts.j1 kj8 l0 a1 t248 t249 t250 t256 (t258 != t250)) else (laws_FnExactBestCuts.j1 kj8 l0 a1 t248 t249 t250 t256 true))))) else (laws_FnExactBestCuts.j1 kj8 l0 a1 t248 t249 t250 t256 true))))) else (some false)))) = some r := by rw [if_neg (show ¬ (false = true) by decide)] at H; exact H
 clear H
 have H := H1
 clear H1
 replace H := Option.bind_eq_some_iff.mp H
 obtain ⟨t265, A290, H⟩ := H
 replace H : ((laws_eqCostSS.f kj8 t253 t265).bind fun t268 => (if t268 = true then ((laws_markCostSS.f kj8 t253 1).bind fun t269 => (if t269 < 0 then (laws_FnExactBestCuts.j1 kj8 l0 a1 t248 t249 t250 t256 true) else ((laws_eqInt64S.f kj8 t256 t248).bind fun t270 => (if t270 = true then ((floatToFloatBits .f32 t257 .f64).bind fun t271 => ((floatToFloatBits .f32 t249 .f64).bind fun t272 => ((laws_sameFloat.f kj8 t271 t272).bind fun t273 => (if t273 = true then (laws_FnExactBestCuts.j1 kj8 l0 a1 t248 t249 t250 t256 (t258 != t250)) else (laws_FnExactBestCuts.j1 kj8 l0 a1 t248 t249 t250 t256 true))))) else (laws_FnExactBestCuts.j1 kj8 l0 a1 t248 t249 t250 t256 true))))) else (some false))) = some r := H
 have A29 := Aside0.mk A290
 clear A290
 replace H := Option.bind_eq_some_iff.mp H
 obtain ⟨t268, A300, H⟩ := H
 replace H : (if t268 = true then ((laws_markCostSS.f kj8 t253 1).bind fun t269 => (if t269 < 0 then (laws_FnExactBestCuts.j1 kj8 l0 a1 t248 t249 t250 t256 true) else ((laws_eqInt64S.f kj8 t256 t248).bind fun t270 => (if t270 = true then ((floatToFloatBits .f32 t257 .f64).bind fun t271 => ((floatToFloatBits .f32 t249 .f64).bind fun t272 => ((laws_sameFloat.f kj8 t271 t272).bind fun t273 => (if t273 = true then (laws_FnExactBestCuts.j1 kj8 l0 a1 t248 t249 t250 t256 (t258 != t250)) else (laws_FnExactBestCuts.j1 kj8 l0 a1 t248 t249 t250 t256 true))))) else (laws_FnExactBestCuts.j1 kj8 l0 a1 t248 t249 t250 t256 true))))) else (some false)) = some r := H
 have A30 := Aside0.mk A300
 clear A300
 by_cases c31 : t268 = true
 rotate_left
 ·replace c31 := Bool.eq_false_iff.mpr c31
  subst c31
  have H1 : (some false) = some r := by rw [if_neg (show ¬ (false = true) by decide)] at H; exact H
  clear H
  have H := H1
  clear H1
  obtain rfl := Option.some.inj H
  go_wp2_with (first | ((with_reducible refine gate_callee (f := 17) rfl ?_); refine goesL_ (some 60) rfl rfl Try.func17 (by kernel_rfl) rfl #[.slice A0 l0.length c0] rfl (by (try simp only [List.map_toArray, List.map_cons, List.map_nil]); first | done | rfl | (simp only [List.length_drop, List.length_take]; rfl)) ?_; (with_reducible refine (laws_toCostSS.calls kj8 _ _ l0 t265 _ ?side1 ?side2 A29.out).mono ?_); (case side1 => repeat (first | exact (Kd.C_below HR0.out HB.out) | (with_reducible refine Kd.C_alloc ?_ _) | (with_reducible refine Kd.C_drewN ?_ _) | (with_reducible refine Kd.C_drew ?_))); (case side2 => exact HC0.out); rintro e w84 ⟨v266, rfl, ho0, hb⟩; refine ⟨_, rfl, ?_⟩; have n0_ := Aside0.mk (Kd.R_below (by (with_reducible repeat (first | apply Kd.R_alloc | apply Kd.R_drewN | apply Kd.R_drew)); exact HO_6.out) hb); have n1_ := Aside0.mk (Kd.S_elder' (by (with_reducible repeat (first | apply Kd.S_alloc | apply Kd.S_drewN | apply Kd.S_drew)); exact HO_9.out) (Kd.S_base ho0) hb); have n2_ := Aside0.mk (Kd.R_below (by (with_reducible repeat (first | apply Kd.R_alloc | apply Kd.R_drewN | apply Kd.R_drew)); exact HO_10.out) hb); have n3_ := Aside0.mk (Kd.S_lower (Kd.S_new' ho0 (Kd.S_lt (by (with_reducible repeat (first | apply Kd.S_alloc | apply Kd.S_drewN | apply Kd.S_drew)); exact HO_9.out))) (below_size (by repeat (first | (with_reducible first | exact HB.out | apply below_alloc | apply pw_below_drewN | apply below_drew1) | exact HB.out)))); have n4_ := Aside0.mk (below_step (by repeat (first | (with_reducible first | exact HB.out | apply below_alloc | apply pw_below_drewN | apply below_drew1) | exact HB.out)) hb); clear HO_6; clear HO_9; clear HO_10; clear HB; have HO_6 := n0_; have HO_9 := n1_; have HO_10 := n2_; have HO267 := n3_; have HB := n4_; clear n0_ n1_ n2_ n3_ n4_; (try clear hb); (try clear hb2); (try clear hk); (try clear hi); (try clear ho0); obtain ⟨Ao85, co85, eo85⟩ := Kd.S_slice HO267.out; subst eo85) | ((with_reducible refine gate_callee (f := 20) rfl ?_); refine goesL_ (some 61) rfl rfl Try.func20 (by kernel_rfl) rfl #[.slice Ao14 t253.length co14, .slice Ao85 t265.length co85] rfl (by (try simp only [List.map_toArray, List.map_cons, List.map_nil]); first | done | rfl | (simp only [List.length_drop, List.length_take]; rfl)) ?_; (with_reducible refine (laws_eqCostSS.calls kj8 _ _ t253 _ _ t265 false _ ?side1 ?side2 ?side3 ?side4 A30.out).mono ?_); (case side1 => repeat (first | exact (Kd.S_reads' HO_9.out).2.2 | (with_reducible refine Kd.C_alloc ?_ _) | (with_reducible refine Kd.C_drewN ?_ _) | (with_reducible refine Kd.C_drew ?_))); (case side2 => exact (Kd.S_reads' HO_9.out).2.1); (case side3 => repeat (first | exact (Kd.S_reads' HO267.out).2.2 | (with_reducible refine Kd.C_alloc ?_ _) | (with_reducible refine Kd.C_drewN ?_ _) | (with_reducible refine Kd.C_drew ?_))); (case side4 => exact (Kd.S_reads' HO267.out).2.1); rintro e w86 ⟨rfl, hb⟩; refine ⟨_, rfl, ?_⟩; have n0_ := Aside0.mk (Kd.R_below (by (with_reducible repeat (first | apply Kd.R_alloc | apply Kd.R_drewN | apply Kd.R_drew)); exact HO_6.out) hb); have n1_ := Aside0.mk (Kd.S_below (by (with_reducible repeat (first | apply Kd.S_alloc | apply Kd.S_drewN | apply Kd.S_drew)); exact HO_9.out) hb); have n2_ := Aside0.mk (Kd.R_below (by (with_reducible repeat (first | apply Kd.R_alloc | apply Kd.R_drewN | apply Kd.R_drew)); exact HO_10.out) hb); have n3_ := Aside0.mk (Kd.S_below (by (with_reducible repeat (first | apply Kd.S_alloc | apply Kd.S_drewN | apply Kd.S_drew)); exact HO267.out) hb); have n4_ := Aside0.mk (below_step (by repeat (first | (with_reducible first | exact HB.out | apply below_alloc | apply pw_below_drewN | apply below_drew1) | exact HB.out)) hb); clear HO_6; clear HO_9; clear HO_10; clear HO267; clear HB; have HO_6 := n0_; have HO_9 := n1_; have HO_10 := n2_; have HO267 := n3_; have HB := n4_; clear n0_ n1_ n2_ n3_ n4_; (try clear hb); (try clear hb2); (try clear hk); (try clear hi)))
  go_ret
  exact ⟨by first | rfl | (simp [errW_none, errW_some] <;> rfl) | (simp [*, errW_none, errW_some] <;> rfl), by repeat (first | (with_reducible first | exact HB.out | apply below_alloc | apply pw_below_drewN | apply below_drew1) | exact HB.out)⟩
 subst c31
 have H1 : ((laws_markCostSS.f kj8 t253 1).bind fun t269 => (if t269 < 0 then (laws_FnExactBestCuts.j1 kj8 l0 a1 t248 t249 t250 t256 true) else ((laws_eqInt64S.f kj8 t256 t248).bind fun t270 => (if t270 = true then ((floatToFloatBits .f32 t257 .f64).bind fun t271 => ((floatToFloatBits .f32 t249 .f64).bind fun t272 => ((laws_sameFloat.f kj8 t271 t272).bind fun t273 => (if t273 = true then (laws_FnExactBestCuts.j1 kj8 l0 a1 t248 t249 t250 t256 (t258 != t250)) else (laws_FnExactBestCuts.j1 kj8 l0 a1 t248 t249 t250 t256 true))))) else (laws_FnExactBestCuts.j1 kj8 l0 a1 t248 t249 t250 t256 true))))) = some r := by rw [if_pos rfl] at H; exact H
 clear H
 have H := H1
 clear H1
 replace H := Option.bind_eq_some_iff.mp H
 obtain ⟨t269, A320, H⟩ := H
 replace H : (if t269 < 0 then (laws_FnExactBestCuts.j1 kj8 l0 a1 t248 t249 t250 t256 true) else ((laws_eqInt64S.f kj8 t256 t248).bind fun t270 => (if t270 = true then ((floatToFloatBits .f32 t257 .f64).bind fun t271 => ((floatToFloatBits .f32 t249 .f64).bind fun t272 => ((laws_sameFloat.f kj8 t271 t272).bind fun t273 => (if t273 = true then (laws_FnExactBestCuts.j1 kj8 l0 a1 t248 t249 t250 t256 (t258 != t250)) else (laws_FnExactBestCuts.j1 kj8 l0 a1 t248 t249 t250 t256 true))))) else (laws_FnExactBestCuts.j1 kj8 l0 a1 t248 t249 t250 t256 true)))) = some r := H
 have A32 := Aside0.mk A320
 clear A320
 have HC33 := Aside0.mk H
 clear H
 go_upto_region 14 with (first | ((with_reducible refine gate_callee (f := 17) rfl ?_); refine goesL_ (some 60) rfl rfl Try.func17 (by kernel_rfl) rfl #[.slice A0 l0.length c0] rfl (by (try simp only [List.map_toArray, List.map_cons, List.map_nil]); first | done | rfl | (simp only [List.length_drop, List.length_take]; rfl)) ?_; (with_reducible refine (laws_toCostSS.calls kj8 _ _ l0 t265 _ ?side1 ?side2 A29.out).mono ?_); (case side1 => repeat (first | exact (Kd.C_below HR0.out HB.out) | (with_reducible refine Kd.C_alloc ?_ _) | (with_reducible refine Kd.C_drewN ?_ _) | (with_reducible refine Kd.C_drew ?_))); (case side2 => exact HC0.out); rintro e w34 ⟨v266, rfl, ho0, hb⟩; refine ⟨_, rfl, ?_⟩; have n0_ := Aside0.mk (Kd.R_below (by (with_reducible repeat (first | apply Kd.R_alloc | apply Kd.R_drewN | apply Kd.R_drew)); exact HO_6.out) hb); have n1_ := Aside0.mk (Kd.S_elder' (by (with_reducible repeat (first | apply Kd.S_alloc | apply Kd.S_drewN | apply Kd.S_drew)); exact HO_9.out) (Kd.S_base ho0) hb); have n2_ := Aside0.mk (Kd.R_below (by (with_reducible repeat (first | apply Kd.R_alloc | apply Kd.R_drewN | apply Kd.R_drew)); exact HO_10.out) hb); have n3_ := Aside0.mk (Kd.S_lower (Kd.S_new' ho0 (Kd.S_lt (by (with_reducible repeat (first | apply Kd.S_alloc | apply Kd.S_drewN | apply Kd.S_drew)); exact HO_9.out))) (below_size (by repeat (first | (with_reducible first | exact HB.out | apply below_alloc | apply pw_below_drewN | apply below_drew1) | exact HB.out)))); have n4_ := Aside0.mk (below_step (by repeat (first | (with_reducible first | exact HB.out | apply below_alloc | apply pw_below_drewN | apply below_drew1) | exact HB.out)) hb); clear HO_6; clear HO_9; clear HO_10; clear HB; have HO_6 := n0_; have HO_9 := n1_; have HO_10 := n2_; have HO267 := n3_; have HB := n4_; clear n0_ n1_ n2_ n3_ n4_; (try clear hb); (try clear hb2); (try clear hk); (try clear hi); (try clear ho0); obtain ⟨Ao35, co35, eo35⟩ := Kd.S_slice HO267.out; subst eo35) | ((with_reducible refine gate_callee (f := 20) rfl ?_); refine goesL_ (some 61) rfl rfl Try.func20 (by kernel_rfl) rfl #[.slice Ao14 t253.length co14, .slice Ao35 t265.length co35] rfl (by (try simp only [List.map_toArray, List.map_cons, List.map_nil]); first | done | rfl | (simp only [List.length_drop, List.length_take]; rfl)) ?_; (with_reducible refine (laws_eqCostSS.calls kj8 _ _ t253 _ _ t265 true _ ?side1 ?side2 ?side3 ?side4 A30.out).mono ?_); (case side1 => repeat (first | exact (Kd.S_reads' HO_9.out).2.2 | (with_reducible refine Kd.C_alloc ?_ _) | (with_reducible refine Kd.C_drewN ?_ _) | (with_reducible refine Kd.C_drew ?_))); (case side2 => exact (Kd.S_reads' HO_9.out).2.1); (case side3 => repeat (first | exact (Kd.S_reads' HO267.out).2.2 | (with_reducible refine Kd.C_alloc ?_ _) | (with_reducible refine Kd.C_drewN ?_ _) | (with_reducible refine Kd.C_drew ?_))); (case side4 => exact (Kd.S_reads' HO267.out).2.1); rintro e w36 ⟨rfl, hb⟩; refine ⟨_, rfl, ?_⟩; have n0_ := Aside0.mk (Kd.R_below (by (with_reducible repeat (first | apply Kd.R_alloc | apply Kd.R_drewN | apply Kd.R_drew)); exact HO_6.out) hb); have n1_ := Aside0.mk (Kd.S_below (by (with_reducible repeat (first | apply Kd.S_alloc | apply Kd.S_drewN | apply Kd.S_drew)); exact HO_9.out) hb); have n2_ := Aside0.mk (Kd.R_below (by (with_reducible repeat (first | apply Kd.R_alloc | apply Kd.R_drewN | apply Kd.R_drew)); exact HO_10.out) hb); have n3_ := Aside0.mk (Kd.S_below (by (with_reducible repeat (first | apply Kd.S_alloc | apply Kd.S_drewN | apply Kd.S_drew)); exact HO267.out) hb); have n4_ := Aside0.mk (below_step (by repeat (first | (with_reducible first | exact HB.out | apply below_alloc | apply pw_below_drewN | apply below_drew1) | exact HB.out)) hb); clear HO_6; clear HO_9; clear HO_10; clear HO267; clear HB; have HO_6 := n0_; have HO_9 := n1_; have HO_10 := n2_; have HO267 := n3_; have HB := n4_; clear n0_ n1_ n2_ n3_ n4_; (try clear hb); (try clear hb2); (try clear hk); (try clear hi)) | ((with_reducible refine gate_callee (f := 21) rfl ?_); refine goesL_ (some 65) rfl rfl Try.func21 (by kernel_rfl) rfl #[.slice Ao14 t253.length co14, .int .i64 1] rfl (by (try simp only [List.map_toArray, List.map_cons, List.map_nil]); first | done | rfl | (simp only [List.length_drop, List.length_take]; rfl)) ?_; (with_reducible refine (laws_markCostSS.calls kj8 _ _ t253 1 t269 w _ (by repeat (first | (with_reducible first | exact HB.out | apply below_alloc | apply pw_below_drewN | apply below_drew1) | exact HB.out)) (Kd.S_apart' (Kd.S_apart' (by (with_reducible repeat (first | apply Kd.S_alloc | apply Kd.S_drewN | apply Kd.S_drew)); exact HO_9.out) (Kd.R_typed (by (with_reducible repeat (first | apply Kd.R_alloc | apply Kd.R_drewN | apply Kd.R_drew)); exact HO_6.out)) (by decide)) (Kd.R_typed (by (with_reducible repeat (first | apply Kd.R_alloc | apply Kd.R_drewN | apply Kd.R_drew)); exact HO_10.out)) (by decide)) A32.out).mono ?_); rintro e w37 ⟨rfl, hb2, hkp⟩; refine ⟨_, rfl, ?_⟩; have n0_ := Aside0.mk (Kd.R_mono (Kd.R_kept (Kd.R_tight2 rfl (by (with_reducible repeat (first | apply Kd.R_alloc | apply Kd.R_drewN | apply Kd.R_drew)); exact HO_6.out)) hkp (fun k_ h_ p_ => p_.1.2 h_.1)) (fun _ h_ => h_.2)); have n1_ := Aside0.mk (Kd.R_mono (Kd.R_kept (Kd.R_tight2 rfl (by (with_reducible repeat (first | apply Kd.R_alloc | apply Kd.R_drewN | apply Kd.R_drew)); exact HO_10.out)) hkp (fun k_ h_ p_ => p_.2 h_.1)) (fun _ h_ => h_.2)); have nb_ := Aside0.mk hb2; clear hb2 hkp; clear HO_6; clear HO_9; clear HO_10; clear HO267; clear HB; have HO_6 := n0_; have HO_10 := n1_; have HB := nb_; clear nb_ n0_ n1_))
 (try simp only [Act.put, List.setIfInBounds_toArray, List.set_cons_zero, List.set_cons_succ])
 go_cut [86] (fun v86 wc => ∃ (kq : Nat) (x86_32 : Bool), v86 = .bool x86_32 ∧ Aside0 (laws_FnExactBestCuts.j1 kq l0 a1 t248 t249 t250 t256 x86_32 = some r) ∧ Aside0 (kq ≤ kj8) ∧ Aside0 (Kd.R (Kd.int .i64) 2 wc w.heap.size (fun k_ => some k_ ≠ (v259 : Value).ownBlock) v251 t248) ∧ Aside0 (Kd.R (Kd.int .i64) 2 wc w.heap.size (fun k_ => some k_ ≠ (v251 : Value).ownBlock) v259 t256) ∧ Aside0 (Below w.heap.size w wc))
 case first =>
  have H := HC33.out
  clear HC33
  by_cases c38 : t269 < 0
  ·rw [if_pos c38] at H
   have c38b0 : decide (t269 < 0) = true := decide_eq_true c38
   clear c38
   (first | rw [c38b0] | (simp only [i64_w, i32_w]; rw [c38b0]) | skip)
   have H' := Aside0.mk H
   clear H
   go_wp2
   go_meet
   case rel => exact ⟨_, (true), (by first|rfl|(simp; done)|(simp [*]; done)), H', ⟨by have := HJ8.out; first | omega | exact Nat.le_refl _⟩, ⟨by (with_reducible repeat (first | apply Kd.R_alloc | apply Kd.R_drewN | apply Kd.R_drew)); exact HO_6.out⟩, ⟨by (with_reducible repeat (first | apply Kd.R_alloc | apply Kd.R_drewN | apply Kd.R_drew)); exact HO_10.out⟩, ⟨by repeat (first | (with_reducible first | exact HB.out | apply below_alloc | apply pw_below_drewN | apply below_drew1) | exact HB.out)⟩⟩
  rw [if_neg c38] at H
  have c38b0 : decide (t269 < 0) = false := decide_eq_false c38
  clear c38
  (first | rw [c38b0] | (simp only [i64_w, i32_w]; rw [c38b0]) | skip)
  replace H := Option.bind_eq_some_iff.mp H
  obtain ⟨t270, A390, H⟩ := H
  replace H : (if t270 = true then ((floatToFloatBits .f32 t257 .f64).bind fun t271 => ((floatToFloatBits .f32 t249 .f64).bind fun t272 => ((laws_sameFloat.f kj8 t271 t272).bind fun t273 => (if t273 = true then (laws_FnExactBestCuts.j1 kj8 l0 a1 t248 t249 t250 t256 (t258 != t250)) else (laws_FnExactBestCuts.j1 kj8 l0 a1 t248 t249 t250 t256 true))))) else (laws_FnExactBestCuts.j1 kj8 l0 a1 t248 t249 t250 t256 true)) = some r := H
  have A39 := Aside0.mk A390
  clear A390
  by_cases c40 : t270 = true
  rotate_left
  ·replace c40 := Bool.eq_false_iff.mpr c40
   subst c40
   have H1 : (laws_FnExactBestCuts.j1 kj8 l0 a1 t248 t249 t250 t256 true) = some r := by rw [if_neg (show ¬ (false = true) by decide)] at H; exact H
   clear H
   have H := H1
   clear H1
   have H' := Aside0.mk H
   clear H
   obtain ⟨Ao49, co49, eo49⟩ := Kd.R_slice HO_10.out
   subst eo49
   obtain ⟨Ao50, co50, eo50⟩ := Kd.R_slice HO_6.out
   subst eo50
   go_wp2_with (first | (go_at_call 18; (with_reducible refine (laws_eqInt64S.calls kj8 _ _ t256 _ _ t248 false _ ?side1 ?side2 ?side3 ?side4 A39.out).mono ?_); (case side1 => repeat (first | exact (Kd.R_reads' HO_10.out).2.2 | (with_reducible refine Kd.C_alloc ?_ _) | (with_reducible refine Kd.C_drewN ?_ _) | (with_reducible refine Kd.C_drew ?_))); (case side2 => exact (Kd.R_reads' HO_10.out).2.1); (case side3 => repeat (first | exact (Kd.R_reads' HO_6.out).2.2 | (with_reducible refine Kd.C_alloc ?_ _) | (with_reducible refine Kd.C_drewN ?_ _) | (with_reducible refine Kd.C_drew ?_))); (case side4 => exact (Kd.R_reads' HO_6.out).2.1); rintro e w' ⟨rfl, ⟨nd, rfl⟩⟩))
   go_meet
   case rel => exact ⟨_, (true), (by first|rfl|(simp; done)|(simp [*]; done)), H', ⟨by have := HJ8.out; first | omega | exact Nat.le_refl _⟩, ⟨by (with_reducible repeat (first | apply Kd.R_alloc | apply Kd.R_drewN | apply Kd.R_drew)); exact HO_6.out⟩, ⟨by (with_reducible repeat (first | apply Kd.R_alloc | apply Kd.R_drewN | apply Kd.R_drew)); exact HO_10.out⟩, ⟨by repeat (first | (with_reducible first | exact HB.out | apply below_alloc | apply pw_below_drewN | apply below_drew1) | exact HB.out)⟩⟩
  subst c40
  have H1 : ((floatToFloatBits .f32 t257 .f64).bind fun t271 => ((floatToFloatBits .f32 t249 .f64).bind fun t272 => ((laws_sameFloat.f kj8 t271 t272).bind fun t273 => (if t273 = true then (laws_FnExactBestCuts.j1 kj8 l0 a1 t248 t249 t250 t256 (t258 != t250)) else (laws_FnExactBestCuts.j1 kj8 l0 a1 t248 t249 t250 t256 true))))) = some r := by rw [if_pos rfl] at H; exact H
  clear H
  have H := H1
  clear H1
  replace H := Option.bind_eq_some_iff.mp H
  obtain ⟨t271, F410, H⟩ := H
  replace H : ((floatToFloatBits .f32 t249 .f64).bind fun t272 => ((laws_sameFloat.f kj8 t271 t272).bind fun t273 => (if t273 = true then (laws_FnExactBestCuts.j1 kj8 l0 a1 t248 t249 t250 t256 (t258 != t250)) else (laws_FnExactBestCuts.j1 kj8 l0 a1 t248 t249 t250 t256 true)))) = some r := H
  have F41 := run_float_float (P := Try.prog) F410 26 31 (by kernel_rfl) (by kernel_rfl)
  clear F410
  replace H := Option.bind_eq_some_iff.mp H
  obtain ⟨t272, F420, H⟩ := H
  replace H : ((laws_sameFloat.f kj8 t271 t272).bind fun t273 => (if t273 = true then (laws_FnExactBestCuts.j1 kj8 l0 a1 t248 t249 t250 t256 (t258 != t250)) else (laws_FnExactBestCuts.j1 kj8 l0 a1 t248 t249 t250 t256 true))) = some r := H
  have F42 := run_float_float (P := Try.prog) F420 26 31 (by kernel_rfl) (by kernel_rfl)
  clear F420
  replace H := Option.bind_eq_some_iff.mp H
  obtain ⟨t273, A430, H⟩ := H
  replace H : (if t273 = true then (laws_FnExactBestCuts.j1 kj8 l0 a1 t248 t249 t250 t256 (t258 != t250)) else (laws_FnExactBestCuts.j1 kj8 l0 a1 t248 t249 t250 t256 true)) = some r := H
  have A43 := Aside0.mk A430
  clear A430
  by_cases c44 : t273 = true
  ·subst c44
   have H1 : (laws_FnExactBestCuts.j1 kj8 l0 a1 t248 t249 t250 t256 (t258 != t250)) = some r := by rw [if_pos rfl] at H; exact H
   clear H
   have H := H1
   clear H1
   have H' := Aside0.mk H
   clear H
   obtain ⟨Ao45, co45, eo45⟩ := Kd.R_slice HO_10.out
   subst eo45
   obtain ⟨Ao46, co46, eo46⟩ := Kd.R_slice HO_6.out
   subst eo46
   go_wp2_with (first | (go_at_call 18; (with_reducible refine (laws_eqInt64S.calls kj8 _ _ t256 _ _ t248 true _ ?side1 ?side2 ?side3 ?side4 A39.out).mono ?_); (case side1 => repeat (first | exact (Kd.R_reads' HO_10.out).2.2 | (with_reducible refine Kd.C_alloc ?_ _) | (with_reducible refine Kd.C_drewN ?_ _) | (with_reducible refine Kd.C_drew ?_))); (case side2 => exact (Kd.R_reads' HO_10.out).2.1); (case side3 => repeat (first | exact (Kd.R_reads' HO_6.out).2.2 | (with_reducible refine Kd.C_alloc ?_ _) | (with_reducible refine Kd.C_drewN ?_ _) | (with_reducible refine Kd.C_drew ?_))); (case side4 => exact (Kd.R_reads' HO_6.out).2.1); rintro e w' ⟨rfl, ⟨nd, rfl⟩⟩) | (go_at_call 19; (with_reducible refine (laws_sameFloat.calls kj8 t271 t272 true _ A43.out).mono ?_); rintro e w' ⟨rfl, ⟨nd, rfl⟩⟩))
   go_meet
   case rel => exact ⟨_, ((t258 != t250)), (by first|rfl|(simp; done)|(simp [*]; done)), H', ⟨by have := HJ8.out; first | omega | exact Nat.le_refl _⟩, ⟨by (with_reducible repeat (first | apply Kd.R_alloc | apply Kd.R_drewN | apply Kd.R_drew)); exact HO_6.out⟩, ⟨by (with_reducible repeat (first | apply Kd.R_alloc | apply Kd.R_drewN | apply Kd.R_drew)); exact HO_10.out⟩, ⟨by repeat (first | (with_reducible first | exact HB.out | apply below_alloc | apply pw_below_drewN | apply below_drew1) | exact HB.out)⟩⟩
  replace c44 := Bool.eq_false_iff.mpr c44
  subst c44
  have H1 : (laws_FnExactBestCuts.j1 kj8 l0 a1 t248 t249 t250 t256 true) = some r := by rw [if_neg (show ¬ (false = true) by decide)] at H; exact H
  clear H
  have H := H1
  clear H1
  have H' := Aside0.mk H
  clear H
  obtain ⟨Ao47, co47, eo47⟩ := Kd.R_slice HO_10.out
  subst eo47
  obtain ⟨Ao48, co48, eo48⟩ := Kd.R_slice HO_6.out
  subst eo48
  go_wp2_with (first | (go_at_call 18; (with_reducible refine (laws_eqInt64S.calls kj8 _ _ t256 _ _ t248 true _ ?side1 ?side2 ?side3 ?side4 A39.out).mono ?_); (case side1 => repeat (first | exact (Kd.R_reads' HO_10.out).2.2 | (with_reducible refine Kd.C_alloc ?_ _) | (with_reducible refine Kd.C_drewN ?_ _) | (with_reducible refine Kd.C_drew ?_))); (case side2 => exact (Kd.R_reads' HO_10.out).2.1); (case side3 => repeat (first | exact (Kd.R_reads' HO_6.out).2.2 | (with_reducible refine Kd.C_alloc ?_ _) | (with_reducible refine Kd.C_drewN ?_ _) | (with_reducible refine Kd.C_drew ?_))); (case side4 => exact (Kd.R_reads' HO_6.out).2.1); rintro e w' ⟨rfl, ⟨nd, rfl⟩⟩) | (go_at_call 19; (with_reducible refine (laws_sameFloat.calls kj8 t271 t272 false _ A43.out).mono ?_); rintro e w' ⟨rfl, ⟨nd, rfl⟩⟩))
  go_meet
  case rel => exact ⟨_, (true), (by first|rfl|(simp; done)|(simp [*]; done)), H', ⟨by have := HJ8.out; first | omega | exact Nat.le_refl _⟩, ⟨by (with_reducible repeat (first | apply Kd.R_alloc | apply Kd.R_drewN | apply Kd.R_drew)); exact HO_6.out⟩, ⟨by (with_reducible repeat (first | apply Kd.R_alloc | apply Kd.R_drewN | apply Kd.R_drew)); exact HO_10.out⟩, ⟨by repeat (first | (with_reducible first | exact HB.out | apply below_alloc | apply pw_below_drewN | apply below_drew1) | exact HB.out)⟩⟩
 clear HC33
 try clear c1
 try clear c2
 try clear p2
 try clear c3
 try clear c4
 try clear c4b0
 try clear c9
 try clear c11
 try clear c16
 try clear c17
 try clear c18
 try clear c20
 try clear c21
 try clear c28
 try clear c31
 try clear c38
 try clear c38b0
 try clear c40
 try clear c44
 try clear p2
 obtain ⟨kq, x86_32, rfl, HA, HJ32, HO_6, HO_10, HB⟩ := hcut
 cases kq with
 | zero => exact absurd HA.out (by simp [laws_FnExactBestCuts.j1])
 | succ kj32 => ?_
 have H := HA.out
 clear HA
 simp only [laws_FnExactBestCuts.j1] at H
 by_cases c51 : x86_32 = true
 ·subst c51
  have H1 : (some false) = some r := by rw [if_pos rfl] at H; exact H
  clear H
  have H := H1
  clear H1
  obtain rfl := Option.some.inj H
  go_wp2
  go_ret
  exact ⟨by first | rfl | (simp [errW_none, errW_some] <;> rfl) | (simp [*, errW_none, errW_some] <;> rfl), by repeat (first | (with_reducible first | exact HB.out | apply below_alloc | apply pw_below_drewN | apply below_drew1) | exact HB.out)⟩
 replace c51 := Bool.eq_false_iff.mpr c51
 subst c51
 have H1 : ((laws_markInt64S.f kj32 t256 1).bind fun bt274 => ((laws_heldInt64S.f kj32 bt274.2 1).bind fun t276 => (if t276 < 0 then (some false) else (if t276 = bt274.1 then ((laws_toCostSS.f kj32 l0).bind fun t277 => ((impl_BestCuts.f kj32 t277 a1).bind fun bt280 => ((laws_eqInt64S.f kj32 bt280.1 t248).bind fun t285 => (if t285 = true then ((floatToFloatBits .f32 bt280.2.1 .f64).bind fun t286 => ((floatToFloatBits .f32 t249 .f64).bind fun t287 => ((laws_sameFloat.f kj32 t286 t287).bind fun t288 => (if t288 = true then (laws_FnExactBestCuts.j2 kj32 bt274.2 bt274.1 (bt280.2.2 != t250)) else (laws_FnExactBestCuts.j2 kj32 bt274.2 bt274.1 true))))) else (laws_FnExactBestCuts.j2 kj32 bt274.2 bt274.1 true))))) else (some false))))) = some r := by rw [if_neg (show ¬ (false = true) by decide)] at H; exact H
 clear H
 have H := H1
 clear H1
 replace H := Option.bind_eq_some_iff.mp H
 obtain ⟨⟨t274, t275⟩, A520, H⟩ := H
 replace H : ((laws_heldInt64S.f kj32 t275 1).bind fun t276 => (if t276 < 0 then (some false) else (if t276 = t274 then ((laws_toCostSS.f kj32 l0).bind fun t277 => ((impl_BestCuts.f kj32 t277 a1).bind fun bt280 => ((laws_eqInt64S.f kj32 bt280.1 t248).bind fun t285 => (if t285 = true then ((floatToFloatBits .f32 bt280.2.1 .f64).bind fun t286 => ((floatToFloatBits .f32 t249 .f64).bind fun t287 => ((laws_sameFloat.f kj32 t286 t287).bind fun t288 => (if t288 = true then (laws_FnExactBestCuts.j2 kj32 t275 t274 (bt280.2.2 != t250)) else (laws_FnExactBestCuts.j2 kj32 t275 t274 true))))) else (laws_FnExactBestCuts.j2 kj32 t275 t274 true))))) else (some false)))) = some r := H
 have A52 := Aside0.mk A520
 clear A520
 replace H := Option.bind_eq_some_iff.mp H
 obtain ⟨t276, A530, H⟩ := H
 replace H : (if t276 < 0 then (some false) else (if t276 = t274 then ((laws_toCostSS.f kj32 l0).bind fun t277 => ((impl_BestCuts.f kj32 t277 a1).bind fun bt280 => ((laws_eqInt64S.f kj32 bt280.1 t248).bind fun t285 => (if t285 = true then ((floatToFloatBits .f32 bt280.2.1 .f64).bind fun t286 => ((floatToFloatBits .f32 t249 .f64).bind fun t287 => ((laws_sameFloat.f kj32 t286 t287).bind fun t288 => (if t288 = true then (laws_FnExactBestCuts.j2 kj32 t275 t274 (bt280.2.2 != t250)) else (laws_FnExactBestCuts.j2 kj32 t275 t274 true))))) else (laws_FnExactBestCuts.j2 kj32 t275 t274 true))))) else (some false))) = some r := H
 have A53 := Aside0.mk A530
 clear A530
 by_cases c54 : t276 < 0
 ·rw [if_pos c54] at H
  have c54b0 : decide (t276 < 0) = true := decide_eq_true c54
  clear c54
  obtain rfl := Option.some.inj H
  obtain ⟨Ao55, co55, eo55⟩ := Kd.R_slice HO_10.out
  subst eo55
  go_wp2_with (first | ((with_reducible refine gate_callee (f := 22) rfl ?_); refine goesL_ (some 89) rfl rfl Try.func22 (by kernel_rfl) rfl #[.slice Ao55 t256.length co55, .int .i64 1] rfl (by (try simp only [List.map_toArray, List.map_cons, List.map_nil]); first | done | rfl | (simp only [List.length_drop, List.length_take]; rfl)) ?_; (with_reducible refine (laws_markInt64S.calls kj32 (fun k_ => some k_ = (.slice Ao55 t256.length co55 : Value).ownBlock) (.slice Ao55 t256.length co55) t256 1 t274 t275 w _ ?side1 ?side2 A52.out).mono ?_); (case side1 => repeat (first | (with_reducible first | exact HB.out | apply below_alloc | apply pw_below_drewN | apply below_drew1) | exact HB.out)); (case side2 => exact Kd.R_tight rfl HO_10.out); rintro e w56 ⟨rfl, hy0, hb, hkp⟩; refine ⟨_, rfl, ?_⟩; have n0_ := Aside0.mk (Kd.R_mono (ok' := fun k_ => some k_ ≠ (.slice Ao55 t256.length co55 : Value).ownBlock) (Kd.R_keptB (HO_6.out) hkp (fun k_ hk_ hs_ => (hk_) hs_)) (fun k_ hk_ => hk_.1)); have n1_ := Aside0.mk (Kd.R_reok rfl hy0 (fun k_ e_ => HO_10.out.1 k_ e_)); have n2_ := Aside0.mk (hb); clear HO_6; clear HO_10; clear HB; have HO_6 := n0_; have HO_10 := n1_; have HB := n2_; clear n0_ n1_ n2_; (try clear hb); (try clear hkp); (try clear hy0)) | ((with_reducible refine gate_callee (f := 23) rfl ?_); refine goesL_ (some 92) rfl rfl Try.func23 (by kernel_rfl) rfl #[.slice Ao55 t275.length co55, .int .i64 1] rfl (by (try simp only [List.map_toArray, List.map_cons, List.map_nil]); first | done | (rw [show t275.length = t256.length from (Kd.R_reads' HO_10.out).1.symm] <;> rfl) | rfl | (simp only [List.length_drop, List.length_take]; rfl)) ?_; (with_reducible refine (laws_heldInt64S.calls kj32 _ _ t275 1 t276 _ ?side1 ?side2 A53.out).mono ?_); (case side1 => repeat (first | exact (Kd.R_reads' HO_10.out).2.2 | (with_reducible refine Kd.C_alloc ?_ _) | (with_reducible refine Kd.C_drewN ?_ _) | (with_reducible refine Kd.C_drew ?_))); (case side2 => rw [show t275.length = t256.length from (Kd.R_reads' HO_10.out).1.symm]; exact (Kd.R_reads' HO_10.out).2.1); rintro e w' ⟨rfl, ⟨nd, rfl⟩⟩; refine ⟨_, rfl, ?_⟩))
  go_ret
  exact ⟨by first | rfl | (simp [errW_none, errW_some] <;> rfl) | (simp [*, errW_none, errW_some] <;> rfl), by repeat (first | (with_reducible first | exact HB.out | apply below_alloc | apply pw_below_drewN | apply below_drew1) | exact HB.out)⟩
 rw [if_neg c54] at H
 have c54b0 : decide (t276 < 0) = false := decide_eq_false c54
 clear c54
 by_cases c57 : t276 = t274
 rotate_left
 ·rw [if_neg c57] at H
  have c57b0 : (t276 == t274) = false := beq_eq_false_iff_ne.mpr c57
  have c57b1 : (t276 != t274) = true := bne_iff_ne.mpr c57
  obtain rfl := Option.some.inj H
  obtain ⟨Ao82, co82, eo82⟩ := Kd.R_slice HO_10.out
  subst eo82
  go_wp2_with (first | ((with_reducible refine gate_callee (f := 22) rfl ?_); refine goesL_ (some 89) rfl rfl Try.func22 (by kernel_rfl) rfl #[.slice Ao82 t256.length co82, .int .i64 1] rfl (by (try simp only [List.map_toArray, List.map_cons, List.map_nil]); first | done | rfl | (simp only [List.length_drop, List.length_take]; rfl)) ?_; (with_reducible refine (laws_markInt64S.calls kj32 (fun k_ => some k_ = (.slice Ao82 t256.length co82 : Value).ownBlock) (.slice Ao82 t256.length co82) t256 1 t274 t275 w _ ?side1 ?side2 A52.out).mono ?_); (case side1 => repeat (first | (with_reducible first | exact HB.out | apply below_alloc | apply pw_below_drewN | apply below_drew1) | exact HB.out)); (case side2 => exact Kd.R_tight rfl HO_10.out); rintro e w83 ⟨rfl, hy0, hb, hkp⟩; refine ⟨_, rfl, ?_⟩; have n0_ := Aside0.mk (Kd.R_mono (ok' := fun k_ => some k_ ≠ (.slice Ao82 t256.length co82 : Value).ownBlock) (Kd.R_keptB (HO_6.out) hkp (fun k_ hk_ hs_ => (hk_) hs_)) (fun k_ hk_ => hk_.1)); have n1_ := Aside0.mk (Kd.R_reok rfl hy0 (fun k_ e_ => HO_10.out.1 k_ e_)); have n2_ := Aside0.mk (hb); clear HO_6; clear HO_10; clear HB; have HO_6 := n0_; have HO_10 := n1_; have HB := n2_; clear n0_ n1_ n2_; (try clear hb); (try clear hkp); (try clear hy0)) | ((with_reducible refine gate_callee (f := 23) rfl ?_); refine goesL_ (some 92) rfl rfl Try.func23 (by kernel_rfl) rfl #[.slice Ao82 t275.length co82, .int .i64 1] rfl (by (try simp only [List.map_toArray, List.map_cons, List.map_nil]); first | done | (rw [show t275.length = t256.length from (Kd.R_reads' HO_10.out).1.symm] <;> rfl) | rfl | (simp only [List.length_drop, List.length_take]; rfl)) ?_; (with_reducible refine (laws_heldInt64S.calls kj32 _ _ t275 1 t276 _ ?side1 ?side2 A53.out).mono ?_); (case side1 => repeat (first | exact (Kd.R_reads' HO_10.out).2.2 | (with_reducible refine Kd.C_alloc ?_ _) | (with_reducible refine Kd.C_drewN ?_ _) | (with_reducible refine Kd.C_drew ?_))); (case side2 => rw [show t275.length = t256.length from (Kd.R_reads' HO_10.out).1.symm]; exact (Kd.R_reads' HO_10.out).2.1); rintro e w' ⟨rfl, ⟨nd, rfl⟩⟩; refine ⟨_, rfl, ?_⟩))
  go_ret
  exact ⟨by first | rfl | (simp [errW_none, errW_some] <;> rfl) | (simp [*, errW_none, errW_some] <;> rfl), by repeat (first | (with_reducible first | exact HB.out | apply below_alloc | apply pw_below_drewN | apply below_drew1) | exact HB.out)⟩
 rw [if_pos c57] at H
 have c57b0 : (t276 == t274) = true := beq_iff_eq.mpr c57
 have c57b1 : (t276 != t274) = false := bne_eq_false_iff_eq.mpr c57
 clear c57
 replace H := Option.bind_eq_some_iff.mp H
 obtain ⟨t277, A580, H⟩ := H
 replace H : ((impl_BestCuts.f kj32 t277 a1).bind fun bt280 => ((laws_eqInt64S.f kj32 bt280.1 t248).bind fun t285 => (if t285 = true then ((floatToFloatBits .f32 bt280.2.1 .f64).bind fun t286 => ((floatToFloatBits .f32 t249 .f64).bind fun t287 => ((laws_sameFloat.f kj32 t286 t287).bind fun t288 => (if t288 = true then (laws_FnExactBestCuts.j2 kj32 t275 t274 (bt280.2.2 != t250)) else (laws_FnExactBestCuts.j2 kj32 t275 t274 true))))) else (laws_FnExactBestCuts.j2 kj32 t275 t274 true)))) = some r := H
 have A58 := Aside0.mk A580
 clear A580
 replace H := Option.bind_eq_some_iff.mp H
 obtain ⟨⟨t280, t281, t282⟩, A590, H⟩ := H
 replace H : ((laws_eqInt64S.f kj32 t280 t248).bind fun t285 => (if t285 = true then ((floatToFloatBits .f32 t281 .f64).bind fun t286 => ((floatToFloatBits .f32 t249 .f64).bind fun t287 => ((laws_sameFloat.f kj32 t286 t287).bind fun t288 => (if t288 = true then (laws_FnExactBestCuts.j2 kj32 t275 t274 (t282 != t250)) else (laws_FnExactBestCuts.j2 kj32 t275 t274 true))))) else (laws_FnExactBestCuts.j2 kj32 t275 t274 true))) = some r := H
 have A59 := Aside0.mk A590
 clear A590
 have HC60 := Aside0.mk H
 clear H
 obtain ⟨Ao61, co61, eo61⟩ := Kd.R_slice HO_10.out
 subst eo61
 go_upto_region 25 with (first | ((with_reducible refine gate_callee (f := 22) rfl ?_); refine goesL_ (some 89) rfl rfl Try.func22 (by kernel_rfl) rfl #[.slice Ao61 t256.length co61, .int .i64 1] rfl (by (try simp only [List.map_toArray, List.map_cons, List.map_nil]); first | done | rfl | (simp only [List.length_drop, List.length_take]; rfl)) ?_; (with_reducible refine (laws_markInt64S.calls kj32 (fun k_ => some k_ = (.slice Ao61 t256.length co61 : Value).ownBlock) (.slice Ao61 t256.length co61) t256 1 t274 t275 w _ ?side1 ?side2 A52.out).mono ?_); (case side1 => repeat (first | (with_reducible first | exact HB.out | apply below_alloc | apply pw_below_drewN | apply below_drew1) | exact HB.out)); (case side2 => exact Kd.R_tight rfl HO_10.out); rintro e w62 ⟨rfl, hy0, hb, hkp⟩; refine ⟨_, rfl, ?_⟩; have n0_ := Aside0.mk (Kd.R_mono (ok' := fun k_ => some k_ ≠ (.slice Ao61 t256.length co61 : Value).ownBlock) (Kd.R_keptB (HO_6.out) hkp (fun k_ hk_ hs_ => (hk_) hs_)) (fun k_ hk_ => hk_.1)); have n1_ := Aside0.mk (Kd.R_reok rfl hy0 (fun k_ e_ => HO_10.out.1 k_ e_)); have n2_ := Aside0.mk (hb); clear HO_6; clear HO_10; clear HB; have HO_6 := n0_; have HO_10 := n1_; have HB := n2_; clear n0_ n1_ n2_; (try clear hb); (try clear hkp); (try clear hy0)) | ((with_reducible refine gate_callee (f := 23) rfl ?_); refine goesL_ (some 92) rfl rfl Try.func23 (by kernel_rfl) rfl #[.slice Ao61 t275.length co61, .int .i64 1] rfl (by (try simp only [List.map_toArray, List.map_cons, List.map_nil]); first | done | (rw [show t275.length = t256.length from (Kd.R_reads' HO_10.out).1.symm] <;> rfl) | rfl | (simp only [List.length_drop, List.length_take]; rfl)) ?_; (with_reducible refine (laws_heldInt64S.calls kj32 _ _ t275 1 t276 _ ?side1 ?side2 A53.out).mono ?_); (case side1 => repeat (first | exact (Kd.R_reads' HO_10.out).2.2 | (with_reducible refine Kd.C_alloc ?_ _) | (with_reducible refine Kd.C_drewN ?_ _) | (with_reducible refine Kd.C_drew ?_))); (case side2 => rw [show t275.length = t256.length from (Kd.R_reads' HO_10.out).1.symm]; exact (Kd.R_reads' HO_10.out).2.1); rintro e w' ⟨rfl, ⟨nd, rfl⟩⟩; refine ⟨_, rfl, ?_⟩) | ((with_reducible refine gate_callee (f := 17) rfl ?_); refine goesL_ (some 100) rfl rfl Try.func17 (by kernel_rfl) rfl #[.slice A0 l0.length c0] rfl (by (try simp only [List.map_toArray, List.map_cons, List.map_nil]); first | done | rfl | (simp only [List.length_drop, List.length_take]; rfl)) ?_; (with_reducible refine (laws_toCostSS.calls kj32 _ _ l0 t277 _ ?side1 ?side2 A58.out).mono ?_); (case side1 => repeat (first | exact (Kd.C_below HR0.out (by repeat (first | (with_reducible first | exact HB.out | apply below_alloc | apply pw_below_drewN | apply below_drew1) | exact HB.out))) | (with_reducible refine Kd.C_alloc ?_ _) | (with_reducible refine Kd.C_drewN ?_ _) | (with_reducible refine Kd.C_drew ?_))); (case side2 => exact HC0.out); rintro e w63 ⟨v278, rfl, ho0, hb⟩; refine ⟨_, rfl, ?_⟩; have n0_ := Aside0.mk (Kd.R_below (by (with_reducible repeat (first | apply Kd.R_alloc | apply Kd.R_drewN | apply Kd.R_drew)); exact HO_6.out) hb); have n1_ := Aside0.mk (Kd.R_below (by (with_reducible repeat (first | apply Kd.R_alloc | apply Kd.R_drewN | apply Kd.R_drew)); exact HO_10.out) hb); have n2_ := Aside0.mk (Kd.S_lower ho0 (below_size (by repeat (first | (with_reducible first | exact HB.out | apply below_alloc | apply pw_below_drewN | apply below_drew1) | exact HB.out)))); have n3_ := Aside0.mk (below_step (by repeat (first | (with_reducible first | exact HB.out | apply below_alloc | apply pw_below_drewN | apply below_drew1) | exact HB.out)) hb); clear HO_6; clear HO_10; clear HB; have HO_6 := n0_; have HO_10 := n1_; have HO279 := n2_; have HB := n3_; clear n0_ n1_ n2_ n3_; (try clear hb); (try clear hb2); (try clear hk); (try clear hi); (try clear ho0); obtain ⟨Ao64, co64, eo64⟩ := Kd.S_slice HO279.out; subst eo64) | ((with_reducible refine gate_callee (f := 9) rfl ?_); refine goesL_ (some 102) rfl rfl Try.func9 (by kernel_rfl) rfl #[.slice Ao64 t277.length co64, .int .i64 a1] rfl (by (try simp only [List.map_toArray, List.map_cons, List.map_nil]); first | done | rfl | (simp only [List.length_drop, List.length_take]; rfl)) ?_; (with_reducible refine (impl_BestCuts.calls kj32 _ _ t277 a1 t280 t281 t282 _ ?side1 ?side2 A59.out).mono ?_); (case side1 => repeat (first | exact (Kd.S_reads' HO279.out).2.2 | (with_reducible refine Kd.C_alloc ?_ _) | (with_reducible refine Kd.C_drewN ?_ _) | (with_reducible refine Kd.C_drew ?_))); (case side2 => exact (Kd.S_reads' HO279.out).2.1); rintro e w65 ⟨v283, rfl, ho0, hb⟩; refine ⟨_, rfl, ?_⟩; have n0_ := Aside0.mk (Kd.R_elder' (by (with_reducible repeat (first | apply Kd.R_alloc | apply Kd.R_drewN | apply Kd.R_drew)); exact HO_6.out) (Kd.R_base ho0) hb); have n1_ := Aside0.mk (Kd.R_elder' (by (with_reducible repeat (first | apply Kd.R_alloc | apply Kd.R_drewN | apply Kd.R_drew)); exact HO_10.out) (Kd.R_base ho0) hb); have n2_ := Aside0.mk (Kd.S_below (by (with_reducible repeat (first | apply Kd.S_alloc | apply Kd.S_drewN | apply Kd.S_drew)); exact HO279.out) hb); have n3_ := Aside0.mk (Kd.R_lower (Kd.R_new' (Kd.R_new' ho0 (Kd.R_lt (by (with_reducible repeat (first | apply Kd.R_alloc | apply Kd.R_drewN | apply Kd.R_drew)); exact HO_6.out))) (Kd.R_lt (by (with_reducible repeat (first | apply Kd.R_alloc | apply Kd.R_drewN | apply Kd.R_drew)); exact HO_10.out))) (below_size (by repeat (first | (with_reducible first | exact HB.out | apply below_alloc | apply pw_below_drewN | apply below_drew1) | exact HB.out)))); have n4_ := Aside0.mk (below_step (by repeat (first | (with_reducible first | exact HB.out | apply below_alloc | apply pw_below_drewN | apply below_drew1) | exact HB.out)) hb); clear HO_6; clear HO_10; clear HO279; clear HB; have HO_6 := n0_; have HO_10 := n1_; have HO279 := n2_; have HO284 := n3_; have HB := n4_; clear n0_ n1_ n2_ n3_ n4_; (try clear hb); (try clear hb2); (try clear hk); (try clear hi); (try clear ho0)))
 (try simp only [Act.put, List.setIfInBounds_toArray, List.set_cons_zero, List.set_cons_succ])
 go_cut [122] (fun v122 wc => ∃ (kq : Nat) (x122_59 : Bool), v122 = .bool x122_59 ∧ Aside0 (laws_FnExactBestCuts.j2 kq t275 t274 x122_59 = some r) ∧ Aside0 (kq ≤ kj32) ∧ Aside0 (Kd.R (Kd.int .i64) 2 wc w.heap.size (fun _ => True) (.slice Ao61 t256.length co61) t275) ∧ Aside0 (Below w.heap.size w wc))
 case first =>
  have H := HC60.out
  clear HC60
  replace H := Option.bind_eq_some_iff.mp H
  obtain ⟨t285, A660, H⟩ := H
  replace H : (if t285 = true then ((floatToFloatBits .f32 t281 .f64).bind fun t286 => ((floatToFloatBits .f32 t249 .f64).bind fun t287 => ((laws_sameFloat.f kj32 t286 t287).bind fun t288 => (if t288 = true then (laws_FnExactBestCuts.j2 kj32 t275 t274 (t282 != t250)) else (laws_FnExactBestCuts.j2 kj32 t275 t274 true))))) else (laws_FnExactBestCuts.j2 kj32 t275 t274 true)) = some r := H
  have A66 := Aside0.mk A660
  clear A660
  by_cases c67 : t285 = true
  rotate_left
  ·replace c67 := Bool.eq_false_iff.mpr c67
   subst c67
   have H1 : (laws_FnExactBestCuts.j2 kj32 t275 t274 true) = some r := by rw [if_neg (show ¬ (false = true) by decide)] at H; exact H
   clear H
   have H := H1
   clear H1
   have H' := Aside0.mk H
   clear H
   obtain ⟨Ao76, co76, eo76⟩ := Kd.R_slice HO284.out
   subst eo76
   obtain ⟨Ao77, co77, eo77⟩ := Kd.R_slice HO_6.out
   subst eo77
   go_wp2_with (first | ((with_reducible refine gate_callee (f := 18) rfl ?_); refine goesL_ (some 108) rfl rfl Try.func18 (by kernel_rfl) rfl #[.slice Ao76 t280.length co76, .slice Ao77 t248.length co77] rfl (by (try simp only [List.map_toArray, List.map_cons, List.map_nil]); first | done | rfl | (simp only [List.length_drop, List.length_take]; rfl)) ?_; (with_reducible refine (laws_eqInt64S.calls kj32 _ _ t280 _ _ t248 false _ ?side1 ?side2 ?side3 ?side4 A66.out).mono ?_); (case side1 => repeat (first | exact (Kd.R_reads' HO284.out).2.2 | (with_reducible refine Kd.C_alloc ?_ _) | (with_reducible refine Kd.C_drewN ?_ _) | (with_reducible refine Kd.C_drew ?_))); (case side2 => exact (Kd.R_reads' HO284.out).2.1); (case side3 => repeat (first | exact (Kd.R_reads' HO_6.out).2.2 | (with_reducible refine Kd.C_alloc ?_ _) | (with_reducible refine Kd.C_drewN ?_ _) | (with_reducible refine Kd.C_drew ?_))); (case side4 => exact (Kd.R_reads' HO_6.out).2.1); rintro e w' ⟨rfl, ⟨nd, rfl⟩⟩; refine ⟨_, rfl, ?_⟩))
   go_meet
   case rel => exact ⟨_, (true), (by first|rfl|(simp; done)|(simp [*]; done)), H', ⟨by have := HJ8.out; have := HJ32.out; first | omega | exact Nat.le_refl _⟩, ⟨by (with_reducible repeat (first | apply Kd.R_alloc | apply Kd.R_drewN | apply Kd.R_drew)); exact Kd.R_mono HO_10.out (fun _ hk => trivial)⟩, ⟨by repeat (first | (with_reducible first | exact HB.out | apply below_alloc | apply pw_below_drewN | apply below_drew1) | exact HB.out)⟩⟩
  subst c67
  have H1 : ((floatToFloatBits .f32 t281 .f64).bind fun t286 => ((floatToFloatBits .f32 t249 .f64).bind fun t287 => ((laws_sameFloat.f kj32 t286 t287).bind fun t288 => (if t288 = true then (laws_FnExactBestCuts.j2 kj32 t275 t274 (t282 != t250)) else (laws_FnExactBestCuts.j2 kj32 t275 t274 true))))) = some r := by rw [if_pos rfl] at H; exact H
  clear H
  have H := H1
  clear H1
  replace H := Option.bind_eq_some_iff.mp H
  obtain ⟨t286, F680, H⟩ := H
  replace H : ((floatToFloatBits .f32 t249 .f64).bind fun t287 => ((laws_sameFloat.f kj32 t286 t287).bind fun t288 => (if t288 = true then (laws_FnExactBestCuts.j2 kj32 t275 t274 (t282 != t250)) else (laws_FnExactBestCuts.j2 kj32 t275 t274 true)))) = some r := H
  have F68 := run_float_float (P := Try.prog) F680 26 31 (by kernel_rfl) (by kernel_rfl)
  clear F680
  replace H := Option.bind_eq_some_iff.mp H
  obtain ⟨t287, F690, H⟩ := H
  replace H : ((laws_sameFloat.f kj32 t286 t287).bind fun t288 => (if t288 = true then (laws_FnExactBestCuts.j2 kj32 t275 t274 (t282 != t250)) else (laws_FnExactBestCuts.j2 kj32 t275 t274 true))) = some r := H
  have F69 := run_float_float (P := Try.prog) F690 26 31 (by kernel_rfl) (by kernel_rfl)
  clear F690
  replace H := Option.bind_eq_some_iff.mp H
  obtain ⟨t288, A700, H⟩ := H
  replace H : (if t288 = true then (laws_FnExactBestCuts.j2 kj32 t275 t274 (t282 != t250)) else (laws_FnExactBestCuts.j2 kj32 t275 t274 true)) = some r := H
  have A70 := Aside0.mk A700
  clear A700
  by_cases c71 : t288 = true
  ·subst c71
   have H1 : (laws_FnExactBestCuts.j2 kj32 t275 t274 (t282 != t250)) = some r := by rw [if_pos rfl] at H; exact H
   clear H
   have H := H1
   clear H1
   have H' := Aside0.mk H
   clear H
   obtain ⟨Ao72, co72, eo72⟩ := Kd.R_slice HO284.out
   subst eo72
   obtain ⟨Ao73, co73, eo73⟩ := Kd.R_slice HO_6.out
   subst eo73
   go_wp2_with (first | ((with_reducible refine gate_callee (f := 18) rfl ?_); refine goesL_ (some 108) rfl rfl Try.func18 (by kernel_rfl) rfl #[.slice Ao72 t280.length co72, .slice Ao73 t248.length co73] rfl (by (try simp only [List.map_toArray, List.map_cons, List.map_nil]); first | done | rfl | (simp only [List.length_drop, List.length_take]; rfl)) ?_; (with_reducible refine (laws_eqInt64S.calls kj32 _ _ t280 _ _ t248 true _ ?side1 ?side2 ?side3 ?side4 A66.out).mono ?_); (case side1 => repeat (first | exact (Kd.R_reads' HO284.out).2.2 | (with_reducible refine Kd.C_alloc ?_ _) | (with_reducible refine Kd.C_drewN ?_ _) | (with_reducible refine Kd.C_drew ?_))); (case side2 => exact (Kd.R_reads' HO284.out).2.1); (case side3 => repeat (first | exact (Kd.R_reads' HO_6.out).2.2 | (with_reducible refine Kd.C_alloc ?_ _) | (with_reducible refine Kd.C_drewN ?_ _) | (with_reducible refine Kd.C_drew ?_))); (case side4 => exact (Kd.R_reads' HO_6.out).2.1); rintro e w' ⟨rfl, ⟨nd, rfl⟩⟩; refine ⟨_, rfl, ?_⟩) | (go_at_call 19; (with_reducible refine (laws_sameFloat.calls kj32 t286 t287 true _ A70.out).mono ?_); rintro e w' ⟨rfl, ⟨nd, rfl⟩⟩))
   go_meet
   case rel => exact ⟨_, ((t282 != t250)), (by first|rfl|(simp; done)|(simp [*]; done)), H', ⟨by have := HJ8.out; have := HJ32.out; first | omega | exact Nat.le_refl _⟩, ⟨by (with_reducible repeat (first | apply Kd.R_alloc | apply Kd.R_drewN | apply Kd.R_drew)); exact Kd.R_mono HO_10.out (fun _ hk => trivial)⟩, ⟨by repeat (first | (with_reducible first | exact HB.out | apply below_alloc | apply pw_below_drewN | apply below_drew1) | exact HB.out)⟩⟩
  replace c71 := Bool.eq_false_iff.mpr c71
  subst c71
  have H1 : (laws_FnExactBestCuts.j2 kj32 t275 t274 true) = some r := by rw [if_neg (show ¬ (false = true) by decide)] at H; exact H
  clear H
  have H := H1
  clear H1
  have H' := Aside0.mk H
  clear H
  obtain ⟨Ao74, co74, eo74⟩ := Kd.R_slice HO284.out
  subst eo74
  obtain ⟨Ao75, co75, eo75⟩ := Kd.R_slice HO_6.out
  subst eo75
  go_wp2_with (first | ((with_reducible refine gate_callee (f := 18) rfl ?_); refine goesL_ (some 108) rfl rfl Try.func18 (by kernel_rfl) rfl #[.slice Ao74 t280.length co74, .slice Ao75 t248.length co75] rfl (by (try simp only [List.map_toArray, List.map_cons, List.map_nil]); first | done | rfl | (simp only [List.length_drop, List.length_take]; rfl)) ?_; (with_reducible refine (laws_eqInt64S.calls kj32 _ _ t280 _ _ t248 true _ ?side1 ?side2 ?side3 ?side4 A66.out).mono ?_); (case side1 => repeat (first | exact (Kd.R_reads' HO284.out).2.2 | (with_reducible refine Kd.C_alloc ?_ _) | (with_reducible refine Kd.C_drewN ?_ _) | (with_reducible refine Kd.C_drew ?_))); (case side2 => exact (Kd.R_reads' HO284.out).2.1); (case side3 => repeat (first | exact (Kd.R_reads' HO_6.out).2.2 | (with_reducible refine Kd.C_alloc ?_ _) | (with_reducible refine Kd.C_drewN ?_ _) | (with_reducible refine Kd.C_drew ?_))); (case side4 => exact (Kd.R_reads' HO_6.out).2.1); rintro e w' ⟨rfl, ⟨nd, rfl⟩⟩; refine ⟨_, rfl, ?_⟩) | (go_at_call 19; (with_reducible refine (laws_sameFloat.calls kj32 t286 t287 false _ A70.out).mono ?_); rintro e w' ⟨rfl, ⟨nd, rfl⟩⟩))
  go_meet
  case rel => exact ⟨_, (true), (by first|rfl|(simp; done)|(simp [*]; done)), H', ⟨by have := HJ8.out; have := HJ32.out; first | omega | exact Nat.le_refl _⟩, ⟨by (with_reducible repeat (first | apply Kd.R_alloc | apply Kd.R_drewN | apply Kd.R_drew)); exact Kd.R_mono HO_10.out (fun _ hk => trivial)⟩, ⟨by repeat (first | (with_reducible first | exact HB.out | apply below_alloc | apply pw_below_drewN | apply below_drew1) | exact HB.out)⟩⟩
 clear HC60
 try clear c1
 try clear c2
 try clear p2
 try clear c3
 try clear c4
 try clear c4b0
 try clear c5
 try clear c6
 try clear c7
 try clear c9
 try clear c11
 try clear c16
 try clear c17
 try clear c18
 try clear c20
 try clear c21
 try clear c22
 try clear c23
 try clear c28
 try clear c31
 try clear c38
 try clear c38b0
 try clear c40
 try clear c44
 try clear c51
 try clear c54
 try clear c54b0
 try clear c57
 try clear c57b0
 try clear c57b1
 try clear c67
 try clear c71
 try clear p2
 obtain ⟨kq, x122_59, rfl, HA, HJ59, HO_10, HB⟩ := hcut
 have hl10_59 := (Kd.R_reads' HO_10.out).1
 rw [hl10_59] at HO_10
 (try simp only [hl10_59])
 cases kq with
 | zero => exact absurd HA.out (by simp [laws_FnExactBestCuts.j2])
 | succ kj59 => ?_
 have H := HA.out
 clear HA
 simp only [laws_FnExactBestCuts.j2] at H
 by_cases c78 : x122_59 = true
 ·subst c78
  have H1 : (some false) = some r := by rw [if_pos rfl] at H; exact H
  clear H
  have H := H1
  clear H1
  obtain rfl := Option.some.inj H
  go_wp2
  go_ret
  exact ⟨by first | rfl | (simp [errW_none, errW_some] <;> rfl) | (simp [*, errW_none, errW_some] <;> rfl), by repeat (first | (with_reducible first | exact HB.out | apply below_alloc | apply pw_below_drewN | apply below_drew1) | exact HB.out)⟩
 replace c78 := Bool.eq_false_iff.mpr c78
 subst c78
 have H1 : ((laws_heldInt64S.f kj59 t275 1).bind fun t289 => (if t289 < 0 then (some false) else (if t289 = t274 then (some true) else (some false)))) = some r := by rw [if_neg (show ¬ (false = true) by decide)] at H; exact H
 clear H
 have H := H1
 clear H1
 replace H := Option.bind_eq_some_iff.mp H
 obtain ⟨t289, A790, H⟩ := H
 replace H : (if t289 < 0 then (some false) else (if t289 = t274 then (some true) else (some false))) = some r := H
 have A79 := Aside0.mk A790
 clear A790
 by_cases c80 : t289 < 0
 ·rw [if_pos c80] at H
  have c80b0 : decide (t289 < 0) = true := decide_eq_true c80
  clear c80
  obtain rfl := Option.some.inj H
  go_wp2_with (first | ((with_reducible refine gate_callee (f := 23) rfl ?_); refine goesL_ (some 125) rfl rfl Try.func23 (by kernel_rfl) rfl #[.slice Ao61 t275.length co61, .int .i64 1] rfl (by (try simp only [List.map_toArray, List.map_cons, List.map_nil]); first | done | rfl | (simp only [List.length_drop, List.length_take]; rfl)) ?_; (with_reducible refine (laws_heldInt64S.calls kj59 _ _ t275 1 t289 _ ?side1 ?side2 A79.out).mono ?_); (case side1 => repeat (first | exact (Kd.R_reads' HO_10.out).2.2 | (with_reducible refine Kd.C_alloc ?_ _) | (with_reducible refine Kd.C_drewN ?_ _) | (with_reducible refine Kd.C_drew ?_))); (case side2 => exact (Kd.R_reads' HO_10.out).2.1); rintro e w' ⟨rfl, ⟨nd, rfl⟩⟩; refine ⟨_, rfl, ?_⟩))
  go_ret
  exact ⟨by first | rfl | (simp [errW_none, errW_some] <;> rfl) | (simp [*, errW_none, errW_some] <;> rfl), by repeat (first | (with_reducible first | exact HB.out | apply below_alloc | apply pw_below_drewN | apply below_drew1) | exact HB.out)⟩
 rw [if_neg c80] at H
 have c80b0 : decide (t289 < 0) = false := decide_eq_false c80
 clear c80
 by_cases c81 : t289 = t274
 rotate_left
 ·rw [if_neg c81] at H
  have c81b0 : (t289 == t274) = false := beq_eq_false_iff_ne.mpr c81
  have c81b1 : (t289 != t274) = true := bne_iff_ne.mpr c81
  obtain rfl := Option.some.inj H
  go_wp2_with (first | ((with_reducible refine gate_callee (f := 23) rfl ?_); refine goesL_ (some 125) rfl rfl Try.func23 (by kernel_rfl) rfl #[.slice Ao61 t275.length co61, .int .i64 1] rfl (by (try simp only [List.map_toArray, List.map_cons, List.map_nil]); first | done | rfl | (simp only [List.length_drop, List.length_take]; rfl)) ?_; (with_reducible refine (laws_heldInt64S.calls kj59 _ _ t275 1 t289 _ ?side1 ?side2 A79.out).mono ?_); (case side1 => repeat (first | exact (Kd.R_reads' HO_10.out).2.2 | (with_reducible refine Kd.C_alloc ?_ _) | (with_reducible refine Kd.C_drewN ?_ _) | (with_reducible refine Kd.C_drew ?_))); (case side2 => exact (Kd.R_reads' HO_10.out).2.1); rintro e w' ⟨rfl, ⟨nd, rfl⟩⟩; refine ⟨_, rfl, ?_⟩))
  go_ret
  exact ⟨by first | rfl | (simp [errW_none, errW_some] <;> rfl) | (simp [*, errW_none, errW_some] <;> rfl), by repeat (first | (with_reducible first | exact HB.out | apply below_alloc | apply pw_below_drewN | apply below_drew1) | exact HB.out)⟩
 rw [if_pos c81] at H
 have c81b0 : (t289 == t274) = true := beq_iff_eq.mpr c81
 have c81b1 : (t289 != t274) = false := bne_eq_false_iff_eq.mpr c81
 clear c81
 obtain rfl := Option.some.inj H
 go_wp2_with (first | ((with_reducible refine gate_callee (f := 23) rfl ?_); refine goesL_ (some 125) rfl rfl Try.func23 (by kernel_rfl) rfl #[.slice Ao61 t275.length co61, .int .i64 1] rfl (by (try simp only [List.map_toArray, List.map_cons, List.map_nil]); first | done | rfl | (simp only [List.length_drop, List.length_take]; rfl)) ?_; (with_reducible refine (laws_heldInt64S.calls kj59 _ _ t275 1 t289 _ ?side1 ?side2 A79.out).mono ?_); (case side1 => repeat (first | exact (Kd.R_reads' HO_10.out).2.2 | (with_reducible refine Kd.C_alloc ?_ _) | (with_reducible refine Kd.C_drewN ?_ _) | (with_reducible refine Kd.C_drew ?_))); (case side2 => exact (Kd.R_reads' HO_10.out).2.1); rintro e w' ⟨rfl, ⟨nd, rfl⟩⟩; refine ⟨_, rfl, ?_⟩))
 go_ret
 exact ⟨by first | rfl | (simp [errW_none, errW_some] <;> rfl) | (simp [*, errW_none, errW_some] <;> rfl), by repeat (first | (with_reducible first | exact HB.out | apply below_alloc | apply pw_below_drewN | apply below_drew1) | exact HB.out)⟩
end Go.Proofs.Ytpngjpiodhpbnaa.PFnExactBestCuts
