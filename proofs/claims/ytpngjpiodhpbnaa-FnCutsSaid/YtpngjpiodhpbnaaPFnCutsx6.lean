-- Written by a turned copy of the kit's printer (wip/pf).
import Derived.Test.YtpngjpiodhpbnaaPFnCutsx0
import Derived.Test.YtpngjpiodhpbnaaPFnCutsx5
namespace Go.Proofs.Ytpngjpiodhpbnaa.PFnCuts
open Go.RowKit Go.Proofs.YtpngjpiodhpbnaaW.PrintWords Go.Proofs.YtpngjpiodhpbnaaW.PrintLast Go.Proofs.YtpngjpiodhpbnaaW.PrintMore
attribute [local go_sem] max2_int min2_int max_two min_two max_three min_three max_four min_four   -- for this text's walks alone
attribute [local go_sem high] feq_fold fne_fold flt_fold fle_fold fgt_fold fge_fold fneg_run fsame_run fstore_run
set_option linter.unusedVariables false
set_option linter.unusedSimpArgs false

/-! ### spec_BestCuts: function 11 -/
mutual
def spec_BestCuts.j0 : Nat → List (List (S34)) → Int → Bool → Option (List Int × Nat × Bool)
  | 0, _, _, _ => none
  | k + 1, x0, x1, x29 => if x29 = true then (some (([] : List Int), 0, false)) else (if 0 ≤ (wrap64 (x1 + 1)) then (if (wrap64 (x1 + 1) : Int).toNat ≤ 70368744177664 then (if (wrap64 (x1 + 1) : Int).toNat ≤ 281474976710656 then ((some (List.replicate (wrap64 (x1 + 1) : Int).toNat false : List Bool)).bind fun y230 => (spec_BestCuts.l0 k x0 x1 (List.replicate (wrap64 (x1 + 1) : Int).toNat (0 : Nat)) y230 (y230.length : Int) 0)) else (none)) else (none)) else (none))
def spec_BestCuts.l0 : Nat → List (List (S34)) → Int → List Nat → List Bool → Int → Int → Option (List Int × Nat × Bool)
  | 0, _, _, _, _, _, _ => none
  | k + 1, x0, x1, x7, x8, x37, x38 => if x38 < x37 then (if 0 ≤ x38 then (if x38 < (x8.length : Int) then (spec_BestCuts.l0 k x0 x1 x7 (x8.set (x38 : Int).toNat true) x37 (wrap64 (x38 + 1))) else (none)) else (none)) else (spec_BestCuts.l1 k x0 x1 x7 x8 (([] : List (List Int))) (x0.length : Int) 0)
def spec_BestCuts.l1 : Nat → List (List (S34)) → Int → List Nat → List Bool → List (List Int) → Int → Int → Option (List Int × Nat × Bool)
  | 0, _, _, _, _, _, _, _ => none
  | k + 1, x0, x1, x7, x8, x10, x47, x48 => if x48 < x47 then (if 0 ≤ (wrap64 (x1 + 1)) then (if (wrap64 (x1 + 1) : Int).toNat ≤ 70368744177664 then (if (wrap64 (x1 + 1) : Int).toNat ≤ 281474976710656 then (if (wrap64 (x1 + 1) : Int).toNat ≤ 35184372088832 then (spec_BestCuts.l2 k x0 x1 x7 x8 x10 x48 (List.replicate (wrap64 (x1 + 1) : Int).toNat (0 : Nat)) (List.replicate (wrap64 (x1 + 1) : Int).toNat false) (List.replicate (wrap64 (x1 + 1) : Int).toNat 0) 0 x47 x48) else (none)) else (none)) else (none)) else (none)) else (if 0 ≤ x1 then (if x1 < (x8.length : Int) then (if rdOf false x8 x1 = true then (if x1 < (x7.length : Int) then ((spec_l01Finite.f (rdOf (0 : Nat) x7 x1)).bind fun t264 => (spec_BestCuts.j7 k x0 x1 x7 x10 (!t264))) else (none)) else (spec_BestCuts.j7 k x0 x1 x7 x10 true)) else (none)) else (none))
def spec_BestCuts.l2 : Nat → List (List (S34)) → Int → List Nat → List Bool → List (List Int) → Int → List Nat → List Bool → List Int → Int → Int → Int → Option (List Int × Nat × Bool)
  | 0, _, _, _, _, _, _, _, _, _, _, _, _ => none
  | k + 1, x0, x1, x7, x8, x10, x11, x12, x13, x14, x15, x47, x48 => if x15 ≤ x1 then (if 0 ≤ x11 then (if x11 < (x0.length : Int) then (spec_BestCuts.l3 k x0 x1 x7 x8 x10 x11 x12 x13 x14 x15 x47 x48 ((rd_L4 x0 x11).length : Int) 0) else (none)) else (none)) else (if x10.length < 5864062014805 then (spec_BestCuts.l1 k x0 x1 x12 x13 (x10 ++ [x14]) x47 (wrap64 (x48 + 1))) else (none))
def spec_BestCuts.l3 : Nat → List (List (S34)) → Int → List Nat → List Bool → List (List Int) → Int → List Nat → List Bool → List Int → Int → Int → Int → Int → Int → Option (List Int × Nat × Bool)
  | 0, _, _, _, _, _, _, _, _, _, _, _, _, _, _ => none
  | k + 1, x0, x1, x7, x8, x10, x11, x12, x13, x14, x15, x47, x48, x69, x70 => if x70 < x69 then (if 0 ≤ x11 then (if x11 < (x0.length : Int) then (if 0 ≤ x70 then (if x70 < ((rd_L4 x0 x11).length : Int) then (if (wrap64 (x15 - ((rd_T34 (rd_L4 x0 x11) x70).f0))) < 0 then (spec_BestCuts.j5 k x0 x1 x7 x8 x10 x11 x12 x13 x14 x15 x70 (wrap64 (x15 - ((rd_T34 (rd_L4 x0 x11) x70).f0))) x47 x48 x69 x70 true) else (if 0 ≤ (wrap64 (x15 - ((rd_T34 (rd_L4 x0 x11) x70).f0))) then (if (wrap64 (x15 - ((rd_T34 (rd_L4 x0 x11) x70).f0))) < (x8.length : Int) then (spec_BestCuts.j5 k x0 x1 x7 x8 x10 x11 x12 x13 x14 x15 x70 (wrap64 (x15 - ((rd_T34 (rd_L4 x0 x11) x70).f0))) x47 x48 x69 x70 (!(rdOf false x8 (wrap64 (x15 - ((rd_T34 (rd_L4 x0 x11) x70).f0)))))) else (none)) else (none))) else (none)) else (none)) else (none)) else (none)) else (spec_BestCuts.l2 k x0 x1 x7 x8 x10 x11 x12 x13 x14 (wrap64 (x15 + 1)) x47 x48)
def spec_BestCuts.j5 : Nat → List (List (S34)) → Int → List Nat → List Bool → List (List Int) → Int → List Nat → List Bool → List Int → Int → Int → Int → Int → Int → Int → Int → Bool → Option (List Int × Nat × Bool)
  | 0, _, _, _, _, _, _, _, _, _, _, _, _, _, _, _, _, _ => none
  | k + 1, x0, x1, x7, x8, x10, x11, x12, x13, x14, x15, x16, x17, x47, x48, x69, x70, x91 => if x91 = true then (spec_BestCuts.l3 k x0 x1 x7 x8 x10 x11 x12 x13 x14 x15 x47 x48 x69 (wrap64 (x70 + 1))) else (if 0 ≤ x17 then (if x17 < (x7.length : Int) then (if 0 ≤ x11 then (if x11 < (x0.length : Int) then (if 0 ≤ x16 then (if x16 < ((rd_L4 x0 x11).length : Int) then ((floatBits .add .f32 (rdOf (0 : Nat) x7 x17) ((rd_T34 (rd_L4 x0 x11) x16).f1)).bind fun t256 => (if 0 ≤ x15 then (if x15 < (x13.length : Int) then (if rdOf false x13 x15 = true then (if x15 < (x12.length : Int) then (spec_BestCuts.j6 k x0 x1 x7 x8 x10 x11 x12 x13 x14 x15 x16 t256 x47 x48 x69 x70 (flt .f32 t256 (rdOf (0 : Nat) x12 x15))) else (none)) else (spec_BestCuts.j6 k x0 x1 x7 x8 x10 x11 x12 x13 x14 x15 x16 t256 x47 x48 x69 x70 true)) else (none)) else (none))) else (none)) else (none)) else (none)) else (none)) else (none)) else (none))
def spec_BestCuts.j6 : Nat → List (List (S34)) → Int → List Nat → List Bool → List (List Int) → Int → List Nat → List Bool → List Int → Int → Int → Nat → Int → Int → Int → Int → Bool → Option (List Int × Nat × Bool)
  | 0, _, _, _, _, _, _, _, _, _, _, _, _, _, _, _, _, _ => none
  | k + 1, x0, x1, x7, x8, x10, x11, x12, x13, x14, x15, x16, x18, x47, x48, x69, x70, x117 => if x117 = true then (if 0 ≤ x15 then (if x15 < (x13.length : Int) then (if x15 < (x12.length : Int) then (if x15 < (x14.length : Int) then (spec_BestCuts.l3 k x0 x1 x7 x8 x10 x11 (x12.set (x15 : Int).toNat x18) (x13.set (x15 : Int).toNat true) (x14.set (x15 : Int).toNat x16) x15 x47 x48 x69 (wrap64 (x70 + 1))) else (none)) else (none)) else (none)) else (none)) else (spec_BestCuts.l3 k x0 x1 x7 x8 x10 x11 x12 x13 x14 x15 x47 x48 x69 (wrap64 (x70 + 1)))
def spec_BestCuts.j7 : Nat → List (List (S34)) → Int → List Nat → List (List Int) → Bool → Option (List Int × Nat × Bool)
  | 0, _, _, _, _, _ => none
  | k + 1, x0, x1, x7, x10, x149 => if x149 = true then (some (([] : List Int), 0, false)) else (if 0 ≤ (x0.length : Int) then (if ((x0.length : Int) : Int).toNat ≤ 35184372088832 then (spec_BestCuts.l4 k x0 x1 x7 x10 (List.replicate ((x0.length : Int) : Int).toNat 0) x1 (wrap64 ((x0.length : Int) - 1))) else (none)) else (none))
def spec_BestCuts.l4 : Nat → List (List (S34)) → Int → List Nat → List (List Int) → List Int → Int → Int → Option (List Int × Nat × Bool)
  | 0, _, _, _, _, _, _, _ => none
  | k + 1, x0, x1, x7, x10, x19, x20, x21 => if x21 ≥ 0 then (if 0 ≤ x21 then (if x21 < (x10.length : Int) then (if 0 ≤ x20 then (if x20 < ((rd_L8 x10 x21).length : Int) then (if x21 < (x19.length : Int) then ((some (x19.set (x21 : Int).toNat (rd (rd_L8 x10 x21) x20) : List Int)).bind fun y270 => (if x21 < (x0.length : Int) then (if 0 ≤ (rd y270 x21) then (if (rd y270 x21) < ((rd_L4 x0 x21).length : Int) then (spec_BestCuts.l4 k x0 x1 x7 x10 y270 (wrap64 (x20 - ((rd_T34 (rd_L4 x0 x21) (rd y270 x21)).f0))) (wrap64 (x21 - 1))) else (none)) else (none)) else (none))) else (none)) else (none)) else (none)) else (none)) else (none)) else (if 0 ≤ x1 then (if x1 < (x7.length : Int) then (some (x19, rdOf (0 : Nat) x7 x1, true)) else (none)) else (none))
end
def spec_BestCuts.f (k : Nat) (l0 : List (List (S34))) (a1 : Int) : Option (List Int × Nat × Bool) := (spec_l07Blocks.f k l0).bind fun t225 => (if t225 = true then ((spec_l00In.f a1 0 512).bind fun t226 => (spec_BestCuts.j0 k l0 a1 (!t226))) else (spec_BestCuts.j0 k l0 a1 true))
theorem spec_BestCuts.mono_l : ∀ k, (∀ y0 y1 y2, LeO (spec_BestCuts.j0 k y0 y1 y2) (spec_BestCuts.j0 (k + 1) y0 y1 y2)) ∧ (∀ y0 y1 y2 y3 y4 y5, LeO (spec_BestCuts.l0 k y0 y1 y2 y3 y4 y5) (spec_BestCuts.l0 (k + 1) y0 y1 y2 y3 y4 y5)) ∧ (∀ y0 y1 y2 y3 y4 y5 y6, LeO (spec_BestCuts.l1 k y0 y1 y2 y3 y4 y5 y6) (spec_BestCuts.l1 (k + 1) y0 y1 y2 y3 y4 y5 y6)) ∧ (∀ y0 y1 y2 y3 y4 y5 y6 y7 y8 y9 y10 y11, LeO (spec_BestCuts.l2 k y0 y1 y2 y3 y4 y5 y6 y7 y8 y9 y10 y11) (spec_BestCuts.l2 (k + 1) y0 y1 y2 y3 y4 y5 y6 y7 y8 y9 y10 y11)) ∧ (∀ y0 y1 y2 y3 y4 y5 y6 y7 y8 y9 y10 y11 y12 y13, LeO (spec_BestCuts.l3 k y0 y1 y2 y3 y4 y5 y6 y7 y8 y9 y10 y11 y12 y13) (spec_BestCuts.l3 (k + 1) y0 y1 y2 y3 y4 y5 y6 y7 y8 y9 y10 y11 y12 y13)) ∧ (∀ y0 y1 y2 y3 y4 y5 y6 y7 y8 y9 y10 y11 y12 y13 y14 y15 y16, LeO (spec_BestCuts.j5 k y0 y1 y2 y3 y4 y5 y6 y7 y8 y9 y10 y11 y12 y13 y14 y15 y16) (spec_BestCuts.j5 (k + 1) y0 y1 y2 y3 y4 y5 y6 y7 y8 y9 y10 y11 y12 y13 y14 y15 y16)) ∧ (∀ y0 y1 y2 y3 y4 y5 y6 y7 y8 y9 y10 y11 y12 y13 y14 y15 y16, LeO (spec_BestCuts.j6 k y0 y1 y2 y3 y4 y5 y6 y7 y8 y9 y10 y11 y12 y13 y14 y15 y16) (spec_BestCuts.j6 (k + 1) y0 y1 y2 y3 y4 y5 y6 y7 y8 y9 y10 y11 y12 y13 y14 y15 y16)) ∧ (∀ y0 y1 y2 y3 y4, LeO (spec_BestCuts.j7 k y0 y1 y2 y3 y4) (spec_BestCuts.j7 (k + 1) y0 y1 y2 y3 y4)) ∧ (∀ y0 y1 y2 y3 y4 y5 y6, LeO (spec_BestCuts.l4 k y0 y1 y2 y3 y4 y5 y6) (spec_BestCuts.l4 (k + 1) y0 y1 y2 y3 y4 y5 y6))
  | 0 => ⟨fun _ _ _ r h => by simp [spec_BestCuts.j0] at h, fun _ _ _ _ _ _ r h => by simp [spec_BestCuts.l0] at h, fun _ _ _ _ _ _ _ r h => by simp [spec_BestCuts.l1] at h, fun _ _ _ _ _ _ _ _ _ _ _ _ r h => by simp [spec_BestCuts.l2] at h, fun _ _ _ _ _ _ _ _ _ _ _ _ _ _ r h => by simp [spec_BestCuts.l3] at h, fun _ _ _ _ _ _ _ _ _ _ _ _ _ _ _ _ _ r h => by simp [spec_BestCuts.j5] at h, fun _ _ _ _ _ _ _ _ _ _ _ _ _ _ _ _ _ r h => by simp [spec_BestCuts.j6] at h, fun _ _ _ _ _ r h => by simp [spec_BestCuts.j7] at h, fun _ _ _ _ _ _ _ r h => by simp [spec_BestCuts.l4] at h⟩
  | k + 1 => by
    obtain ⟨ih0, ih1, ih2, ih3, ih4, ih5, ih6, ih7, ih8⟩ := spec_BestCuts.mono_l k
    refine ⟨?_, ?_, ?_, ?_, ?_, ?_, ?_, ?_, ?_⟩
    · intro y0 y1 y2
      unfold spec_BestCuts.j0
      repeat' first
      | (with_reducible exact ih0 _ _ _)
      | (with_reducible exact ih1 _ _ _ _ _ _)
      | (with_reducible exact ih2 _ _ _ _ _ _ _)
      | (with_reducible exact ih3 _ _ _ _ _ _ _ _ _ _ _ _)
      | (with_reducible exact ih4 _ _ _ _ _ _ _ _ _ _ _ _ _ _)
      | (with_reducible exact ih5 _ _ _ _ _ _ _ _ _ _ _ _ _ _ _ _ _)
      | (with_reducible exact ih6 _ _ _ _ _ _ _ _ _ _ _ _ _ _ _ _ _)
      | (with_reducible exact ih7 _ _ _ _ _)
      | (with_reducible exact ih8 _ _ _ _ _ _ _)
      | (with_reducible exact spec_l07Blocks.mono _ _)
      | (with_reducible exact LeO.refl _)
      | (with_reducible exact LeO.none _)
      | (with_reducible refine LeO.ite ?_ ?_)
      | (with_reducible refine LeO.bind ?_ (fun _ => ?_))
      | exact ih0 _ _ _
      | exact ih1 _ _ _ _ _ _
      | exact ih2 _ _ _ _ _ _ _
      | exact ih3 _ _ _ _ _ _ _ _ _ _ _ _
      | exact ih4 _ _ _ _ _ _ _ _ _ _ _ _ _ _
      | exact ih5 _ _ _ _ _ _ _ _ _ _ _ _ _ _ _ _ _
      | exact ih6 _ _ _ _ _ _ _ _ _ _ _ _ _ _ _ _ _
      | exact ih7 _ _ _ _ _
      | exact ih8 _ _ _ _ _ _ _
      | exact spec_l07Blocks.mono _ _
      | exact LeO.none _
      | refine LeO.ite ?_ ?_
      | refine LeO.bind ?_ (fun _ => ?_)
    · intro y0 y1 y2 y3 y4 y5
      unfold spec_BestCuts.l0
      repeat' first
      | (with_reducible exact ih0 _ _ _)
      | (with_reducible exact ih1 _ _ _ _ _ _)
      | (with_reducible exact ih2 _ _ _ _ _ _ _)
      | (with_reducible exact ih3 _ _ _ _ _ _ _ _ _ _ _ _)
      | (with_reducible exact ih4 _ _ _ _ _ _ _ _ _ _ _ _ _ _)
      | (with_reducible exact ih5 _ _ _ _ _ _ _ _ _ _ _ _ _ _ _ _ _)
      | (with_reducible exact ih6 _ _ _ _ _ _ _ _ _ _ _ _ _ _ _ _ _)
      | (with_reducible exact ih7 _ _ _ _ _)
      | (with_reducible exact ih8 _ _ _ _ _ _ _)
      | (with_reducible exact spec_l07Blocks.mono _ _)
      | (with_reducible exact LeO.refl _)
      | (with_reducible exact LeO.none _)
      | (with_reducible refine LeO.ite ?_ ?_)
      | (with_reducible refine LeO.bind ?_ (fun _ => ?_))
      | exact ih0 _ _ _
      | exact ih1 _ _ _ _ _ _
      | exact ih2 _ _ _ _ _ _ _
      | exact ih3 _ _ _ _ _ _ _ _ _ _ _ _
      | exact ih4 _ _ _ _ _ _ _ _ _ _ _ _ _ _
      | exact ih5 _ _ _ _ _ _ _ _ _ _ _ _ _ _ _ _ _
      | exact ih6 _ _ _ _ _ _ _ _ _ _ _ _ _ _ _ _ _
      | exact ih7 _ _ _ _ _
      | exact ih8 _ _ _ _ _ _ _
      | exact spec_l07Blocks.mono _ _
      | exact LeO.none _
      | refine LeO.ite ?_ ?_
      | refine LeO.bind ?_ (fun _ => ?_)
    · intro y0 y1 y2 y3 y4 y5 y6
      unfold spec_BestCuts.l1
      repeat' first
      | (with_reducible exact ih0 _ _ _)
      | (with_reducible exact ih1 _ _ _ _ _ _)
      | (with_reducible exact ih2 _ _ _ _ _ _ _)
      | (with_reducible exact ih3 _ _ _ _ _ _ _ _ _ _ _ _)
      | (with_reducible exact ih4 _ _ _ _ _ _ _ _ _ _ _ _ _ _)
      | (with_reducible exact ih5 _ _ _ _ _ _ _ _ _ _ _ _ _ _ _ _ _)
      | (with_reducible exact ih6 _ _ _ _ _ _ _ _ _ _ _ _ _ _ _ _ _)
      | (with_reducible exact ih7 _ _ _ _ _)
      | (with_reducible exact ih8 _ _ _ _ _ _ _)
      | (with_reducible exact spec_l07Blocks.mono _ _)
      | (with_reducible exact LeO.refl _)
      | (with_reducible exact LeO.none _)
      | (with_reducible refine LeO.ite ?_ ?_)
      | (with_reducible refine LeO.bind ?_ (fun _ => ?_))
      | exact ih0 _ _ _
      | exact ih1 _ _ _ _ _ _
      | exact ih2 _ _ _ _ _ _ _
      | exact ih3 _ _ _ _ _ _ _ _ _ _ _ _
      | exact ih4 _ _ _ _ _ _ _ _ _ _ _ _ _ _
      | exact ih5 _ _ _ _ _ _ _ _ _ _ _ _ _ _ _ _ _
      | exact ih6 _ _ _ _ _ _ _ _ _ _ _ _ _ _ _ _ _
      | exact ih7 _ _ _ _ _
      | exact ih8 _ _ _ _ _ _ _
      | exact spec_l07Blocks.mono _ _
      | exact LeO.none _
      | refine LeO.ite ?_ ?_
      | refine LeO.bind ?_ (fun _ => ?_)
    · intro y0 y1 y2 y3 y4 y5 y6 y7 y8 y9 y10 y11
      unfold spec_BestCuts.l2
      repeat' first
      | (with_reducible exact ih0 _ _ _)
      | (with_reducible exact ih1 _ _ _ _ _ _)
      | (with_reducible exact ih2 _ _ _ _ _ _ _)
      | (with_reducible exact ih3 _ _ _ _ _ _ _ _ _ _ _ _)
      | (with_reducible exact ih4 _ _ _ _ _ _ _ _ _ _ _ _ _ _)
      | (with_reducible exact ih5 _ _ _ _ _ _ _ _ _ _ _ _ _ _ _ _ _)
      | (with_reducible exact ih6 _ _ _ _ _ _ _ _ _ _ _ _ _ _ _ _ _)
      | (with_reducible exact ih7 _ _ _ _ _)
      | (with_reducible exact ih8 _ _ _ _ _ _ _)
      | (with_reducible exact spec_l07Blocks.mono _ _)
      | (with_reducible exact LeO.refl _)
      | (with_reducible exact LeO.none _)
      | (with_reducible refine LeO.ite ?_ ?_)
      | (with_reducible refine LeO.bind ?_ (fun _ => ?_))
      | exact ih0 _ _ _
      | exact ih1 _ _ _ _ _ _
      | exact ih2 _ _ _ _ _ _ _
      | exact ih3 _ _ _ _ _ _ _ _ _ _ _ _
      | exact ih4 _ _ _ _ _ _ _ _ _ _ _ _ _ _
      | exact ih5 _ _ _ _ _ _ _ _ _ _ _ _ _ _ _ _ _
      | exact ih6 _ _ _ _ _ _ _ _ _ _ _ _ _ _ _ _ _
      | exact ih7 _ _ _ _ _
      | exact ih8 _ _ _ _ _ _ _
      | exact spec_l07Blocks.mono _ _
      | exact LeO.none _
      | refine LeO.ite ?_ ?_
      | refine LeO.bind ?_ (fun _ => ?_)
    · intro y0 y1 y2 y3 y4 y5 y6 y7 y8 y9 y10 y11 y12 y13
      unfold spec_BestCuts.l3
      repeat' first
      | (with_reducible exact ih0 _ _ _)
      | (with_reducible exact ih1 _ _ _ _ _ _)
      | (with_reducible exact ih2 _ _ _ _ _ _ _)
      | (with_reducible exact ih3 _ _ _ _ _ _ _ _ _ _ _ _)
      | (with_reducible exact ih4 _ _ _ _ _ _ _ _ _ _ _ _ _ _)
      | (with_reducible exact ih5 _ _ _ _ _ _ _ _ _ _ _ _ _ _ _ _ _)
      | (with_reducible exact ih6 _ _ _ _ _ _ _ _ _ _ _ _ _ _ _ _ _)
      | (with_reducible exact ih7 _ _ _ _ _)
      | (with_reducible exact ih8 _ _ _ _ _ _ _)
      | (with_reducible exact spec_l07Blocks.mono _ _)
      | (with_reducible exact LeO.refl _)
      | (with_reducible exact LeO.none _)
      | (with_reducible refine LeO.ite ?_ ?_)
      | (with_reducible refine LeO.bind ?_ (fun _ => ?_))
      | exact ih0 _ _ _
      | exact ih1 _ _ _ _ _ _
      | exact ih2 _ _ _ _ _ _ _
      | exact ih3 _ _ _ _ _ _ _ _ _ _ _ _
      | exact ih4 _ _ _ _ _ _ _ _ _ _ _ _ _ _
      | exact ih5 _ _ _ _ _ _ _ _ _ _ _ _ _ _ _ _ _
      | exact ih6 _ _ _ _ _ _ _ _ _ _ _ _ _ _ _ _ _
      | exact ih7 _ _ _ _ _
      | exact ih8 _ _ _ _ _ _ _
      | exact spec_l07Blocks.mono _ _
      | exact LeO.none _
      | refine LeO.ite ?_ ?_
      | refine LeO.bind ?_ (fun _ => ?_)
    · intro y0 y1 y2 y3 y4 y5 y6 y7 y8 y9 y10 y11 y12 y13 y14 y15 y16
      unfold spec_BestCuts.j5
      repeat' first
      | (with_reducible exact ih0 _ _ _)
      | (with_reducible exact ih1 _ _ _ _ _ _)
      | (with_reducible exact ih2 _ _ _ _ _ _ _)
      | (with_reducible exact ih3 _ _ _ _ _ _ _ _ _ _ _ _)
      | (with_reducible exact ih4 _ _ _ _ _ _ _ _ _ _ _ _ _ _)
      | (with_reducible exact ih5 _ _ _ _ _ _ _ _ _ _ _ _ _ _ _ _ _)
      | (with_reducible exact ih6 _ _ _ _ _ _ _ _ _ _ _ _ _ _ _ _ _)
      | (with_reducible exact ih7 _ _ _ _ _)
      | (with_reducible exact ih8 _ _ _ _ _ _ _)
      | (with_reducible exact spec_l07Blocks.mono _ _)
      | (with_reducible exact LeO.refl _)
      | (with_reducible exact LeO.none _)
      | (with_reducible refine LeO.ite ?_ ?_)
      | (with_reducible refine LeO.bind ?_ (fun _ => ?_))
      | exact ih0 _ _ _
      | exact ih1 _ _ _ _ _ _
      | exact ih2 _ _ _ _ _ _ _
      | exact ih3 _ _ _ _ _ _ _ _ _ _ _ _
      | exact ih4 _ _ _ _ _ _ _ _ _ _ _ _ _ _
      | exact ih5 _ _ _ _ _ _ _ _ _ _ _ _ _ _ _ _ _
      | exact ih6 _ _ _ _ _ _ _ _ _ _ _ _ _ _ _ _ _
      | exact ih7 _ _ _ _ _
      | exact ih8 _ _ _ _ _ _ _
      | exact spec_l07Blocks.mono _ _
      | exact LeO.none _
      | refine LeO.ite ?_ ?_
      | refine LeO.bind ?_ (fun _ => ?_)
    · intro y0 y1 y2 y3 y4 y5 y6 y7 y8 y9 y10 y11 y12 y13 y14 y15 y16
      unfold spec_BestCuts.j6
      repeat' first
      | (with_reducible exact ih0 _ _ _)
      | (with_reducible exact ih1 _ _ _ _ _ _)
      | (with_reducible exact ih2 _ _ _ _ _ _ _)
      | (with_reducible exact ih3 _ _ _ _ _ _ _ _ _ _ _ _)
      | (with_reducible exact ih4 _ _ _ _ _ _ _ _ _ _ _ _ _ _)
      | (with_reducible exact ih5 _ _ _ _ _ _ _ _ _ _ _ _ _ _ _ _ _)
      | (with_reducible exact ih6 _ _ _ _ _ _ _ _ _ _ _ _ _ _ _ _ _)
      | (with_reducible exact ih7 _ _ _ _ _)
      | (with_reducible exact ih8 _ _ _ _ _ _ _)
      | (with_reducible exact spec_l07Blocks.mono _ _)
      | (with_reducible exact LeO.refl _)
      | (with_reducible exact LeO.none _)
      | (with_reducible refine LeO.ite ?_ ?_)
      | (with_reducible refine LeO.bind ?_ (fun _ => ?_))
      | exact ih0 _ _ _
      | exact ih1 _ _ _ _ _ _
      | exact ih2 _ _ _ _ _ _ _
      | exact ih3 _ _ _ _ _ _ _ _ _ _ _ _
      | exact ih4 _ _ _ _ _ _ _ _ _ _ _ _ _ _
      | exact ih5 _ _ _ _ _ _ _ _ _ _ _ _ _ _ _ _ _
      | exact ih6 _ _ _ _ _ _ _ _ _ _ _ _ _ _ _ _ _
      | exact ih7 _ _ _ _ _
      | exact ih8 _ _ _ _ _ _ _
      | exact spec_l07Blocks.mono _ _
      | exact LeO.none _
      | refine LeO.ite ?_ ?_
      | refine LeO.bind ?_ (fun _ => ?_)
    · intro y0 y1 y2 y3 y4
      unfold spec_BestCuts.j7
      repeat' first
      | (with_reducible exact ih0 _ _ _)
      | (with_reducible exact ih1 _ _ _ _ _ _)
      | (with_reducible exact ih2 _ _ _ _ _ _ _)
      | (with_reducible exact ih3 _ _ _ _ _ _ _ _ _ _ _ _)
      | (with_reducible exact ih4 _ _ _ _ _ _ _ _ _ _ _ _ _ _)
      | (with_reducible exact ih5 _ _ _ _ _ _ _ _ _ _ _ _ _ _ _ _ _)
      | (with_reducible exact ih6 _ _ _ _ _ _ _ _ _ _ _ _ _ _ _ _ _)
      | (with_reducible exact ih7 _ _ _ _ _)
      | (with_reducible exact ih8 _ _ _ _ _ _ _)
      | (with_reducible exact spec_l07Blocks.mono _ _)
      | (with_reducible exact LeO.refl _)
      | (with_reducible exact LeO.none _)
      | (with_reducible refine LeO.ite ?_ ?_)
      | (with_reducible refine LeO.bind ?_ (fun _ => ?_))
      | exact ih0 _ _ _
      | exact ih1 _ _ _ _ _ _
      | exact ih2 _ _ _ _ _ _ _
      | exact ih3 _ _ _ _ _ _ _ _ _ _ _ _
      | exact ih4 _ _ _ _ _ _ _ _ _ _ _ _ _ _
      | exact ih5 _ _ _ _ _ _ _ _ _ _ _ _ _ _ _ _ _
      | exact ih6 _ _ _ _ _ _ _ _ _ _ _ _ _ _ _ _ _
      | exact ih7 _ _ _ _ _
      | exact ih8 _ _ _ _ _ _ _
      | exact spec_l07Blocks.mono _ _
      | exact LeO.none _
      | refine LeO.ite ?_ ?_
      | refine LeO.bind ?_ (fun _ => ?_)
    · intro y0 y1 y2 y3 y4 y5 y6
      unfold spec_BestCuts.l4
      repeat' first
      | (with_reducible exact ih0 _ _ _)
      | (with_reducible exact ih1 _ _ _ _ _ _)
      | (with_reducible exact ih2 _ _ _ _ _ _ _)
      | (with_reducible exact ih3 _ _ _ _ _ _ _ _ _ _ _ _)
      | (with_reducible exact ih4 _ _ _ _ _ _ _ _ _ _ _ _ _ _)
      | (with_reducible exact ih5 _ _ _ _ _ _ _ _ _ _ _ _ _ _ _ _ _)
      | (with_reducible exact ih6 _ _ _ _ _ _ _ _ _ _ _ _ _ _ _ _ _)
      | (with_reducible exact ih7 _ _ _ _ _)
      | (with_reducible exact ih8 _ _ _ _ _ _ _)
      | (with_reducible exact spec_l07Blocks.mono _ _)
      | (with_reducible exact LeO.refl _)
      | (with_reducible exact LeO.none _)
      | (with_reducible refine LeO.ite ?_ ?_)
      | (with_reducible refine LeO.bind ?_ (fun _ => ?_))
      | exact ih0 _ _ _
      | exact ih1 _ _ _ _ _ _
      | exact ih2 _ _ _ _ _ _ _
      | exact ih3 _ _ _ _ _ _ _ _ _ _ _ _
      | exact ih4 _ _ _ _ _ _ _ _ _ _ _ _ _ _
      | exact ih5 _ _ _ _ _ _ _ _ _ _ _ _ _ _ _ _ _
      | exact ih6 _ _ _ _ _ _ _ _ _ _ _ _ _ _ _ _ _
      | exact ih7 _ _ _ _ _
      | exact ih8 _ _ _ _ _ _ _
      | exact spec_l07Blocks.mono _ _
      | exact LeO.none _
      | refine LeO.ite ?_ ?_
      | refine LeO.bind ?_ (fun _ => ?_)
theorem spec_BestCuts.mono : ∀ a0 a1 k, LeO (spec_BestCuts.f k a0 a1) (spec_BestCuts.f (k + 1) a0 a1) := by
  intro a0 a1 k
  obtain ⟨ih0, ih1, ih2, ih3, ih4, ih5, ih6, ih7, ih8⟩ := spec_BestCuts.mono_l k
  unfold spec_BestCuts.f
  repeat' first
      | (with_reducible exact ih0 _ _ _)
      | (with_reducible exact ih1 _ _ _ _ _ _)
      | (with_reducible exact ih2 _ _ _ _ _ _ _)
      | (with_reducible exact ih3 _ _ _ _ _ _ _ _ _ _ _ _)
      | (with_reducible exact ih4 _ _ _ _ _ _ _ _ _ _ _ _ _ _)
      | (with_reducible exact ih5 _ _ _ _ _ _ _ _ _ _ _ _ _ _ _ _ _)
      | (with_reducible exact ih6 _ _ _ _ _ _ _ _ _ _ _ _ _ _ _ _ _)
      | (with_reducible exact ih7 _ _ _ _ _)
      | (with_reducible exact ih8 _ _ _ _ _ _ _)
      | (with_reducible exact spec_l07Blocks.mono _ _)
      | (with_reducible exact LeO.refl _)
      | (with_reducible exact LeO.none _)
      | (with_reducible refine LeO.ite ?_ ?_)
      | (with_reducible refine LeO.bind ?_ (fun _ => ?_))
      | exact ih0 _ _ _
      | exact ih1 _ _ _ _ _ _
      | exact ih2 _ _ _ _ _ _ _
      | exact ih3 _ _ _ _ _ _ _ _ _ _ _ _
      | exact ih4 _ _ _ _ _ _ _ _ _ _ _ _ _ _
      | exact ih5 _ _ _ _ _ _ _ _ _ _ _ _ _ _ _ _ _
      | exact ih6 _ _ _ _ _ _ _ _ _ _ _ _ _ _ _ _ _
      | exact ih7 _ _ _ _ _
      | exact ih8 _ _ _ _ _ _ _
      | exact spec_l07Blocks.mono _ _
      | exact LeO.none _
      | refine LeO.ite ?_ ?_
      | refine LeO.bind ?_ (fun _ => ?_)
set_option maxHeartbeats 8000000 in
set_option maxRecDepth 100000 in
theorem spec_BestCuts.calls (k : Nat) (A0 : Option Addr) (c0 : Nat) (l0 : List (List (S34))) (a1 : Int) (r1 : List Int) (r2 : Nat) (r3 : Bool) (w : World) (hr0 : Kd.C (Kd.slice 34 k34) w A0 l0.length l0) (hc0 : l0.length ≤ c0) (h : spec_BestCuts.f k l0 a1 = some (r1, r2, r3)) :
    Calls Try.prog 11 #[.slice A0 l0.length c0, .int .i64 a1] w fun e w' => ∃ v0_ : Value, e = .returned (.tuple #[v0_, .float .f32 r2, .bool r3]) ∧ Kd.R (Kd.int .i64) 2 w' w.heap.size (fun _ => True) v0_ r1 ∧ Below w.heap.size w w' := by
 have HR0 := Aside0.mk hr0
 have HC0 := Aside0.mk hc0
 clear hr0 hc0
 have HB := Aside0.mk (Below.refl w.heap.size w)
 have H : ((spec_l07Blocks.f k l0).bind fun t225 => (if t225 = true then ((spec_l00In.f a1 0 512).bind fun t226 => (spec_BestCuts.j0 k l0 a1 (!t226))) else (spec_BestCuts.j0 k l0 a1 true))) = some (r1, r2, r3) := h
 clear h
 have HC3 := Aside0.mk H
 clear H
 go_enter Try.func11, Try.ntmps11
 go_upto_region 1 with (fail)
 go_cut [29] (fun v29 wc => ∃ (kq : Nat) (x29_2 : Bool), v29 = .bool x29_2 ∧ Aside0 (spec_BestCuts.j0 kq l0 a1 x29_2 = some (r1, r2, r3)) ∧ Aside0 (kq ≤ k) ∧ Aside0 (Below w.heap.size w wc))
 case first =>
  have H := HC3.out
  clear HC3
  replace H := Option.bind_eq_some_iff.mp H
  obtain ⟨t225, A40, H⟩ := H
  replace H : (if t225 = true then ((spec_l00In.f a1 0 512).bind fun t226 => (spec_BestCuts.j0 k l0 a1 (!t226))) else (spec_BestCuts.j0 k l0 a1 true)) = some (r1, r2, r3) := H
  have A4 := Aside0.mk A40
  clear A40
  by_cases c5 : t225 = true
  rotate_left
  ·replace c5 := Bool.eq_false_iff.mpr c5
   subst c5
   have H1 : (spec_BestCuts.j0 k l0 a1 true) = some (r1, r2, r3) := by rw [if_neg (show ¬ (false = true) by decide)] at H; exact H
   clear H
   have H := H1
   clear H1
   have H' := Aside0.mk H
   clear H
   go_wp2_with (first | (go_at_call 31; (with_reducible refine (spec_l07Blocks.calls k _ _ l0 false _ ?side1 ?side2 A4.out).mono ?_); (case side1 => repeat (first | exact (Kd.C_below HR0.out HB.out) | (with_reducible refine Kd.C_alloc ?_ _) | (with_reducible refine Kd.C_drewN ?_ _) | (with_reducible refine Kd.C_drew ?_))); (case side2 => exact HC0.out); rintro e w' ⟨rfl, ⟨nd, rfl⟩⟩; (try first | exact ⟨rfl, _, World.drewN_drewN _ _ _⟩ | exact ⟨rfl, _, Eq.trans (World.drewN_drewN _ _ _) (congrArg (World.drewN _) (Nat.add_assoc _ _ _))⟩)))
   go_meet
   case rel => exact ⟨_, (true), (by first|rfl|(simp; done)|(simp [*]; done)), H', ⟨by first | omega | exact Nat.le_refl _⟩, ⟨by repeat (first | (with_reducible first | exact HB.out | apply below_alloc | apply pw_below_drewN | apply below_drew1) | exact HB.out)⟩⟩
  subst c5
  have H1 : ((spec_l00In.f a1 0 512).bind fun t226 => (spec_BestCuts.j0 k l0 a1 (!t226))) = some (r1, r2, r3) := by rw [if_pos rfl] at H; exact H
  clear H
  have H := H1
  clear H1
  replace H := Option.bind_eq_some_iff.mp H
  obtain ⟨t226, A60, H⟩ := H
  replace H : (spec_BestCuts.j0 k l0 a1 (!t226)) = some (r1, r2, r3) := H
  have A6 := Aside0.mk A60
  clear A60
  have H' := Aside0.mk H
  clear H
  go_wp2_with (first | (go_at_call 31; (with_reducible refine (spec_l07Blocks.calls k _ _ l0 true _ ?side1 ?side2 A4.out).mono ?_); (case side1 => repeat (first | exact (Kd.C_below HR0.out HB.out) | (with_reducible refine Kd.C_alloc ?_ _) | (with_reducible refine Kd.C_drewN ?_ _) | (with_reducible refine Kd.C_drew ?_))); (case side2 => exact HC0.out); rintro e w' ⟨rfl, ⟨nd, rfl⟩⟩; (try first | exact ⟨rfl, _, World.drewN_drewN _ _ _⟩ | exact ⟨rfl, _, Eq.trans (World.drewN_drewN _ _ _) (congrArg (World.drewN _) (Nat.add_assoc _ _ _))⟩)) | (go_at_call 32; (with_reducible refine (spec_l00In.calls a1 0 512 t226 _ A6.out).mono ?_); rintro e w' ⟨rfl, ⟨nd, rfl⟩⟩; (try first | exact ⟨rfl, _, World.drewN_drewN _ _ _⟩ | exact ⟨rfl, _, Eq.trans (World.drewN_drewN _ _ _) (congrArg (World.drewN _) (Nat.add_assoc _ _ _))⟩)))
  go_meet
  case rel => exact ⟨_, (!t226), (by first|rfl|(simp; done)|(simp [*]; done)), H', ⟨by first | omega | exact Nat.le_refl _⟩, ⟨by repeat (first | (with_reducible first | exact HB.out | apply below_alloc | apply pw_below_drewN | apply below_drew1) | exact HB.out)⟩⟩
 clear HC3
 try clear c1
 try clear p2
 try clear c5
 obtain ⟨kq, x29_2, rfl, HA, HJ2, HB⟩ := hcut
 cases kq with
 | zero => exact absurd HA.out (by simp [spec_BestCuts.j0])
 | succ kj2 => ?_
 have H := HA.out
 clear HA
 simp only [spec_BestCuts.j0] at H
 by_cases c7 : x29_2 = true
 ·subst c7
  have H1 : (some (([] : List Int), 0, false)) = some (r1, r2, r3) := by rw [if_pos rfl] at H; exact H
  clear H
  have H := H1
  clear H1
  simp only [Option.some.injEq, Prod.mk.injEq] at H
  obtain ⟨rfl, rfl, rfl⟩ := H
  go_wp2
  go_ret3
  exact ⟨_, by first | rfl | (simp [errW_none, errW_some] <;> rfl) | (simp [*, errW_none, errW_some] <;> rfl), by first | exact Kd.R_nil _ _ _ _ _ | exact Kd.N_nil _ _ _ _ _ | exact Kd.V_nil _ _ _ _ _ | exact Kd.Q_nil _ _ _ _ _ | exact Kd.S_nil _ _ _ _ _, by repeat (first | (with_reducible first | exact HB.out | apply below_alloc | apply pw_below_drewN | apply below_drew1) | exact HB.out)⟩
 replace c7 := Bool.eq_false_iff.mpr c7
 subst c7
 have H1 : (if 0 ≤ (wrap64 (a1 + 1)) then (if (wrap64 (a1 + 1) : Int).toNat ≤ 70368744177664 then (if (wrap64 (a1 + 1) : Int).toNat ≤ 281474976710656 then ((some (List.replicate (wrap64 (a1 + 1) : Int).toNat false : List Bool)).bind fun y230 => (spec_BestCuts.l0 kj2 l0 a1 (List.replicate (wrap64 (a1 + 1) : Int).toNat (0 : Nat)) y230 (y230.length : Int) 0)) else (none)) else (none)) else (none)) = some (r1, r2, r3) := by rw [if_neg (show ¬ (false = true) by decide)] at H; exact H
 clear H
 have H := H1
 clear H1
 obtain ⟨ji8, hji8⟩ : ∃ j_ : Int, (wrap64 (a1 + 1)) = j_ := ⟨_, rfl⟩
 replace H : (if 0 ≤ (ji8) then (if (ji8 : Int).toNat ≤ 70368744177664 then (if (ji8 : Int).toNat ≤ 281474976710656 then ((some (List.replicate (ji8 : Int).toNat false : List Bool)).bind fun y230 => (spec_BestCuts.l0 kj2 l0 a1 (List.replicate (ji8 : Int).toNat (0 : Nat)) y230 (y230.length : Int) 0)) else (none)) else (none)) else (none)) = some (r1, r2, r3) := by first | (rw [hji8] at H; exact H) | (simp only [hji8] at H ⊢; exact H)
 have hji8w : (IntKind.i64.wrap (a1 + 1)) = ji8 := (i64_w _).trans hji8
 by_cases c9 : 0 ≤ (ji8)
 rotate_left
 ·rw [if_neg c9] at H
  exact absurd H (by simp)
 rw [if_pos c9] at H
 have c9b0 := eq_true c9
 have c9b1 : decide (0 ≤ (ji8)) = true := decide_eq_true c9
 clear c9
 by_cases c10 : (ji8 : Int).toNat ≤ 70368744177664
 rotate_left
 ·rw [if_neg c10] at H
  exact absurd H (by simp)
 rw [if_pos c10] at H
 have c10b0 := eq_true c10
 have c10b1 : decide ((ji8 : Int).toNat ≤ 70368744177664) = true := decide_eq_true c10
 clear c10
 obtain ⟨y227, hy227⟩ : ∃ y_ : List Nat, y_ = (List.replicate (ji8 : Int).toNat (0 : Nat)) := ⟨_, rfl⟩
 replace H : (if (ji8 : Int).toNat ≤ 281474976710656 then ((some (List.replicate (ji8 : Int).toNat false : List Bool)).bind fun y230 => (spec_BestCuts.l0 kj2 l0 a1 y227 y230 (y230.length : Int) 0)) else (none)) = some (r1, r2, r3) := by first | (rw [hy227]; with_reducible exact H) | (have H2_ := (Option.bind_some _ _).symm.trans H; rw [hy227]; with_reducible exact H2_) | (have H2_ := (Option.bind_some _ _).symm.trans H; with_reducible exact H2_) | with_reducible exact H | (rw [hy227]; exact H) | exact H
 have Ny227 := Aside0.mk hy227
 clear hy227
 by_cases c11 : (ji8 : Int).toNat ≤ 281474976710656
 rotate_left
 ·rw [if_neg c11] at H
  exact absurd H (by simp)
 rw [if_pos c11] at H
 have c11b0 := eq_true c11
 have c11b1 : decide ((ji8 : Int).toNat ≤ 281474976710656) = true := decide_eq_true c11
 clear c11
 obtain ⟨y230, hy230⟩ : ∃ y_ : List Bool, y_ = (List.replicate (ji8 : Int).toNat false) := ⟨_, rfl⟩
 replace H : (spec_BestCuts.l0 kj2 l0 a1 y227 y230 (y230.length : Int) 0) = some (r1, r2, r3) := by first | (rw [hy230]; with_reducible exact H) | (have H2_ := (Option.bind_some _ _).symm.trans H; rw [hy230]; with_reducible exact H2_) | (have H2_ := (Option.bind_some _ _).symm.trans H; with_reducible exact H2_) | with_reducible exact H | (rw [hy230]; exact H) | exact H
 have Ny230 := Aside0.mk hy230
 clear hy230
 have H' := Aside0.mk H
 clear H
 go_wp2_with (first | ((with_reducible refine gate_dst (N := 32) rfl ?_); refine Kd.R_make (Kd.float .f32) _ 26 rfl (N := 32) rfl 62 _ _ rfl ji8 rfl rfl Try.underlying62 (.float .f32 0) 4 info26 rfl (by decide) (by omega) (0 : Nat) (ok := fun _ => True) (okp := fun _ => True) rfl (fun _ hk => hk) trivial (of_decide_eq_true (by first | (with_reducible assumption) | assumption)) (Nat.le_trans (Nat.mul_le_mul_right _ (of_decide_eq_true (by first | (with_reducible assumption) | assumption) : ji8.toNat ≤ 70368744177664)) (by omega)) (Below.refl _ _) (Nat.le_refl _) ?_; intro v228 w12 ho13 hb hg_ hnew_; clear hg_ hnew_; (first | rw [← Ny227.out] at ho13 | (simp only [Int.reduceToNat] at ho13; rw [← Ny227.out] at ho13)); have n0_ := Aside0.mk (Kd.R_lower ho13 (below_size (by repeat (first | (with_reducible first | exact HB.out | apply below_alloc | apply pw_below_drewN | apply below_drew1) | exact HB.out)))); have n1_ := Aside0.mk (below_step (by repeat (first | (with_reducible first | exact HB.out | apply below_alloc | apply pw_below_drewN | apply below_drew1) | exact HB.out)) hb); clear HB; have HO229 := n0_; have HB := n1_; clear n0_ n1_; clear hb ho13) | ((with_reducible refine gate_dst (N := 35) rfl ?_); refine Kd.R_make Kd.bool _ 4 rfl (N := 35) rfl 63 _ _ rfl ji8 rfl rfl Try.underlying63 (.bool false) 1 info4 rfl (by decide) (by omega) false (ok := fun _ => True) (okp := fun _ => True) rfl (fun _ hk => hk) trivial (of_decide_eq_true (by first | (with_reducible assumption) | assumption)) (Nat.le_trans (Nat.mul_le_mul_right _ (of_decide_eq_true (by first | (with_reducible assumption) | assumption) : ji8.toNat ≤ 281474976710656)) (by omega)) (Below.refl _ _) (Nat.le_refl _) ?_; intro v231 w14 ho15 hb hg_ hnew_; clear hg_ hnew_; (first | rw [← Ny230.out] at ho15 | (simp only [Int.reduceToNat] at ho15; rw [← Ny230.out] at ho15)); have n0_ := Aside0.mk (Kd.R_below (by (with_reducible repeat (first | apply Kd.R_alloc | apply Kd.R_drewN | apply Kd.R_drew)); exact HO229.out) hb); have n1_ := Aside0.mk (Kd.R_lower ho15 (below_size (by repeat (first | (with_reducible first | exact HB.out | apply below_alloc | apply pw_below_drewN | apply below_drew1) | exact HB.out)))); have n2_ := Aside0.mk (below_step (by repeat (first | (with_reducible first | exact HB.out | apply below_alloc | apply pw_below_drewN | apply below_drew1) | exact HB.out)) hb); clear HO229; clear HB; have HO229 := n0_; have HO232 := n1_; have HB := n2_; clear n0_ n1_ n2_; clear hb ho15; obtain ⟨Ao16, co16, eo16⟩ := Kd.R_slice HO232.out; subst eo16))
 go_loopg [38] kj2 (fun kq v38 w' => ∃ (x8_2 : List Bool) (x38_2 : Int), v38 = .int .i64 x38_2 ∧ Aside0 (spec_BestCuts.l0 kq l0 a1 y227 x8_2 (y230.length : Int) x38_2 = some (r1, r2, r3)) ∧ Aside0 (kq ≤ kj2) ∧ Aside0 (Kd.R (Kd.float .f32) 26 w' w.heap.size (fun _ => True) v228 y227) ∧ Aside0 (Kd.R Kd.bool 4 w' w.heap.size (fun _ => True) (.slice Ao16 y230.length co16) x8_2) ∧ Aside0 (Below w.heap.size w w'))
 case atStart => exact ⟨(y230), (0), (by first|rfl|(simp; done)|(simp [*]; done)), H', ⟨Nat.le_refl _⟩, ⟨by (with_reducible repeat (first | apply Kd.R_alloc | apply Kd.R_drewN | apply Kd.R_drew)); exact HO229.out⟩, ⟨by (with_reducible repeat (first | apply Kd.R_alloc | apply Kd.R_drewN | apply Kd.R_drew)); exact HO232.out⟩, ⟨by repeat (first | (with_reducible first | exact HB.out | apply below_alloc | apply pw_below_drewN | apply below_drew1) | exact HB.out)⟩⟩
 clear H'
 try clear c1
 try clear p2
 try clear c5
 try clear p6
 try clear c7
 try clear c9
 try clear c9b0
 try clear c9b1
 try clear c10
 try clear c10b0
 try clear c10b1
 try clear c11
 try clear c11b0
 try clear c11b1
 try clear p2
 obtain ⟨x8_2, x38_2, rfl, HA, HK2, HO_7, HO_8, HB⟩ := hrel
 have hl8_2 := (Kd.R_reads' HO_8.out).1
 rw [hl8_2] at HO_8
 (try simp only [hl8_2])
 (try simp only [hl8_2] at HO_7)
 cases gk with
 | zero => exact absurd HA.out (by simp [spec_BestCuts.l0])
 | succ k2 => ?_
 have H := HA.out
 clear HA
 simp only [spec_BestCuts.l0] at H
 by_cases c17 : x38_2 < (y230.length : Int)
 ·rw [if_pos c17] at H
  have c17b0 : decide (x38_2 < (y230.length : Int)) = true := decide_eq_true c17
  (try (have c17l0 := c17b0; simp only [hl8_2] at c17l0))
  clear c17
  by_cases c18 : 0 ≤ x38_2
  rotate_left
  ·rw [if_neg c18] at H
   exact absurd H (by simp)
  rw [if_pos c18] at H
  have c18b0 : decide (0 ≤ x38_2) = true := decide_eq_true c18
  clear c18
  by_cases c19 : x38_2 < (x8_2.length : Int)
  rotate_left
  ·rw [if_neg c19] at H
   exact absurd H (by simp)
  rw [if_pos c19] at H
  have c19b0 : decide (x38_2 < (x8_2.length : Int)) = true := decide_eq_true c19
  (try (have c19l0 := c19b0; simp only [hl8_2] at c19l0))
  clear c19
  obtain ⟨y233, hy233⟩ : ∃ y_ : List Bool, y_ = (x8_2.set (x38_2 : Int).toNat true) := ⟨_, rfl⟩
  replace H : (spec_BestCuts.l0 k2 l0 a1 y227 y233 (y230.length : Int) (wrap64 (x38_2 + 1))) = some (r1, r2, r3) := by first | (rw [hy233]; with_reducible exact H) | (have H2_ := (Option.bind_some _ _).symm.trans H; rw [hy233]; with_reducible exact H2_) | (have H2_ := (Option.bind_some _ _).symm.trans H; with_reducible exact H2_) | with_reducible exact H | (rw [hy233]; exact H) | exact H
  have Ny233 := Aside0.mk hy233
  clear hy233
  have H' := Aside0.mk H
  clear H
  have p20 : 0 ≤ (x38_2 : Int) := of_decide_eq_true (by first | (with_reducible assumption) | assumption)
  have q20 : (x38_2 : Int) < ((x8_2.length : Int) : Int) := of_decide_eq_true (by first | (with_reducible assumption) | assumption)
  obtain ⟨go20, co20, eo20, gb20, gl20, cl20, HG20⟩ := Kd.R_form HO_8.out (by omega)
  (first | cases eo20 | (injection eo20 with ea_ en_ ec_; (first | subst ea_ | (injection ea_ with ea_; subst ea_)); subst ec_; clear en_))
  have GB20 := Aside0.mk gb20
  have GG20 := Aside0.mk HG20
  clear gb20 gl20 HG20
  obtain ⟨hx20_0, hf20_0⟩ := Kd.R_celln false HO_8.out (x38_2 : Int) p20 q20
  replace p20 := eq_true p20
  replace q20 := eq_true q20
  have HP21 := Kd.R_putg HO_8.out (x38_2 : Int) true
  go_wp2_with (first | ((with_reducible refine gate_store (t := 4) (p := 43) rfl ?_); (try (rw [drewN_self wr]; generalize hq_ : World.drewN wr _ = wr; have n0_ := Aside0.mk (Kd.R_at hq_ HO_7.out); have n1_ := Aside0.mk (Kd.R_at hq_ HO_8.out); have n2_ := Aside0.mk (below_at hq_ HB.out); clear hq_ HO_7 HO_8 HB; have HO_7 := n0_; have HO_8 := n1_; have HB := n2_; clear n0_ n1_ n2_; (try (have HP21 := Kd.R_putg HO_8.out (x38_2 : Int) true)))); refine store_event (t := 4) (p := 43) (v := ?vo_w22) (w1 := (wr.setCell ⟨go20, (x38_2 : Int).toNat, none⟩ (.bool true))) ?hg ?ho ?hn ?hr ?_; (case ho => rfl); (case hg => rfl); (case hn => rfl); (case hr => first | (go_simp; done) | (go_simp; rfl)); intro w22 hw; have hg : wr.grownBy w22 (some go20) := (by rw [hw]; exact HP21.2); have hp_ : Kd.R Kd.bool 4 w22 w.heap.size (fun _ => True) (.slice (some ⟨go20, 0, none⟩) x8_2.length co16) y233 := (by rw [hw, Ny233.out]; exact HP21.1); clear HP21; have n0_ := Aside0.mk (Kd.R_over' (v := (.slice (some ⟨go20, 0, none⟩) x8_2.length co16)) (by (with_reducible repeat (first | apply Kd.R_alloc | apply Kd.R_drewN | apply Kd.R_drew)); exact HO_7.out) (Kd.R_typed HO_8.out) (by decide) hg); have n1_ := Aside0.mk (hp_); have n2_ := Aside0.mk ((by rw [hw]; exact below_set (HB.out) GB20.out : Below w.heap.size w w22)); clear HO_7; clear HO_8; clear HB; have HO_7 := n0_; have HO_8 := n1_; have HB := n2_; clear n0_ n1_ n2_; clear hg hw hp_))
  (try simp only [← hl8_2])
  subst hji8
  go_roundg k2
  case measure => have := HJ2.out; have := HK2.out; omega
  case rel => exact ⟨(y233), (wrap64 (x38_2 + 1)), (by first|rfl|(simp; done)|(simp [*]; done)), H', ⟨by have := HJ2.out; have := HK2.out; omega⟩, ⟨by (try simp only [hl8_2]); (with_reducible repeat (first | apply Kd.R_alloc | apply Kd.R_drewN | apply Kd.R_drew)); exact HO_7.out⟩, ⟨by (try simp only [hl8_2]); (with_reducible repeat (first | apply Kd.R_alloc | apply Kd.R_drewN | apply Kd.R_drew)); exact HO_8.out⟩, ⟨by repeat (first | (with_reducible first | exact HB.out | apply below_alloc | apply pw_below_drewN | apply below_drew1) | exact HB.out)⟩⟩
 rw [if_neg c17] at H
 have c17b0 : decide (x38_2 < (y230.length : Int)) = false := decide_eq_false c17
 (try (have c17l0 := c17b0; simp only [hl8_2] at c17l0))
 clear c17
 obtain ⟨y234, hy234⟩ : ∃ y_ : List (List Int), y_ = (([] : List (List Int))) := ⟨_, rfl⟩
 replace H : (spec_BestCuts.l1 k2 l0 a1 y227 x8_2 y234 (l0.length : Int) 0) = some (r1, r2, r3) := by first | (rw [hy234]; with_reducible exact H) | (have H2_ := (Option.bind_some _ _).symm.trans H; rw [hy234]; with_reducible exact H2_) | (have H2_ := (Option.bind_some _ _).symm.trans H; with_reducible exact H2_) | with_reducible exact H | (rw [hy234]; exact H) | exact H
 have Ny234 := Aside0.mk hy234
 clear hy234
 have H' := Aside0.mk H
 clear H
 go_wp2_with (first | ((with_reducible refine gate_dst (N := 45) rfl ?_); refine Kd.S_lit (Kd.slice 2 (Kd.int .i64)) _ 28 ?hg (N := 45) ?hd (xs := ([] : List (List Int))) (inner := []) (ok := fun _ => True) (okp := fun _ => True) ?hr ?hp (fun _ hk => hk) trivial (Below.refl _ _) (Nat.le_refl _) (by simp) ?_; (case hd => rfl); (case hg => rfl); (case hr => first | (go_simp; done) | (go_simp; rfl)); (case hp => exact (Reps.none _ _)); intro v235 w23 ho24 hb hg_ hnew_; clear hg_ hnew_; (first | rw [← Ny234.out] at ho24 | (simp only [Int.reduceToNat] at ho24; rw [← Ny234.out] at ho24)); have n0_ := Aside0.mk (Kd.R_below (by (with_reducible repeat (first | apply Kd.R_alloc | apply Kd.R_drewN | apply Kd.R_drew)); exact HO_7.out) hb); have n1_ := Aside0.mk (Kd.R_below (by (with_reducible repeat (first | apply Kd.R_alloc | apply Kd.R_drewN | apply Kd.R_drew)); exact HO_8.out) hb); have n2_ := Aside0.mk (Kd.S_lower ho24 (below_size (by repeat (first | (with_reducible first | exact HB.out | apply below_alloc | apply pw_below_drewN | apply below_drew1) | exact HB.out)))); have n3_ := Aside0.mk (below_step (by repeat (first | (with_reducible first | exact HB.out | apply below_alloc | apply pw_below_drewN | apply below_drew1) | exact HB.out)) hb); clear HO_7; clear HO_8; clear HB; have HO_7 := n0_; have HO_8 := n1_; have HO236 := n2_; have HB := n3_; clear n0_ n1_ n2_ n3_; clear hb ho24))
 go_loopg [7, 8, 10, 48] k2 (fun kq v7 v8 v10 v48 w' => ∃ (x7_3 : List Nat) (x8_3 : List Bool) (x10_3 : List (List Int)) (x48_3 : Int), v48 = .int .i64 x48_3 ∧ Aside0 (spec_BestCuts.l1 kq l0 a1 x7_3 x8_3 x10_3 (l0.length : Int) x48_3 = some (r1, r2, r3)) ∧ Aside0 (kq ≤ k2) ∧ Aside0 (Kd.R (Kd.float .f32) 26 w' w.heap.size (fun _ => True) v7 x7_3) ∧ Aside0 (Kd.R Kd.bool 4 w' w.heap.size (fun _ => True) v8 x8_3) ∧ Aside0 (Kd.S (Kd.slice 2 (Kd.int .i64)) 28 w' w.heap.size (fun _ => True) v10 x10_3) ∧ Aside0 (Below w.heap.size w w'))
 case atStart => exact ⟨(y227), (x8_2), (y234), (0), (by first|rfl|(simp; done)|(simp [*]; done)), H', ⟨Nat.le_refl _⟩, ⟨by (try simp only [hl8_2]); (with_reducible repeat (first | apply Kd.R_alloc | apply Kd.R_drewN | apply Kd.R_drew)); exact HO_7.out⟩, ⟨by (try simp only [hl8_2]); (with_reducible repeat (first | apply Kd.R_alloc | apply Kd.R_drewN | apply Kd.R_drew)); exact HO_8.out⟩, ⟨by (try simp only [hl8_2]); (with_reducible repeat (first | apply Kd.S_alloc | apply Kd.S_drewN | apply Kd.S_drew)); exact HO236.out⟩, ⟨by repeat (first | (with_reducible first | exact HB.out | apply below_alloc | apply pw_below_drewN | apply below_drew1) | exact HB.out)⟩⟩
 clear H'
 try clear c1
 try clear p2
 try clear q2
 try clear hx2
 try clear hf2
 try clear c5
 try clear p6
 try clear c7
 try clear c9
 try clear c9b0
 try clear c9b1
 try clear c10
 try clear c10b0
 try clear c10b1
 try clear c11
 try clear c11b0
 try clear c11b1
 try clear c17
 try clear c17b0
 try clear c18
 try clear c18b0
 try clear c19
 try clear c19b0
 try clear p20
 try clear q20
 try clear hx20
 try clear hf20
 try clear hx20_0
 try clear p2
 try clear p20
 try clear p6
 try clear q20
 obtain ⟨x7_3, x8_3, x10_3, x48_3, rfl, HA, HK3, HO_7, HO_8, HO_10, HB⟩ := hrel
 cases gk with
 | zero => exact absurd HA.out (by simp [spec_BestCuts.l1])
 | succ k3 => ?_
 have H := HA.out
 clear HA
 simp only [spec_BestCuts.l1] at H
 by_cases c25 : x48_3 < (l0.length : Int)
 rotate_left
 ·rw [if_neg c25] at H
  have c25b0 : decide (x48_3 < (l0.length : Int)) = false := decide_eq_false c25
  (try (have c25l0 := c25b0; simp only [hl8_2] at c25l0))
  clear c25
  have HC87 := Aside0.mk H
  clear H
  go_upto_region 35 with (fail)
  go_cut [149] (fun v149 wc => ∃ (kq : Nat) (x149_86 : Bool), v149 = .bool x149_86 ∧ Aside0 (spec_BestCuts.j7 kq l0 a1 x7_3 x10_3 x149_86 = some (r1, r2, r3)) ∧ Aside0 (kq ≤ k3) ∧ Aside0 (Kd.R (Kd.float .f32) 26 wc w.heap.size (fun _ => True) u7 x7_3) ∧ Aside0 (Kd.S (Kd.slice 2 (Kd.int .i64)) 28 wc w.heap.size (fun _ => True) u10 x10_3) ∧ Aside0 (Below w.heap.size w wc))
  case first =>
   have H := HC87.out
   clear HC87
   by_cases c88 : 0 ≤ a1
   rotate_left
   ·rw [if_neg c88] at H
    exact absurd H (by simp)
   rw [if_pos c88] at H
   have c88b0 : decide (0 ≤ a1) = true := decide_eq_true c88
   clear c88
   (first | rw [c88b0] | (simp only [i64_w, i32_w]; rw [c88b0]) | skip)
   by_cases c89 : a1 < (x8_3.length : Int)
   rotate_left
   ·rw [if_neg c89] at H
    exact absurd H (by simp)
   rw [if_pos c89] at H
   have c89b0 : decide (a1 < (x8_3.length : Int)) = true := decide_eq_true c89
   (try (have c89l0 := c89b0; simp only [hl8_2] at c89l0))
   clear c89
   obtain ⟨bq90, hbq90⟩ : ∃ b_ : Bool, b_ = (rdOf false x8_3 a1) := ⟨_, rfl⟩
   replace H : (if bq90 = true then (if a1 < (x7_3.length : Int) then ((spec_l01Finite.f (rdOf (0 : Nat) x7_3 a1)).bind fun t264 => (spec_BestCuts.j7 k3 l0 a1 x7_3 x10_3 (!t264))) else (none)) else (spec_BestCuts.j7 k3 l0 a1 x7_3 x10_3 true)) = some (r1, r2, r3) := by rw [← hbq90] at H; exact H
   have Nbq90 := Aside0.mk hbq90
   clear hbq90
   by_cases c91 : bq90 = true
   rotate_left
   ·replace c91 := Bool.eq_false_iff.mpr c91
    subst c91
    have H1 : (spec_BestCuts.j7 k3 l0 a1 x7_3 x10_3 true) = some (r1, r2, r3) := by rw [if_neg (show ¬ (false = true) by decide)] at H; exact H
    clear H
    have H := H1
    clear H1
    have H' := Aside0.mk H
    clear H
    obtain ⟨Ao96, co96, eo96⟩ := Kd.R_slice HO_8.out
    subst eo96
    have p262 : 0 ≤ (a1 : Int) := of_decide_eq_true (by first | (with_reducible assumption) | assumption)
    have q262 : a1 < (x8_3.length : Int) := of_decide_eq_true (by first | (with_reducible assumption) | assumption)
    obtain ⟨ad262, e262, hx262_0⟩ := Kd.at_bool (Kd.R_reads' HO_8.out).2.2 a1 p262 q262
    (try rw [← Nbq90.out] at hx262_0)
    cases e262
    replace p262 := eq_true p262
    replace q262 := eq_true q262
    go_wp2
    subst hji8
    go_meet
    case rel => exact ⟨_, (true), (by first|rfl|(simp; done)|(simp [*]; done)), H', ⟨by have := HJ2.out; have := HK2.out; have := HK3.out; first | omega | exact Nat.le_refl _⟩, ⟨by (try simp only [hl8_2]); (with_reducible repeat (first | apply Kd.R_alloc | apply Kd.R_drewN | apply Kd.R_drew)); exact HO_7.out⟩, ⟨by (try simp only [hl8_2]); (with_reducible repeat (first | apply Kd.S_alloc | apply Kd.S_drewN | apply Kd.S_drew)); exact HO_10.out⟩, ⟨by repeat (first | (with_reducible first | exact HB.out | apply below_alloc | apply pw_below_drewN | apply below_drew1) | exact HB.out)⟩⟩
   subst c91
   have H1 : (if a1 < (x7_3.length : Int) then ((spec_l01Finite.f (rdOf (0 : Nat) x7_3 a1)).bind fun t264 => (spec_BestCuts.j7 k3 l0 a1 x7_3 x10_3 (!t264))) else (none)) = some (r1, r2, r3) := by rw [if_pos rfl] at H; exact H
   clear H
   have H := H1
   clear H1
   by_cases c92 : a1 < (x7_3.length : Int)
   rotate_left
   ·rw [if_neg c92] at H
    exact absurd H (by simp)
   rw [if_pos c92] at H
   have c92b0 : decide (a1 < (x7_3.length : Int)) = true := decide_eq_true c92
   (try (have c92l0 := c92b0; simp only [hl8_2] at c92l0))
   clear c92
   replace H := Option.bind_eq_some_iff.mp H
   obtain ⟨t264, A930, H⟩ := H
   replace H : (spec_BestCuts.j7 k3 l0 a1 x7_3 x10_3 (!t264)) = some (r1, r2, r3) := H
   have A93 := Aside0.mk A930
   clear A930
   have H' := Aside0.mk H
   clear H
   obtain ⟨Ao94, co94, eo94⟩ := Kd.R_slice HO_8.out
   subst eo94
   have p262 : 0 ≤ (a1 : Int) := of_decide_eq_true (by first | (with_reducible assumption) | assumption)
   have q262 : a1 < (x8_3.length : Int) := of_decide_eq_true (by first | (with_reducible assumption) | assumption)
   obtain ⟨ad262, e262, hx262_0⟩ := Kd.at_bool (Kd.R_reads' HO_8.out).2.2 a1 p262 q262
   (try rw [← Nbq90.out] at hx262_0)
   cases e262
   replace p262 := eq_true p262
   replace q262 := eq_true q262
   obtain ⟨Ao95, co95, eo95⟩ := Kd.R_slice HO_7.out
   subst eo95
   have p263 : 0 ≤ (a1 : Int) := of_decide_eq_true (by first | (with_reducible assumption) | assumption)
   have q263 : a1 < (x7_3.length : Int) := of_decide_eq_true (by first | (with_reducible assumption) | assumption)
   obtain ⟨ad263, e263, hx263_0⟩ := Kd.at_float (Kd.R_reads' HO_7.out).2.2 a1 p263 q263
   cases e263
   replace p263 := eq_true p263
   replace q263 := eq_true q263
   go_wp2_with (first | (go_at_call 33; (with_reducible refine (spec_l01Finite.calls (rdOf (0 : Nat) x7_3 a1) t264 _ A93.out).mono ?_); rintro e w' ⟨rfl, ⟨nd, rfl⟩⟩; (try first | exact ⟨rfl, _, World.drewN_drewN _ _ _⟩ | exact ⟨rfl, _, Eq.trans (World.drewN_drewN _ _ _) (congrArg (World.drewN _) (Nat.add_assoc _ _ _))⟩)))
   subst hji8
   go_meet
   case rel => exact ⟨_, (!t264), (by first|rfl|(simp; done)|(simp [*]; done)), H', ⟨by have := HJ2.out; have := HK2.out; have := HK3.out; first | omega | exact Nat.le_refl _⟩, ⟨by (try simp only [hl8_2]); (with_reducible repeat (first | apply Kd.R_alloc | apply Kd.R_drewN | apply Kd.R_drew)); exact HO_7.out⟩, ⟨by (try simp only [hl8_2]); (with_reducible repeat (first | apply Kd.S_alloc | apply Kd.S_drewN | apply Kd.S_drew)); exact HO_10.out⟩, ⟨by repeat (first | (with_reducible first | exact HB.out | apply below_alloc | apply pw_below_drewN | apply below_drew1) | exact HB.out)⟩⟩
  clear HC87
  try clear c1
  try clear c2
  try clear p2
  try clear q2
  try clear hx2
  try clear hf2
  try clear c3
  try clear c4
  try clear c5
  try clear c6
  try clear p6
  try clear q6
  try clear c7
  try clear p7
  try clear q7
  try clear hx7
  try clear hf7
  try clear c8
  try clear c9
  try clear c9b0
  try clear c9b1
  try clear q9
  try clear c10
  try clear c10b0
  try clear c10b1
  try clear c11
  try clear c11b0
  try clear c11b1
  try clear c17
  try clear c17b0
  try clear c18
  try clear c18b0
  try clear c19
  try clear c19b0
  try clear p20
  try clear q20
  try clear hx20
  try clear hf20
  try clear c24
  try clear p24
  try clear q24
  try clear hx24
  try clear c25
  try clear c25b0
  try clear p25
  try clear q25
  try clear hx25
  try clear p26
  try clear q26
  try clear hx26
  try clear c27
  try clear c27b0
  try clear c27b1
  try clear c28
  try clear c28b0
  try clear c28b1
  try clear c29
  try clear c29b0
  try clear c29b1
  try clear c30
  try clear c30b0
  try clear c30b1
  try clear c37
  try clear c37b0
  try clear c38
  try clear c38b0
  try clear c39
  try clear c39b0
  try clear c40
  try clear c40b0
  try clear c41
  try clear c41b0
  try clear c42
  try clear c42b0
  try clear c43
  try clear c43b0
  try clear c44
  try clear c44b0
  try clear c46
  try clear c46b0
  try clear c48
  try clear c48b0
  try clear c49
  try clear c49b0
  try clear c51
  try clear c53
  try clear c53b0
  try clear c54
  try clear c54b0
  try clear c55
  try clear c55b0
  try clear c56
  try clear c56b0
  try clear c57
  try clear c57b0
  try clear c58
  try clear c58b0
  try clear c62
  try clear c62b0
  try clear c63
  try clear c63b0
  try clear p64
  try clear q64
  try clear c65
  try clear c66
  try clear c66b0
  try clear c70
  try clear c71
  try clear c71b0
  try clear c72
  try clear c72b0
  try clear p73
  try clear q73
  try clear hx73
  try clear hf73
  try clear c74
  try clear c74b0
  try clear p75
  try clear q75
  try clear hx75
  try clear hf75
  try clear c76
  try clear c76b0
  try clear p77
  try clear q77
  try clear hx77
  try clear hf77
  try clear c84
  try clear c88
  try clear c88b0
  try clear c89
  try clear c89b0
  try clear q90
  try clear c91
  try clear c92
  try clear c92b0
  try clear hx20_0
  try clear hx249_0
  try clear hx250_0
  try clear hx251_0
  try clear hx251_1
  try clear hx252_0
  try clear hx253_0
  try clear hx254_0
  try clear hx255_0
  try clear hx255_1
  try clear hx257_0
  try clear hx258_0
  try clear hx262_0
  try clear hx263_0
  try clear hx73_0
  try clear hx75_0
  try clear hx77_0
  try clear p2
  try clear p20
  try clear p24
  try clear p249
  try clear p25
  try clear p250
  try clear p251
  try clear p252
  try clear p253
  try clear p254
  try clear p255
  try clear p257
  try clear p258
  try clear p262
  try clear p263
  try clear p6
  try clear p64
  try clear p73
  try clear p75
  try clear p77
  try clear q2
  try clear q20
  try clear q24
  try clear q249
  try clear q25
  try clear q250
  try clear q251
  try clear q252
  try clear q253
  try clear q254
  try clear q255
  try clear q257
  try clear q258
  try clear q262
  try clear q263
  try clear q6
  try clear q64
  try clear q73
  try clear q75
  try clear q77
  obtain ⟨kq, x149_86, rfl, HA, HJ86, HO_7, HO_10, HB⟩ := hcut
  cases kq with
  | zero => exact absurd HA.out (by simp [spec_BestCuts.j7])
  | succ kj86 => ?_
  have H := HA.out
  clear HA
  simp only [spec_BestCuts.j7] at H
  by_cases c97 : x149_86 = true
  ·subst c97
   have H1 : (some (([] : List Int), 0, false)) = some (r1, r2, r3) := by rw [if_pos rfl] at H; exact H
   clear H
   have H := H1
   clear H1
   simp only [Option.some.injEq, Prod.mk.injEq] at H
   obtain ⟨rfl, rfl, rfl⟩ := H
   go_wp2
   go_ret3
   exact ⟨_, by first | rfl | (simp [errW_none, errW_some] <;> rfl) | (simp only [← hji8]; first | rfl | (simp [errW_none, errW_some] <;> rfl)) | (simp [*, errW_none, errW_some] <;> rfl), by first | exact Kd.R_nil _ _ _ _ _ | exact Kd.N_nil _ _ _ _ _ | exact Kd.V_nil _ _ _ _ _ | exact Kd.Q_nil _ _ _ _ _ | exact Kd.S_nil _ _ _ _ _, by repeat (first | (with_reducible first | exact HB.out | apply below_alloc | apply pw_below_drewN | apply below_drew1) | exact HB.out)⟩
  replace c97 := Bool.eq_false_iff.mpr c97
  subst c97
  have H1 : (if 0 ≤ (l0.length : Int) then (if ((l0.length : Int) : Int).toNat ≤ 35184372088832 then (spec_BestCuts.l4 kj86 l0 a1 x7_3 x10_3 (List.replicate ((l0.length : Int) : Int).toNat 0) a1 (wrap64 ((l0.length : Int) - 1))) else (none)) else (none)) = some (r1, r2, r3) := by rw [if_neg (show ¬ (false = true) by decide)] at H; exact H
  clear H
  have H := H1
  clear H1
  by_cases c98 : 0 ≤ (l0.length : Int)
  rotate_left
  ·rw [if_neg c98] at H
   exact absurd H (by simp)
  rw [if_pos c98] at H
  have c98b0 := eq_true c98
  have c98b1 : decide (0 ≤ (l0.length : Int)) = true := decide_eq_true c98
  clear c98
  by_cases c99 : ((l0.length : Int) : Int).toNat ≤ 35184372088832
  rotate_left
  ·rw [if_neg c99] at H
   exact absurd H (by simp)
  rw [if_pos c99] at H
  have c99b0 := eq_true c99
  have c99b1 : decide (((l0.length : Int) : Int).toNat ≤ 35184372088832) = true := decide_eq_true c99
  clear c99
  obtain ⟨y265, hy265⟩ : ∃ y_ : List Int, y_ = (List.replicate ((l0.length : Int) : Int).toNat 0) := ⟨_, rfl⟩
  replace H : (spec_BestCuts.l4 kj86 l0 a1 x7_3 x10_3 y265 a1 (wrap64 ((l0.length : Int) - 1))) = some (r1, r2, r3) := by first | (rw [hy265]; with_reducible exact H) | (have H2_ := (Option.bind_some _ _).symm.trans H; rw [hy265]; with_reducible exact H2_) | (have H2_ := (Option.bind_some _ _).symm.trans H; with_reducible exact H2_) | with_reducible exact H | (rw [hy265]; exact H) | exact H
  have Ny265 := Aside0.mk hy265
  clear hy265
  have H' := Aside0.mk H
  clear H
  go_wp2_with (first | ((with_reducible refine gate_dst (N := 152) rfl ?_); refine Kd.R_make (Kd.int .i64) _ 2 rfl (N := 152) rfl 28 _ _ rfl (l0.length : Int) rfl rfl Try.underlying28 (.int .i64 0) 8 info2 rfl (by decide) (by omega) 0 (ok := fun _ => True) (okp := fun _ => True) rfl (fun _ hk => hk) trivial (of_decide_eq_true (by first | (with_reducible assumption) | assumption)) (Nat.le_trans (Nat.mul_le_mul_right _ (of_decide_eq_true (by first | (with_reducible assumption) | assumption) : (l0.length : Int).toNat ≤ 35184372088832)) (by omega)) (Below.refl _ _) (Nat.le_refl _) ?_; intro v266 w100 ho101 hb hg_ hnew_; clear hg_ hnew_; (first | rw [← Ny265.out] at ho101 | (simp only [Int.reduceToNat] at ho101; rw [← Ny265.out] at ho101)); have n0_ := Aside0.mk (Kd.R_below (by (with_reducible repeat (first | apply Kd.R_alloc | apply Kd.R_drewN | apply Kd.R_drew)); exact HO_7.out) hb); have n1_ := Aside0.mk (Kd.S_elder' (by (with_reducible repeat (first | apply Kd.S_alloc | apply Kd.S_drewN | apply Kd.S_drew)); exact HO_10.out) (Kd.R_base ho101) hb); have n2_ := Aside0.mk (Kd.R_lower ho101 (below_size (by repeat (first | (with_reducible first | exact HB.out | apply below_alloc | apply pw_below_drewN | apply below_drew1) | exact HB.out)))); have n3_ := Aside0.mk (below_step (by repeat (first | (with_reducible first | exact HB.out | apply below_alloc | apply pw_below_drewN | apply below_drew1) | exact HB.out)) hb); clear HO_7; clear HO_10; clear HB; have HO_7 := n0_; have HO_10 := n1_; have HO267 := n2_; have HB := n3_; clear n0_ n1_ n2_ n3_; clear hb ho101))
  go_loopg [20, 21] kj86 (fun kq v20 v21 w' => ∃ (x19_5 : List Int) (x20_5 : Int) (x21_5 : Int), v20 = .int .i64 x20_5 ∧ v21 = .int .i64 x21_5 ∧ Aside0 (spec_BestCuts.l4 kq l0 a1 x7_3 x10_3 x19_5 x20_5 x21_5 = some (r1, r2, r3)) ∧ Aside0 (kq ≤ kj86) ∧ Aside0 (Kd.R (Kd.float .f32) 26 w' w.heap.size (fun _ => True) u7 x7_3) ∧ Aside0 (Kd.S (Kd.slice 2 (Kd.int .i64)) 28 w' w.heap.size (fun k_ => some k_ ≠ (v266 : Value).ownBlock) u10 x10_3) ∧ Aside0 (Kd.R (Kd.int .i64) 2 w' w.heap.size (fun _ => True) v266 x19_5) ∧ Aside0 (Below w.heap.size w w'))
  case atStart => exact ⟨(y265), (a1), (wrap64 ((l0.length : Int) - 1)), (by first|rfl|(simp; done)|(simp [*]; done)), (by first|rfl|(simp; done)|(simp [*]; done)), H', ⟨Nat.le_refl _⟩, ⟨by (try simp only [hl8_2]); (with_reducible repeat (first | apply Kd.R_alloc | apply Kd.R_drewN | apply Kd.R_drew)); exact HO_7.out⟩, ⟨by (try simp only [hl8_2]); (with_reducible repeat (first | apply Kd.S_alloc | apply Kd.S_drewN | apply Kd.S_drew)); exact Kd.S_mono HO_10.out (fun _ hk => hk.2)⟩, ⟨by (try simp only [hl8_2]); (with_reducible repeat (first | apply Kd.R_alloc | apply Kd.R_drewN | apply Kd.R_drew)); exact HO267.out⟩, ⟨by repeat (first | (with_reducible first | exact HB.out | apply below_alloc | apply pw_below_drewN | apply below_drew1) | exact HB.out)⟩⟩
  clear H'
  try clear c1
  try clear c2
  try clear p2
  try clear q2
  try clear hx2
  try clear hf2
  try clear c3
  try clear c4
  try clear c5
  try clear c6
  try clear p6
  try clear q6
  try clear c7
  try clear p7
  try clear q7
  try clear hx7
  try clear hf7
  try clear c8
  try clear c9
  try clear c9b0
  try clear c9b1
  try clear q9
  try clear c10
  try clear c10b0
  try clear c10b1
  try clear c11
  try clear c11b0
  try clear c11b1
  try clear c17
  try clear c17b0
  try clear c18
  try clear c18b0
  try clear c19
  try clear c19b0
  try clear p20
  try clear q20
  try clear hx20
  try clear hf20
  try clear c24
  try clear p24
  try clear q24
  try clear hx24
  try clear c25
  try clear c25b0
  try clear p25
  try clear q25
  try clear hx25
  try clear p26
  try clear q26
  try clear hx26
  try clear c27
  try clear c27b0
  try clear c27b1
  try clear c28
  try clear c28b0
  try clear c28b1
  try clear c29
  try clear c29b0
  try clear c29b1
  try clear c30
  try clear c30b0
  try clear c30b1
  try clear c37
  try clear c37b0
  try clear c38
  try clear c38b0
  try clear c39
  try clear c39b0
  try clear c40
  try clear c40b0
  try clear c41
  try clear c41b0
  try clear c42
  try clear c42b0
  try clear c43
  try clear c43b0
  try clear c44
  try clear c44b0
  try clear c46
  try clear c46b0
  try clear c48
  try clear c48b0
  try clear c49
  try clear c49b0
  try clear c51
  try clear c53
  try clear c53b0
  try clear c54
  try clear c54b0
  try clear c55
  try clear c55b0
  try clear c56
  try clear c56b0
  try clear c57
  try clear c57b0
  try clear c58
  try clear c58b0
  try clear c62
  try clear c62b0
  try clear c63
  try clear c63b0
  try clear p64
  try clear q64
  try clear c65
  try clear c66
  try clear c66b0
  try clear c70
  try clear c71
  try clear c71b0
  try clear c72
  try clear c72b0
  try clear p73
  try clear q73
  try clear hx73
  try clear hf73
  try clear c74
  try clear c74b0
  try clear p75
  try clear q75
  try clear hx75
  try clear hf75
  try clear c76
  try clear c76b0
  try clear p77
  try clear q77
  try clear hx77
  try clear hf77
  try clear c84
  try clear c88
  try clear c88b0
  try clear c89
  try clear c89b0
  try clear q90
  try clear c91
  try clear c92
  try clear c92b0
  try clear c97
  try clear c98
  try clear c98b0
  try clear c98b1
  try clear c99
  try clear c99b0
  try clear c99b1
  try clear hx20_0
  try clear hx249_0
  try clear hx250_0
  try clear hx251_0
  try clear hx251_1
  try clear hx252_0
  try clear hx253_0
  try clear hx254_0
  try clear hx255_0
  try clear hx255_1
  try clear hx257_0
  try clear hx258_0
  try clear hx262_0
  try clear hx263_0
  try clear hx73_0
  try clear hx75_0
  try clear hx77_0
  try clear p2
  try clear p20
  try clear p24
  try clear p249
  try clear p25
  try clear p250
  try clear p251
  try clear p252
  try clear p253
  try clear p254
  try clear p255
  try clear p257
  try clear p258
  try clear p26
  try clear p262
  try clear p263
  try clear p6
  try clear p64
  try clear p7
  try clear p73
  try clear p75
  try clear p77
  try clear q2
  try clear q20
  try clear q24
  try clear q249
  try clear q25
  try clear q250
  try clear q251
  try clear q252
  try clear q253
  try clear q254
  try clear q255
  try clear q257
  try clear q258
  try clear q26
  try clear q262
  try clear q263
  try clear q6
  try clear q64
  try clear q7
  try clear q73
  try clear q75
  try clear q77
  try clear q9
  try clear q90
  obtain ⟨x19_5, x20_5, x21_5, rfl, rfl, HA, HK5, HO_7, HO_10, HO_19, HB⟩ := hrel
  cases gk with
  | zero => exact absurd HA.out (by simp [spec_BestCuts.l4])
  | succ k5 => ?_
  have H := HA.out
  clear HA
  simp only [spec_BestCuts.l4] at H
  by_cases c102 : x21_5 ≥ 0
  rotate_left
  ·rw [if_neg c102] at H
   have c102b0 : decide (0 ≤ x21_5) = false := decide_eq_false c102
   clear c102
   by_cases c115 : 0 ≤ a1
   rotate_left
   ·rw [if_neg c115] at H
    exact absurd H (by simp)
   rw [if_pos c115] at H
   have c115b0 : decide (0 ≤ a1) = true := decide_eq_true c115
   clear c115
   by_cases c116 : a1 < (x7_3.length : Int)
   rotate_left
   ·rw [if_neg c116] at H
    exact absurd H (by simp)
   rw [if_pos c116] at H
   have c116b0 : decide (a1 < (x7_3.length : Int)) = true := decide_eq_true c116
   (try (have c116l0 := c116b0; simp only [hl8_2] at c116l0))
   clear c116
   simp only [Option.some.injEq, Prod.mk.injEq] at H
   obtain ⟨rfl, rfl, rfl⟩ := H
   obtain ⟨Ao117, co117, eo117⟩ := Kd.R_slice HO_7.out
   subst eo117
   have p274 : 0 ≤ (a1 : Int) := of_decide_eq_true (by first | (with_reducible assumption) | assumption)
   have q274 : a1 < (x7_3.length : Int) := of_decide_eq_true (by first | (with_reducible assumption) | assumption)
   obtain ⟨ad274, e274, hx274_0⟩ := Kd.at_float (Kd.R_reads' HO_7.out).2.2 a1 p274 q274
   cases e274
   replace p274 := eq_true p274
   replace q274 := eq_true q274
   go_wp2
   repeat (go_quiet (fail); try go_wp2)
   go_ret3
   exact ⟨_, by first | rfl | (simp [errW_none, errW_some] <;> rfl) | (simp only [← hji8]; first | rfl | (simp [errW_none, errW_some] <;> rfl)) | (simp [*, errW_none, errW_some] <;> rfl), by (with_reducible repeat (first | apply Kd.R_alloc | apply Kd.R_drewN | apply Kd.R_drew)); exact HO_19.out, by repeat (first | (with_reducible first | exact HB.out | apply below_alloc | apply pw_below_drewN | apply below_drew1) | exact HB.out)⟩
  rw [if_pos c102] at H
  have c102b0 : decide (0 ≤ x21_5) = true := decide_eq_true c102
  clear c102
  by_cases c103 : 0 ≤ x21_5
  rotate_left
  ·rw [if_neg c103] at H
   exact absurd H (by simp)
  rw [if_pos c103] at H
  have c103b0 : decide (0 ≤ x21_5) = true := decide_eq_true c103
  clear c103
  by_cases c104 : x21_5 < (x10_3.length : Int)
  rotate_left
  ·rw [if_neg c104] at H
   exact absurd H (by simp)
  rw [if_pos c104] at H
  have c104b0 : decide (x21_5 < (x10_3.length : Int)) = true := decide_eq_true c104
  (try (have c104l0 := c104b0; simp only [hl8_2] at c104l0))
  clear c104
  by_cases c105 : 0 ≤ x20_5
  rotate_left
  ·rw [if_neg c105] at H
   exact absurd H (by simp)
  rw [if_pos c105] at H
  have c105b0 : decide (0 ≤ x20_5) = true := decide_eq_true c105
  clear c105
  by_cases c106 : x20_5 < ((rd_L8 x10_3 x21_5).length : Int)
  rotate_left
  ·rw [if_neg c106] at H
   exact absurd H (by simp)
  rw [if_pos c106] at H
  have c106b0 : decide (x20_5 < ((rd_L8 x10_3 x21_5).length : Int)) = true := decide_eq_true c106
  (try (have c106l0 := c106b0; simp only [hl8_2] at c106l0))
  clear c106
  by_cases c107 : x21_5 < (x19_5.length : Int)
  rotate_left
  ·rw [if_neg c107] at H
   exact absurd H (by simp)
  rw [if_pos c107] at H
  have c107b0 : decide (x21_5 < (x19_5.length : Int)) = true := decide_eq_true c107
  (try (have c107l0 := c107b0; simp only [hl8_2] at c107l0))
  clear c107
  obtain ⟨y270, hy270⟩ : ∃ y_ : List Int, y_ = (x19_5.set (x21_5 : Int).toNat (rd (rd_L8 x10_3 x21_5) x20_5)) := ⟨_, rfl⟩
  replace H : (if x21_5 < (l0.length : Int) then (if 0 ≤ (rd y270 x21_5) then (if (rd y270 x21_5) < ((rd_L4 l0 x21_5).length : Int) then (spec_BestCuts.l4 k5 l0 a1 x7_3 x10_3 y270 (wrap64 (x20_5 - ((rd_T34 (rd_L4 l0 x21_5) (rd y270 x21_5)).f0))) (wrap64 (x21_5 - 1))) else (none)) else (none)) else (none)) = some (r1, r2, r3) := by first | (rw [hy270]; with_reducible exact H) | (have H2_ := (Option.bind_some _ _).symm.trans H; rw [hy270]; with_reducible exact H2_) | (have H2_ := (Option.bind_some _ _).symm.trans H; with_reducible exact H2_) | with_reducible exact H | (rw [hy270]; exact H) | exact H
  have Ny270 := Aside0.mk hy270
  clear hy270
  by_cases c109 : x21_5 < (l0.length : Int)
  rotate_left
  ·rw [if_neg c109] at H
   exact absurd H (by simp)
  rw [if_pos c109] at H
  have c109b0 : decide (x21_5 < (l0.length : Int)) = true := decide_eq_true c109
  (try (have c109l0 := c109b0; simp only [hl8_2] at c109l0))
  clear c109
  by_cases c110 : 0 ≤ (rd y270 x21_5)
  rotate_left
  ·rw [if_neg c110] at H
   exact absurd H (by simp)
  rw [if_pos c110] at H
  have c110b0 : decide (0 ≤ (rd y270 x21_5)) = true := decide_eq_true c110
  clear c110
  by_cases c111 : (rd y270 x21_5) < ((rd_L4 l0 x21_5).length : Int)
  rotate_left
  ·rw [if_neg c111] at H
   exact absurd H (by simp)
  rw [if_pos c111] at H
  have c111b0 : decide ((rd y270 x21_5) < ((rd_L4 l0 x21_5).length : Int)) = true := decide_eq_true c111
  (try (have c111l0 := c111b0; simp only [hl8_2] at c111l0))
  clear c111
  have H' := Aside0.mk H
  clear H
  obtain ⟨Ao112, co112, eo112⟩ := Kd.S_slice HO_10.out
  subst eo112
  have p268 : 0 ≤ (x21_5 : Int) := of_decide_eq_true (by first | (with_reducible assumption) | assumption)
  have q268 : x21_5 < (x10_3.length : Int) := of_decide_eq_true (by first | (with_reducible assumption) | assumption)
  obtain ⟨ad268, A268_0, c268_0, e268, hx268_0, hl268_0, hi268_0⟩ := at_L8 (Kd.S_reads' HO_10.out).2.2 x21_5 p268 q268
  cases e268
  obtain ⟨ce268, hce268, hMe268, hcc268⟩ := Kd.S_get HO_10.out [] x21_5 p268 (by first | exact q268 | exact of_decide_eq_true (by first | (with_reducible assumption) | assumption) | (have e_ := (Kd.S_reads' HO_10.out).1; omega))
  obtain ⟨ve268_0, rfl, ge268_0⟩ := hMe268
  have hv268_0 := hcc268 0 _ rfl
  rw [Nat.add_zero, show ((Kd.slice 2 (Kd.int .i64))).sz = 1 from rfl, Nat.mul_one] at hv268_0
  replace hv268_0 := Option.some.inj (hv268_0.symm.trans hx268_0)
  rw [hv268_0] at ge268_0
  have HL268_0 := Aside0.mk (show Kd.R (Kd.int .i64) 2 _ _ _ _ (rd_L8 x10_3 x21_5) from ge268_0)
  clear hv268_0 ge268_0
  clear hcc268 hce268
  have HR268_0 := Aside0.mk hi268_0
  have HC268_0 := Aside0.mk hl268_0
  clear hi268_0 hl268_0
  replace p268 := eq_true p268
  replace q268 := eq_true q268
  have p269 : 0 ≤ (x20_5 : Int) := of_decide_eq_true (by first | (with_reducible assumption) | assumption)
  have q269 : x20_5 < ((rd_L8 x10_3 x21_5).length : Int) := of_decide_eq_true (by first | (with_reducible assumption) | assumption)
  obtain ⟨ad269, e269, hx269_0⟩ := Kd.at_int (by repeat (first | (with_reducible exact HR268_0.out) | (with_reducible refine Kd.C_alloc ?_ _) | (with_reducible refine Kd.C_drewN ?_ _) | (with_reducible refine Kd.C_drew ?_) | exact HR268_0.out)) x20_5 p269 q269
  cases e269
  replace p269 := eq_true p269
  replace q269 := eq_true q269
  have p108 : 0 ≤ (x21_5 : Int) := of_decide_eq_true (by first | (with_reducible assumption) | assumption)
  have q108 : (x21_5 : Int) < ((x19_5.length : Int) : Int) := of_decide_eq_true (by first | (with_reducible assumption) | assumption)
  obtain ⟨go108, co108, eo108, gb108, gl108, cl108, HG108⟩ := Kd.R_form HO_19.out (by omega)
  (first | cases eo108 | (injection eo108 with ea_ en_ ec_; (first | subst ea_ | (injection ea_ with ea_; subst ea_)); subst ec_; clear en_))
  have GB108 := Aside0.mk gb108
  have GG108 := Aside0.mk HG108
  clear gb108 gl108 HG108
  obtain ⟨hx108_0, hf108_0⟩ := Kd.R_celln 0 HO_19.out (x21_5 : Int) p108 q108
  replace p108 := eq_true p108
  replace q108 := eq_true q108
  have HP113 := Kd.R_putg HO_19.out (x21_5 : Int) (rd (rd_L8 x10_3 x21_5) x20_5)
  go_wp2_with (first | ((with_reducible refine gate_store (t := 2) (p := 170) rfl ?_); (try (rw [drewN_self wr]; generalize hq_ : World.drewN wr _ = wr; have n0_ := Aside0.mk (Kd.R_at hq_ HO_7.out); have n1_ := Aside0.mk (Kd.S_at hq_ HO_10.out); have n2_ := Aside0.mk (Kd.R_at hq_ HO_19.out); have n3_ := Aside0.mk (Kd.R_at hq_ HL268_0.out); have n4_ := Aside0.mk (below_at hq_ HB.out); clear hq_ HO_7 HO_10 HO_19 HL268_0 HB; have HO_7 := n0_; have HO_10 := n1_; have HO_19 := n2_; have HL268_0 := n3_; have HB := n4_; clear n0_ n1_ n2_ n3_ n4_; (try (have HP113 := Kd.R_putg HO_19.out (x21_5 : Int) (rd (rd_L8 x10_3 x21_5) x20_5))))); refine store_event (t := 2) (p := 170) (v := ?vo_w114) (w1 := (wr.setCell ⟨go108, (x21_5 : Int).toNat, none⟩ (.int .i64 (rd (rd_L8 x10_3 x21_5) x20_5)))) ?hg ?ho ?hn ?hr ?_; (case ho => rfl); (case hg => rfl); (case hn => rfl); (case hr => first | (go_simp; done) | (go_simp; rfl)); intro w114 hw; have hg : wr.grownBy w114 (some go108) := (by rw [hw]; exact HP113.2); have hp_ : Kd.R (Kd.int .i64) 2 w114 w.heap.size (fun _ => True) (.slice (some ⟨go108, 0, none⟩) x19_5.length co108) y270 := (by rw [hw, Ny270.out]; exact HP113.1); clear HP113; have n0_ := Aside0.mk (Kd.R_over' (v := (.slice (some ⟨go108, 0, none⟩) x19_5.length co108)) (by (with_reducible repeat (first | apply Kd.R_alloc | apply Kd.R_drewN | apply Kd.R_drew)); exact HO_7.out) (Kd.R_typed HO_19.out) (by decide) hg); have n1_ := Aside0.mk (Kd.S_after (v := (.slice (some ⟨go108, 0, none⟩) x19_5.length co108)) (v1 := (.slice (some ⟨go108, 0, none⟩) x19_5.length co108)) (ok := (fun _ => True)) (by (with_reducible repeat (first | apply Kd.S_alloc | apply Kd.S_drewN | apply Kd.S_drew)); exact Kd.S_mono HO_10.out (fun _ hk => ⟨trivial, hk⟩)) hg (.inl rfl)); have n2_ := Aside0.mk (hp_); have n3_ := Aside0.mk (Kd.R_after (v := (.slice (some ⟨go108, 0, none⟩) x19_5.length co108)) (v1 := (.slice (some ⟨go108, 0, none⟩) x19_5.length co108)) (ok := (fun k_ => some k_ ≠ (.slice (some ad268) x10_3.length co112 : Value).ownBlock)) (by (with_reducible repeat (first | apply Kd.R_alloc | apply Kd.R_drewN | apply Kd.R_drew)); exact Kd.R_mono HL268_0.out (fun _ hk => ⟨hk.2, hk.1⟩)) hg (.inl rfl)); have n4_ := Aside0.mk ((by rw [hw]; exact below_set (HB.out) GB108.out : Below w.heap.size w w114)); clear HO_7; clear HO_10; clear HO_19; clear HL268_0; clear HB; have HO_7 := n0_; have HO_10 := n1_; have HO_19 := n2_; have HL268_0 := n3_; have HB := n4_; clear n0_ n1_ n2_ n3_ n4_; clear hg hw hp_; have p271 : 0 ≤ (x21_5 : Int) := of_decide_eq_true (by first | (with_reducible assumption) | assumption); have q271 : x21_5 < (l0.length : Int) := of_decide_eq_true (by first | (with_reducible assumption) | assumption); obtain ⟨ad271, A271_0, c271_0, e271, hx271_0, hl271_0, hi271_0⟩ := at_L4 HR0.out x21_5 p271 q271; cases e271; replace hx271_0 := (HB.out.cell (World.block_lt_of_cell? w _ hx271_0)).trans hx271_0; have HR271_0 := Aside0.mk hi271_0; have HC271_0 := Aside0.mk hl271_0; clear hi271_0 hl271_0; replace p271 := eq_true p271; replace q271 := eq_true q271; have p272 : 0 ≤ (x21_5 : Int) := of_decide_eq_true (by first | (with_reducible assumption) | assumption); have q272 : x21_5 < (y270.length : Int) := (by have h_ : (x21_5 : Int) < ((x19_5.length : Int) : Int) := of_decide_eq_true (by first | (with_reducible assumption) | assumption); first | (have e_ := (Kd.R_reads' HO_19.out).1; omega) | simpa only [Ny270.out, List.length_set] using h_); have ql272 : ((x21_5 : Int) < ((x19_5.length : Int) : Int)) = True := eq_true (of_decide_eq_true (by first | (with_reducible assumption) | assumption)); obtain ⟨ad272, e272, hx272_0⟩ := Kd.at_int (Kd.R_reads' HO_19.out).2.2 x21_5 p272 q272; obtain rfl : (⟨go108, 0, none⟩ : Addr) = ad272 := (by injection e272); (first | simp only [add_plain] at hx272_0 | simp only [add_at] at hx272_0 | simp only [Addr.add, Nat.zero_add] at hx272_0 | skip); replace p272 := eq_true p272; replace q272 := eq_true q272; have p273 : 0 ≤ ((rd y270 x21_5) : Int) := of_decide_eq_true (by first | (with_reducible assumption) | assumption); have q273 : (rd y270 x21_5) < ((rd_L4 l0 x21_5).length : Int) := of_decide_eq_true (by first | (with_reducible assumption) | assumption); obtain ⟨ad273, e273, hx273_0, hx273_1⟩ := at_T34 HR271_0.out (rd y270 x21_5) p273 q273; cases e273; replace hx273_0 := (HB.out.cell (World.block_lt_of_cell? w _ hx273_0)).trans hx273_0; replace hx273_1 := (HB.out.cell (World.block_lt_of_cell? w _ hx273_1)).trans hx273_1; replace p273 := eq_true p273; replace q273 := eq_true q273))
  repeat (go_quiet (first | ((with_reducible refine gate_store (t := 2) (p := 170) rfl ?_); (try (rw [drewN_self wr]; generalize hq_ : World.drewN wr _ = wr; have n0_ := Aside0.mk (Kd.R_at hq_ HO_7.out); have n1_ := Aside0.mk (Kd.S_at hq_ HO_10.out); have n2_ := Aside0.mk (Kd.R_at hq_ HO_19.out); have n3_ := Aside0.mk (Kd.R_at hq_ HL268_0.out); have n4_ := Aside0.mk (below_at hq_ HB.out); clear hq_ HO_7 HO_10 HO_19 HL268_0 HB; have HO_7 := n0_; have HO_10 := n1_; have HO_19 := n2_; have HL268_0 := n3_; have HB := n4_; clear n0_ n1_ n2_ n3_ n4_; (try (have HP113 := Kd.R_putg HO_19.out (x21_5 : Int) (rd (rd_L8 x10_3 x21_5) x20_5))))); refine store_event (t := 2) (p := 170) (v := ?vo_w114) (w1 := (wr.setCell ⟨go108, (x21_5 : Int).toNat, none⟩ (.int .i64 (rd (rd_L8 x10_3 x21_5) x20_5)))) ?hg ?ho ?hn ?hr ?_; (case ho => rfl); (case hg => rfl); (case hn => rfl); (case hr => first | (go_simp; done) | (go_simp; rfl)); intro w114 hw; have hg : wr.grownBy w114 (some go108) := (by rw [hw]; exact HP113.2); have hp_ : Kd.R (Kd.int .i64) 2 w114 w.heap.size (fun _ => True) (.slice (some ⟨go108, 0, none⟩) x19_5.length co108) y270 := (by rw [hw, Ny270.out]; exact HP113.1); clear HP113; have n0_ := Aside0.mk (Kd.R_over' (v := (.slice (some ⟨go108, 0, none⟩) x19_5.length co108)) (by (with_reducible repeat (first | apply Kd.R_alloc | apply Kd.R_drewN | apply Kd.R_drew)); exact HO_7.out) (Kd.R_typed HO_19.out) (by decide) hg); have n1_ := Aside0.mk (Kd.S_after (v := (.slice (some ⟨go108, 0, none⟩) x19_5.length co108)) (v1 := (.slice (some ⟨go108, 0, none⟩) x19_5.length co108)) (ok := (fun _ => True)) (by (with_reducible repeat (first | apply Kd.S_alloc | apply Kd.S_drewN | apply Kd.S_drew)); exact Kd.S_mono HO_10.out (fun _ hk => ⟨trivial, hk⟩)) hg (.inl rfl)); have n2_ := Aside0.mk (hp_); have n3_ := Aside0.mk (Kd.R_after (v := (.slice (some ⟨go108, 0, none⟩) x19_5.length co108)) (v1 := (.slice (some ⟨go108, 0, none⟩) x19_5.length co108)) (ok := (fun k_ => some k_ ≠ (.slice (some ad268) x10_3.length co112 : Value).ownBlock)) (by (with_reducible repeat (first | apply Kd.R_alloc | apply Kd.R_drewN | apply Kd.R_drew)); exact Kd.R_mono HL268_0.out (fun _ hk => ⟨hk.2, hk.1⟩)) hg (.inl rfl)); have n4_ := Aside0.mk ((by rw [hw]; exact below_set (HB.out) GB108.out : Below w.heap.size w w114)); clear HO_7; clear HO_10; clear HO_19; clear HL268_0; clear HB; have HO_7 := n0_; have HO_10 := n1_; have HO_19 := n2_; have HL268_0 := n3_; have HB := n4_; clear n0_ n1_ n2_ n3_ n4_; clear hg hw hp_; have p271 : 0 ≤ (x21_5 : Int) := of_decide_eq_true (by first | (with_reducible assumption) | assumption); have q271 : x21_5 < (l0.length : Int) := of_decide_eq_true (by first | (with_reducible assumption) | assumption); obtain ⟨ad271, A271_0, c271_0, e271, hx271_0, hl271_0, hi271_0⟩ := at_L4 HR0.out x21_5 p271 q271; cases e271; replace hx271_0 := (HB.out.cell (World.block_lt_of_cell? w _ hx271_0)).trans hx271_0; have HR271_0 := Aside0.mk hi271_0; have HC271_0 := Aside0.mk hl271_0; clear hi271_0 hl271_0; replace p271 := eq_true p271; replace q271 := eq_true q271; have p272 : 0 ≤ (x21_5 : Int) := of_decide_eq_true (by first | (with_reducible assumption) | assumption); have q272 : x21_5 < (y270.length : Int) := (by have h_ : (x21_5 : Int) < ((x19_5.length : Int) : Int) := of_decide_eq_true (by first | (with_reducible assumption) | assumption); first | (have e_ := (Kd.R_reads' HO_19.out).1; omega) | simpa only [Ny270.out, List.length_set] using h_); have ql272 : ((x21_5 : Int) < ((x19_5.length : Int) : Int)) = True := eq_true (of_decide_eq_true (by first | (with_reducible assumption) | assumption)); obtain ⟨ad272, e272, hx272_0⟩ := Kd.at_int (Kd.R_reads' HO_19.out).2.2 x21_5 p272 q272; obtain rfl : (⟨go108, 0, none⟩ : Addr) = ad272 := (by injection e272); (first | simp only [add_plain] at hx272_0 | simp only [add_at] at hx272_0 | simp only [Addr.add, Nat.zero_add] at hx272_0 | skip); replace p272 := eq_true p272; replace q272 := eq_true q272; have p273 : 0 ≤ ((rd y270 x21_5) : Int) := of_decide_eq_true (by first | (with_reducible assumption) | assumption); have q273 : (rd y270 x21_5) < ((rd_L4 l0 x21_5).length : Int) := of_decide_eq_true (by first | (with_reducible assumption) | assumption); obtain ⟨ad273, e273, hx273_0, hx273_1⟩ := at_T34 HR271_0.out (rd y270 x21_5) p273 q273; cases e273; replace hx273_0 := (HB.out.cell (World.block_lt_of_cell? w _ hx273_0)).trans hx273_0; replace hx273_1 := (HB.out.cell (World.block_lt_of_cell? w _ hx273_1)).trans hx273_1; replace p273 := eq_true p273; replace q273 := eq_true q273)); try go_wp2_with (first | ((with_reducible refine gate_store (t := 2) (p := 170) rfl ?_); (try (rw [drewN_self wr]; generalize hq_ : World.drewN wr _ = wr; have n0_ := Aside0.mk (Kd.R_at hq_ HO_7.out); have n1_ := Aside0.mk (Kd.S_at hq_ HO_10.out); have n2_ := Aside0.mk (Kd.R_at hq_ HO_19.out); have n3_ := Aside0.mk (Kd.R_at hq_ HL268_0.out); have n4_ := Aside0.mk (below_at hq_ HB.out); clear hq_ HO_7 HO_10 HO_19 HL268_0 HB; have HO_7 := n0_; have HO_10 := n1_; have HO_19 := n2_; have HL268_0 := n3_; have HB := n4_; clear n0_ n1_ n2_ n3_ n4_; (try (have HP113 := Kd.R_putg HO_19.out (x21_5 : Int) (rd (rd_L8 x10_3 x21_5) x20_5))))); refine store_event (t := 2) (p := 170) (v := ?vo_w114) (w1 := (wr.setCell ⟨go108, (x21_5 : Int).toNat, none⟩ (.int .i64 (rd (rd_L8 x10_3 x21_5) x20_5)))) ?hg ?ho ?hn ?hr ?_; (case ho => rfl); (case hg => rfl); (case hn => rfl); (case hr => first | (go_simp; done) | (go_simp; rfl)); intro w114 hw; have hg : wr.grownBy w114 (some go108) := (by rw [hw]; exact HP113.2); have hp_ : Kd.R (Kd.int .i64) 2 w114 w.heap.size (fun _ => True) (.slice (some ⟨go108, 0, none⟩) x19_5.length co108) y270 := (by rw [hw, Ny270.out]; exact HP113.1); clear HP113; have n0_ := Aside0.mk (Kd.R_over' (v := (.slice (some ⟨go108, 0, none⟩) x19_5.length co108)) (by (with_reducible repeat (first | apply Kd.R_alloc | apply Kd.R_drewN | apply Kd.R_drew)); exact HO_7.out) (Kd.R_typed HO_19.out) (by decide) hg); have n1_ := Aside0.mk (Kd.S_after (v := (.slice (some ⟨go108, 0, none⟩) x19_5.length co108)) (v1 := (.slice (some ⟨go108, 0, none⟩) x19_5.length co108)) (ok := (fun _ => True)) (by (with_reducible repeat (first | apply Kd.S_alloc | apply Kd.S_drewN | apply Kd.S_drew)); exact Kd.S_mono HO_10.out (fun _ hk => ⟨trivial, hk⟩)) hg (.inl rfl)); have n2_ := Aside0.mk (hp_); have n3_ := Aside0.mk (Kd.R_after (v := (.slice (some ⟨go108, 0, none⟩) x19_5.length co108)) (v1 := (.slice (some ⟨go108, 0, none⟩) x19_5.length co108)) (ok := (fun k_ => some k_ ≠ (.slice (some ad268) x10_3.length co112 : Value).ownBlock)) (by (with_reducible repeat (first | apply Kd.R_alloc | apply Kd.R_drewN | apply Kd.R_drew)); exact Kd.R_mono HL268_0.out (fun _ hk => ⟨hk.2, hk.1⟩)) hg (.inl rfl)); have n4_ := Aside0.mk ((by rw [hw]; exact below_set (HB.out) GB108.out : Below w.heap.size w w114)); clear HO_7; clear HO_10; clear HO_19; clear HL268_0; clear HB; have HO_7 := n0_; have HO_10 := n1_; have HO_19 := n2_; have HL268_0 := n3_; have HB := n4_; clear n0_ n1_ n2_ n3_ n4_; clear hg hw hp_; have p271 : 0 ≤ (x21_5 : Int) := of_decide_eq_true (by first | (with_reducible assumption) | assumption); have q271 : x21_5 < (l0.length : Int) := of_decide_eq_true (by first | (with_reducible assumption) | assumption); obtain ⟨ad271, A271_0, c271_0, e271, hx271_0, hl271_0, hi271_0⟩ := at_L4 HR0.out x21_5 p271 q271; cases e271; replace hx271_0 := (HB.out.cell (World.block_lt_of_cell? w _ hx271_0)).trans hx271_0; have HR271_0 := Aside0.mk hi271_0; have HC271_0 := Aside0.mk hl271_0; clear hi271_0 hl271_0; replace p271 := eq_true p271; replace q271 := eq_true q271; have p272 : 0 ≤ (x21_5 : Int) := of_decide_eq_true (by first | (with_reducible assumption) | assumption); have q272 : x21_5 < (y270.length : Int) := (by have h_ : (x21_5 : Int) < ((x19_5.length : Int) : Int) := of_decide_eq_true (by first | (with_reducible assumption) | assumption); first | (have e_ := (Kd.R_reads' HO_19.out).1; omega) | simpa only [Ny270.out, List.length_set] using h_); have ql272 : ((x21_5 : Int) < ((x19_5.length : Int) : Int)) = True := eq_true (of_decide_eq_true (by first | (with_reducible assumption) | assumption)); obtain ⟨ad272, e272, hx272_0⟩ := Kd.at_int (Kd.R_reads' HO_19.out).2.2 x21_5 p272 q272; obtain rfl : (⟨go108, 0, none⟩ : Addr) = ad272 := (by injection e272); (first | simp only [add_plain] at hx272_0 | simp only [add_at] at hx272_0 | simp only [Addr.add, Nat.zero_add] at hx272_0 | skip); replace p272 := eq_true p272; replace q272 := eq_true q272; have p273 : 0 ≤ ((rd y270 x21_5) : Int) := of_decide_eq_true (by first | (with_reducible assumption) | assumption); have q273 : (rd y270 x21_5) < ((rd_L4 l0 x21_5).length : Int) := of_decide_eq_true (by first | (with_reducible assumption) | assumption); obtain ⟨ad273, e273, hx273_0, hx273_1⟩ := at_T34 HR271_0.out (rd y270 x21_5) p273 q273; cases e273; replace hx273_0 := (HB.out.cell (World.block_lt_of_cell? w _ hx273_0)).trans hx273_0; replace hx273_1 := (HB.out.cell (World.block_lt_of_cell? w _ hx273_1)).trans hx273_1; replace p273 := eq_true p273; replace q273 := eq_true q273)))
  subst hji8
  go_roundg k5
  case measure => have := HJ2.out; have := HK2.out; have := HK3.out; have := HJ86.out; have := HK5.out; omega
  case rel => exact ⟨(y270), (wrap64 (x20_5 - ((rd_T34 (rd_L4 l0 x21_5) (rd y270 x21_5)).f0))), (wrap64 (x21_5 - 1)), (by first|rfl|(simp; done)|(simp [*]; done)), (by first|rfl|(simp; done)|(simp [*]; done)), H', ⟨by have := HJ2.out; have := HK2.out; have := HK3.out; have := HJ86.out; have := HK5.out; omega⟩, ⟨by (try simp only [hl8_2]); (with_reducible repeat (first | apply Kd.R_alloc | apply Kd.R_drewN | apply Kd.R_drew)); exact HO_7.out⟩, ⟨by (try simp only [hl8_2]); (with_reducible repeat (first | apply Kd.S_alloc | apply Kd.S_drewN | apply Kd.S_drew)); exact Kd.S_mono HO_10.out (fun _ hk => hk.2)⟩, ⟨by (try simp only [hl8_2]); (with_reducible repeat (first | apply Kd.R_alloc | apply Kd.R_drewN | apply Kd.R_drew)); exact HO_19.out⟩, ⟨by repeat (first | (with_reducible first | exact HB.out | apply below_alloc | apply pw_below_drewN | apply below_drew1) | exact HB.out)⟩⟩
 rw [if_pos c25] at H
 have c25b0 : decide (x48_3 < (l0.length : Int)) = true := decide_eq_true c25
 (try (have c25l0 := c25b0; simp only [hl8_2] at c25l0))
 clear c25
 obtain ⟨ji26, hji26⟩ : ∃ j_ : Int, (wrap64 (a1 + 1)) = j_ := ⟨_, rfl⟩
 replace H : (if 0 ≤ (ji26) then (if (ji26 : Int).toNat ≤ 70368744177664 then (if (ji26 : Int).toNat ≤ 281474976710656 then (if (ji26 : Int).toNat ≤ 35184372088832 then (spec_BestCuts.l2 k3 l0 a1 x7_3 x8_3 x10_3 x48_3 (List.replicate (ji26 : Int).toNat (0 : Nat)) (List.replicate (ji26 : Int).toNat false) (List.replicate (ji26 : Int).toNat 0) 0 (l0.length : Int) x48_3) else (none)) else (none)) else (none)) else (none)) = some (r1, r2, r3) := by first | (rw [hji26] at H; exact H) | (simp only [hji26] at H ⊢; exact H)
 have eji8_ji26 : ji8 = ji26 := hji8.symm.trans hji26
 (try rw [eji8_ji26] at hji8w)
 (try simp only [eji8_ji26])
 have hji26w : (IntKind.i64.wrap (a1 + 1)) = ji26 := (i64_w _).trans hji26
 by_cases c27 : 0 ≤ (ji26)
 rotate_left
 ·rw [if_neg c27] at H
  exact absurd H (by simp)
 rw [if_pos c27] at H
 have c27b0 := eq_true c27
 have c27b1 : decide (0 ≤ (ji26)) = true := decide_eq_true c27
 clear c27
 by_cases c28 : (ji26 : Int).toNat ≤ 70368744177664
 rotate_left
 ·rw [if_neg c28] at H
  exact absurd H (by simp)
 rw [if_pos c28] at H
 have c28b0 := eq_true c28
 have c28b1 : decide ((ji26 : Int).toNat ≤ 70368744177664) = true := decide_eq_true c28
 clear c28
 obtain ⟨y237, hy237⟩ : ∃ y_ : List Nat, y_ = (List.replicate (ji26 : Int).toNat (0 : Nat)) := ⟨_, rfl⟩
 replace H : (if (ji26 : Int).toNat ≤ 281474976710656 then (if (ji26 : Int).toNat ≤ 35184372088832 then (spec_BestCuts.l2 k3 l0 a1 x7_3 x8_3 x10_3 x48_3 y237 (List.replicate (ji26 : Int).toNat false) (List.replicate (ji26 : Int).toNat 0) 0 (l0.length : Int) x48_3) else (none)) else (none)) = some (r1, r2, r3) := by first | (rw [hy237]; with_reducible exact H) | (have H2_ := (Option.bind_some _ _).symm.trans H; rw [hy237]; with_reducible exact H2_) | (have H2_ := (Option.bind_some _ _).symm.trans H; with_reducible exact H2_) | with_reducible exact H | (rw [hy237]; exact H) | exact H
 have Ny237 := Aside0.mk hy237
 clear hy237
 by_cases c29 : (ji26 : Int).toNat ≤ 281474976710656
 rotate_left
 ·rw [if_neg c29] at H
  exact absurd H (by simp)
 rw [if_pos c29] at H
 have c29b0 := eq_true c29
 have c29b1 : decide ((ji26 : Int).toNat ≤ 281474976710656) = true := decide_eq_true c29
 clear c29
 obtain ⟨y240, hy240⟩ : ∃ y_ : List Bool, y_ = (List.replicate (ji26 : Int).toNat false) := ⟨_, rfl⟩
 replace H : (if (ji26 : Int).toNat ≤ 35184372088832 then (spec_BestCuts.l2 k3 l0 a1 x7_3 x8_3 x10_3 x48_3 y237 y240 (List.replicate (ji26 : Int).toNat 0) 0 (l0.length : Int) x48_3) else (none)) = some (r1, r2, r3) := by first | (rw [hy240]; with_reducible exact H) | (have H2_ := (Option.bind_some _ _).symm.trans H; rw [hy240]; with_reducible exact H2_) | (have H2_ := (Option.bind_some _ _).symm.trans H; with_reducible exact H2_) | with_reducible exact H | (rw [hy240]; exact H) | exact H
 have Ny240 := Aside0.mk hy240
 clear hy240
 by_cases c30 : (ji26 : Int).toNat ≤ 35184372088832
 rotate_left
 ·rw [if_neg c30] at H
  exact absurd H (by simp)
 rw [if_pos c30] at H
 have c30b0 := eq_true c30
 have c30b1 : decide ((ji26 : Int).toNat ≤ 35184372088832) = true := decide_eq_true c30
 clear c30
 obtain ⟨y243, hy243⟩ : ∃ y_ : List Int, y_ = (List.replicate (ji26 : Int).toNat 0) := ⟨_, rfl⟩
 replace H : (spec_BestCuts.l2 k3 l0 a1 x7_3 x8_3 x10_3 x48_3 y237 y240 y243 0 (l0.length : Int) x48_3) = some (r1, r2, r3) := by first | (rw [hy243]; with_reducible exact H) | (have H2_ := (Option.bind_some _ _).symm.trans H; rw [hy243]; with_reducible exact H2_) | (have H2_ := (Option.bind_some _ _).symm.trans H; with_reducible exact H2_) | with_reducible exact H | (rw [hy243]; exact H) | exact H
 have Ny243 := Aside0.mk hy243
 clear hy243
 have H' := Aside0.mk H
 clear H
 go_wp2_with (first | ((with_reducible refine gate_dst (N := 53) rfl ?_); refine Kd.R_make (Kd.float .f32) _ 26 rfl (N := 53) rfl 62 _ _ rfl ji26 rfl rfl Try.underlying62 (.float .f32 0) 4 info26 rfl (by decide) (by omega) (0 : Nat) (ok := fun _ => True) (okp := fun _ => True) rfl (fun _ hk => hk) trivial (of_decide_eq_true (by first | (with_reducible assumption) | assumption)) (Nat.le_trans (Nat.mul_le_mul_right _ (of_decide_eq_true (by first | (with_reducible assumption) | assumption) : ji26.toNat ≤ 70368744177664)) (by omega)) (Below.refl _ _) (Nat.le_refl _) ?_; intro v238 w31 ho32 hb hg_ hnew_; clear hg_ hnew_; (first | rw [← Ny237.out] at ho32 | (simp only [Int.reduceToNat] at ho32; rw [← Ny237.out] at ho32)); have n0_ := Aside0.mk (Kd.R_elder' (by (with_reducible repeat (first | apply Kd.R_alloc | apply Kd.R_drewN | apply Kd.R_drew)); exact HO_7.out) (Kd.R_base ho32) hb); have n1_ := Aside0.mk (Kd.R_below (by (with_reducible repeat (first | apply Kd.R_alloc | apply Kd.R_drewN | apply Kd.R_drew)); exact HO_8.out) hb); have n2_ := Aside0.mk (Kd.S_below (by (with_reducible repeat (first | apply Kd.S_alloc | apply Kd.S_drewN | apply Kd.S_drew)); exact HO_10.out) hb); have n3_ := Aside0.mk (Kd.R_lower (Kd.R_new' ho32 (Kd.R_lt (by (with_reducible repeat (first | apply Kd.R_alloc | apply Kd.R_drewN | apply Kd.R_drew)); exact HO_7.out))) (below_size (by repeat (first | (with_reducible first | exact HB.out | apply below_alloc | apply pw_below_drewN | apply below_drew1) | exact HB.out)))); have n4_ := Aside0.mk (below_step (by repeat (first | (with_reducible first | exact HB.out | apply below_alloc | apply pw_below_drewN | apply below_drew1) | exact HB.out)) hb); clear HO_7; clear HO_8; clear HO_10; clear HB; have HO_7 := n0_; have HO_8 := n1_; have HO_10 := n2_; have HO239 := n3_; have HB := n4_; clear n0_ n1_ n2_ n3_ n4_; clear hb ho32) | ((with_reducible refine gate_dst (N := 56) rfl ?_); refine Kd.R_make Kd.bool _ 4 rfl (N := 56) rfl 63 _ _ rfl ji26 rfl rfl Try.underlying63 (.bool false) 1 info4 rfl (by decide) (by omega) false (ok := fun _ => True) (okp := fun _ => True) rfl (fun _ hk => hk) trivial (of_decide_eq_true (by first | (with_reducible assumption) | assumption)) (Nat.le_trans (Nat.mul_le_mul_right _ (of_decide_eq_true (by first | (with_reducible assumption) | assumption) : ji26.toNat ≤ 281474976710656)) (by omega)) (Below.refl _ _) (Nat.le_refl _) ?_; intro v241 w33 ho34 hb hg_ hnew_; clear hg_ hnew_; (first | rw [← Ny240.out] at ho34 | (simp only [Int.reduceToNat] at ho34; rw [← Ny240.out] at ho34)); have n0_ := Aside0.mk (Kd.R_below (by (with_reducible repeat (first | apply Kd.R_alloc | apply Kd.R_drewN | apply Kd.R_drew)); exact HO_7.out) hb); have n1_ := Aside0.mk (Kd.R_elder' (by (with_reducible repeat (first | apply Kd.R_alloc | apply Kd.R_drewN | apply Kd.R_drew)); exact HO_8.out) (Kd.R_base ho34) hb); have n2_ := Aside0.mk (Kd.S_below (by (with_reducible repeat (first | apply Kd.S_alloc | apply Kd.S_drewN | apply Kd.S_drew)); exact HO_10.out) hb); have n3_ := Aside0.mk (Kd.R_below (by (with_reducible repeat (first | apply Kd.R_alloc | apply Kd.R_drewN | apply Kd.R_drew)); exact HO239.out) hb); have n4_ := Aside0.mk (Kd.R_lower (Kd.R_new' ho34 (Kd.R_lt (by (with_reducible repeat (first | apply Kd.R_alloc | apply Kd.R_drewN | apply Kd.R_drew)); exact HO_8.out))) (below_size (by repeat (first | (with_reducible first | exact HB.out | apply below_alloc | apply pw_below_drewN | apply below_drew1) | exact HB.out)))); have n5_ := Aside0.mk (below_step (by repeat (first | (with_reducible first | exact HB.out | apply below_alloc | apply pw_below_drewN | apply below_drew1) | exact HB.out)) hb); clear HO_7; clear HO_8; clear HO_10; clear HO239; clear HB; have HO_7 := n0_; have HO_8 := n1_; have HO_10 := n2_; have HO239 := n3_; have HO242 := n4_; have HB := n5_; clear n0_ n1_ n2_ n3_ n4_ n5_; clear hb ho34) | ((with_reducible refine gate_dst (N := 59) rfl ?_); refine Kd.R_make (Kd.int .i64) _ 2 rfl (N := 59) rfl 28 _ _ rfl ji26 rfl rfl Try.underlying28 (.int .i64 0) 8 info2 rfl (by decide) (by omega) 0 (ok := fun _ => True) (okp := fun _ => True) rfl (fun _ hk => hk) trivial (of_decide_eq_true (by first | (with_reducible assumption) | assumption)) (Nat.le_trans (Nat.mul_le_mul_right _ (of_decide_eq_true (by first | (with_reducible assumption) | assumption) : ji26.toNat ≤ 35184372088832)) (by omega)) (Below.refl _ _) (Nat.le_refl _) ?_; intro v244 w35 ho36 hb hg_ hnew_; clear hg_ hnew_; (first | rw [← Ny243.out] at ho36 | (simp only [Int.reduceToNat] at ho36; rw [← Ny243.out] at ho36)); have n0_ := Aside0.mk (Kd.R_below (by (with_reducible repeat (first | apply Kd.R_alloc | apply Kd.R_drewN | apply Kd.R_drew)); exact HO_7.out) hb); have n1_ := Aside0.mk (Kd.R_below (by (with_reducible repeat (first | apply Kd.R_alloc | apply Kd.R_drewN | apply Kd.R_drew)); exact HO_8.out) hb); have n2_ := Aside0.mk (Kd.S_elder' (by (with_reducible repeat (first | apply Kd.S_alloc | apply Kd.S_drewN | apply Kd.S_drew)); exact HO_10.out) (Kd.R_base ho36) hb); have n3_ := Aside0.mk (Kd.R_below (by (with_reducible repeat (first | apply Kd.R_alloc | apply Kd.R_drewN | apply Kd.R_drew)); exact HO239.out) hb); have n4_ := Aside0.mk (Kd.R_below (by (with_reducible repeat (first | apply Kd.R_alloc | apply Kd.R_drewN | apply Kd.R_drew)); exact HO242.out) hb); have n5_ := Aside0.mk (Kd.R_lower ho36 (below_size (by repeat (first | (with_reducible first | exact HB.out | apply below_alloc | apply pw_below_drewN | apply below_drew1) | exact HB.out)))); have n6_ := Aside0.mk (below_step (by repeat (first | (with_reducible first | exact HB.out | apply below_alloc | apply pw_below_drewN | apply below_drew1) | exact HB.out)) hb); clear HO_7; clear HO_8; clear HO_10; clear HO239; clear HO242; clear HB; have HO_7 := n0_; have HO_8 := n1_; have HO_10 := n2_; have HO239 := n3_; have HO242 := n4_; have HO245 := n5_; have HB := n6_; clear n0_ n1_ n2_ n3_ n4_ n5_ n6_; clear hb ho36))
 go_loopg [15] k3 (fun kq v15 w' => ∃ (x12_4 : List Nat) (x13_4 : List Bool) (x14_4 : List Int) (x15_4 : Int), v15 = .int .i64 x15_4 ∧ Aside0 (spec_BestCuts.l2 kq l0 a1 x7_3 x8_3 x10_3 x48_3 x12_4 x13_4 x14_4 x15_4 (l0.length : Int) x48_3 = some (r1, r2, r3)) ∧ Aside0 (kq ≤ k3) ∧ Aside0 (Kd.R (Kd.float .f32) 26 w' w.heap.size (fun k_ => some k_ ≠ (v238 : Value).ownBlock) u7 x7_3) ∧ Aside0 (Kd.R Kd.bool 4 w' w.heap.size (fun k_ => some k_ ≠ (v241 : Value).ownBlock) u8 x8_3) ∧ Aside0 (Kd.S (Kd.slice 2 (Kd.int .i64)) 28 w' w.heap.size (fun k_ => some k_ ≠ (v244 : Value).ownBlock) u10 x10_3) ∧ Aside0 (Kd.R (Kd.float .f32) 26 w' w.heap.size (fun k_ => some k_ ≠ (u7 : Value).ownBlock) v238 x12_4) ∧ Aside0 (Kd.R Kd.bool 4 w' w.heap.size (fun k_ => some k_ ≠ (u8 : Value).ownBlock) v241 x13_4) ∧ Aside0 (Kd.R (Kd.int .i64) 2 w' w.heap.size (fun _ => True) v244 x14_4) ∧ Aside0 (Below w.heap.size w w'))
 case atStart => exact ⟨(y237), (y240), (y243), (0), (by first|rfl|(simp; done)|(simp [*]; done)), H', ⟨Nat.le_refl _⟩, ⟨by (try simp only [hl8_2]); (with_reducible repeat (first | apply Kd.R_alloc | apply Kd.R_drewN | apply Kd.R_drew)); exact Kd.R_mono HO_7.out (fun _ hk => hk.2)⟩, ⟨by (try simp only [hl8_2]); (with_reducible repeat (first | apply Kd.R_alloc | apply Kd.R_drewN | apply Kd.R_drew)); exact Kd.R_mono HO_8.out (fun _ hk => hk.2)⟩, ⟨by (try simp only [hl8_2]); (with_reducible repeat (first | apply Kd.S_alloc | apply Kd.S_drewN | apply Kd.S_drew)); exact Kd.S_mono HO_10.out (fun _ hk => hk.2)⟩, ⟨by (try simp only [hl8_2]); (with_reducible repeat (first | apply Kd.R_alloc | apply Kd.R_drewN | apply Kd.R_drew)); exact Kd.R_mono HO239.out (fun _ hk => hk.2)⟩, ⟨by (try simp only [hl8_2]); (with_reducible repeat (first | apply Kd.R_alloc | apply Kd.R_drewN | apply Kd.R_drew)); exact Kd.R_mono HO242.out (fun _ hk => hk.2)⟩, ⟨by (try simp only [hl8_2]); (with_reducible repeat (first | apply Kd.R_alloc | apply Kd.R_drewN | apply Kd.R_drew)); exact HO245.out⟩, ⟨by repeat (first | (with_reducible first | exact HB.out | apply below_alloc | apply pw_below_drewN | apply below_drew1) | exact HB.out)⟩⟩
 clear H'
 try clear c1
 try clear c2
 try clear p2
 try clear q2
 try clear hx2
 try clear hf2
 try clear c3
 try clear c5
 try clear p6
 try clear c7
 try clear c9
 try clear c9b0
 try clear c9b1
 try clear c10
 try clear c10b0
 try clear c10b1
 try clear c11
 try clear c11b0
 try clear c11b1
 try clear c17
 try clear c17b0
 try clear c18
 try clear c18b0
 try clear c19
 try clear c19b0
 try clear p20
 try clear q20
 try clear hx20
 try clear hf20
 try clear c25
 try clear c25b0
 try clear c27
 try clear c27b0
 try clear c27b1
 try clear c28
 try clear c28b0
 try clear c28b1
 try clear c29
 try clear c29b0
 try clear c29b1
 try clear c30
 try clear c30b0
 try clear c30b1
 try clear hx20_0
 try clear p2
 try clear p20
 try clear p6
 try clear q2
 try clear q20
 obtain ⟨x12_4, x13_4, x14_4, x15_4, rfl, HA, HK4, HO_7, HO_8, HO_10, HO_12, HO_13, HO_14, HB⟩ := hrel
 cases gk with
 | zero => exact absurd HA.out (by simp [spec_BestCuts.l2])
 | succ k4 => ?_
 have H := HA.out
 clear HA
 simp only [spec_BestCuts.l2] at H
 by_cases c37 : x15_4 ≤ a1
 rotate_left
 ·rw [if_neg c37] at H
  have c37b0 : decide (x15_4 ≤ a1) = false := decide_eq_false c37
  clear c37
  by_cases c84 : x10_3.length < 5864062014805
  rotate_left
  ·rw [if_neg c84] at H
   exact absurd H (by simp)
  rw [if_pos c84] at H
  have LMc84 := Aside0.mk c84
  clear c84
  obtain ⟨y246, hy246⟩ : ∃ y_ : List (List Int), y_ = (x10_3 ++ [x14_4]) := ⟨_, rfl⟩
  replace H : (spec_BestCuts.l1 k4 l0 a1 x12_4 x13_4 y246 (l0.length : Int) (wrap64 (x48_3 + 1))) = some (r1, r2, r3) := by first | (rw [hy246]; with_reducible exact H) | (have H2_ := (Option.bind_some _ _).symm.trans H; rw [hy246]; with_reducible exact H2_) | (have H2_ := (Option.bind_some _ _).symm.trans H; with_reducible exact H2_) | with_reducible exact H | (rw [hy246]; exact H) | exact H
  have Ny246 := Aside0.mk hy246
  clear hy246
  have H' := Aside0.mk H
  clear H
  obtain ⟨Ao86, co86, eo86⟩ := Kd.R_slice HO_14.out
  subst eo86
  go_wp2_with (first | ((with_reducible refine gate_builtin (b := .append) (xs := #[.tmp 132, .tmp 134]) rfl ?_); at_builtin; refine Kd.S_append (Kd.slice 2 (Kd.int .i64)) (w0 := w) w.heap.size rfl (.tmp 132) (.tmp 134) 64 28 (.slice none 0 0) 24 rfl Try.underlying64 info28 rfl (by decide) (by omega) u10 x10_3 x14_4 [.slice Ao86 x14_4.length co86] (fun _ => True) (fun k_ => some k_ = (.slice Ao86 x14_4.length co86 : Value).ownBlock) rfl rfl ?aP (fun k_ hk_ => ((Kd.R_mono (ok' := fun k_ => ((fun _ => True)) k_ ∧ some k_ ≠ (u10 : Value).ownBlock) (Kd.R_apart' (HO_14.out) (Kd.S_typed HO_10.out) (by decide)) (fun k_ hk => ⟨trivial, hk.2⟩))).1 k_ hk_.symm) ?aF ?aO ?aB ?aS ?aL ?_; (case aP => exact Kd.M_row (Kd.R_mono (Kd.R_tight rfl (Kd.R_mono (ok' := fun k_ => ((fun _ => True)) k_ ∧ some k_ ≠ (u10 : Value).ownBlock) (Kd.R_apart' (HO_14.out) (Kd.S_typed HO_10.out) (by decide)) (fun k_ hk => ⟨trivial, hk.2⟩))) (fun _ h_ => h_))); (case aB => exact (by repeat (first | (with_reducible first | exact HB.out | apply below_alloc | apply pw_below_drewN | apply below_drew1) | exact HB.out))); (case aF => exact (fun _ _ => trivial)); (case aO => exact (by (with_reducible repeat (first | apply Kd.S_alloc | apply Kd.S_drewN | apply Kd.S_drew)); exact Kd.S_mono HO_10.out (fun k_ hk => ⟨trivial, fun e_ => hk e_⟩))); (case aS => exact (below_size (by repeat (first | (with_reducible first | exact HB.out | apply below_alloc | apply pw_below_drewN | apply below_drew1) | exact HB.out)))); (case aL => have := LMc84.out; omega); intro v247 w85 ho hb hg hat; rw [← Ny246.out] at ho; have n0_ := Aside0.mk (Kd.R_over' (by (with_reducible repeat (first | apply Kd.R_alloc | apply Kd.R_drewN | apply Kd.R_drew)); exact HO_7.out) (Kd.S_typed (by (with_reducible repeat (first | apply Kd.S_alloc | apply Kd.S_drewN | apply Kd.S_drew)); exact HO_10.out)) (by decide) hg); have n1_ := Aside0.mk (Kd.R_over' (by (with_reducible repeat (first | apply Kd.R_alloc | apply Kd.R_drewN | apply Kd.R_drew)); exact HO_8.out) (Kd.S_typed (by (with_reducible repeat (first | apply Kd.S_alloc | apply Kd.S_drewN | apply Kd.S_drew)); exact HO_10.out)) (by decide) hg); have n2_ := Aside0.mk (Kd.R_over' (by (with_reducible repeat (first | apply Kd.R_alloc | apply Kd.R_drewN | apply Kd.R_drew)); exact HO_12.out) (Kd.S_typed (by (with_reducible repeat (first | apply Kd.S_alloc | apply Kd.S_drewN | apply Kd.S_drew)); exact HO_10.out)) (by decide) hg); have n3_ := Aside0.mk (Kd.R_over' (by (with_reducible repeat (first | apply Kd.R_alloc | apply Kd.R_drewN | apply Kd.R_drew)); exact HO_13.out) (Kd.S_typed (by (with_reducible repeat (first | apply Kd.S_alloc | apply Kd.S_drewN | apply Kd.S_drew)); exact HO_10.out)) (by decide) hg); have n4_ := Aside0.mk (hb); have n5_ := Aside0.mk (ho); clear HO_7; clear HO_8; clear HO_12; clear HO_13; clear HB; clear HO_10; clear HO_14; have HO_7 := n0_; have HO_8 := n1_; have HO_12 := n2_; have HO_13 := n3_; have HB := n4_; have HO248 := n5_; clear n0_ n1_ n2_ n3_ n4_ n5_; clear ho hb hg hat))
  subst hji26
  subst hji8
  go_roundg k4
  case measure => have := HJ2.out; have := HK2.out; have := HK3.out; have := HK4.out; omega
  case rel => exact ⟨(x12_4), (x13_4), (y246), (wrap64 (x48_3 + 1)), (by first|rfl|(simp; done)|(simp [*]; done)), H', ⟨by have := HJ2.out; have := HK2.out; have := HK3.out; have := HK4.out; omega⟩, ⟨by (try simp only [hl8_2]); (with_reducible repeat (first | apply Kd.R_alloc | apply Kd.R_drewN | apply Kd.R_drew)); exact Kd.R_mono HO_12.out (fun _ hk => trivial)⟩, ⟨by (try simp only [hl8_2]); (with_reducible repeat (first | apply Kd.R_alloc | apply Kd.R_drewN | apply Kd.R_drew)); exact Kd.R_mono HO_13.out (fun _ hk => trivial)⟩, ⟨by (try simp only [hl8_2]); (with_reducible repeat (first | apply Kd.S_alloc | apply Kd.S_drewN | apply Kd.S_drew)); exact HO248.out⟩, ⟨by repeat (first | (with_reducible first | exact HB.out | apply below_alloc | apply pw_below_drewN | apply below_drew1) | exact HB.out)⟩⟩
 rw [if_pos c37] at H
 have c37b0 : decide (x15_4 ≤ a1) = true := decide_eq_true c37
 clear c37
 by_cases c38 : 0 ≤ x48_3
 rotate_left
 ·rw [if_neg c38] at H
  exact absurd H (by simp)
 rw [if_pos c38] at H
 have c38b0 : decide (0 ≤ x48_3) = true := decide_eq_true c38
 clear c38
 by_cases c39 : x48_3 < (l0.length : Int)
 rotate_left
 ·rw [if_neg c39] at H
  exact absurd H (by simp)
 rw [if_pos c39] at H
 have c39b0 : decide (x48_3 < (l0.length : Int)) = true := decide_eq_true c39
 (try (have c39l0 := c39b0; simp only [hl8_2] at c39l0))
 clear c39
 have H' := Aside0.mk H
 clear H
 have p249 : 0 ≤ (x48_3 : Int) := of_decide_eq_true (by first | (with_reducible assumption) | assumption)
 have q249 : x48_3 < (l0.length : Int) := of_decide_eq_true (by first | (with_reducible assumption) | assumption)
 obtain ⟨ad249, A249_0, c249_0, e249, hx249_0, hl249_0, hi249_0⟩ := at_L4 HR0.out x48_3 p249 q249
 cases e249
 replace hx249_0 := (HB.out.cell (World.block_lt_of_cell? w _ hx249_0)).trans hx249_0
 have HR249_0 := Aside0.mk hi249_0
 have HC249_0 := Aside0.mk hl249_0
 clear hi249_0 hl249_0
 replace p249 := eq_true p249
 replace q249 := eq_true q249
 go_wp2
 go_loopg [70] k4 (fun kq v70 w' => ∃ (x12_5 : List Nat) (x13_5 : List Bool) (x14_5 : List Int) (x70_5 : Int), v70 = .int .i64 x70_5 ∧ Aside0 (spec_BestCuts.l3 kq l0 a1 x7_3 x8_3 x10_3 x48_3 x12_5 x13_5 x14_5 x15_4 (l0.length : Int) x48_3 ((rd_L4 l0 x48_3).length : Int) x70_5 = some (r1, r2, r3)) ∧ Aside0 (kq ≤ k4) ∧ Aside0 (Kd.R (Kd.float .f32) 26 w' w.heap.size (fun k_ => some k_ ≠ (v238 : Value).ownBlock) u7 x7_3) ∧ Aside0 (Kd.R Kd.bool 4 w' w.heap.size (fun k_ => some k_ ≠ (v241 : Value).ownBlock) u8 x8_3) ∧ Aside0 (Kd.S (Kd.slice 2 (Kd.int .i64)) 28 w' w.heap.size (fun k_ => some k_ ≠ (v244 : Value).ownBlock) u10 x10_3) ∧ Aside0 (Kd.R (Kd.float .f32) 26 w' w.heap.size (fun k_ => some k_ ≠ (u7 : Value).ownBlock) v238 x12_5) ∧ Aside0 (Kd.R Kd.bool 4 w' w.heap.size (fun k_ => some k_ ≠ (u8 : Value).ownBlock) v241 x13_5) ∧ Aside0 (Kd.R (Kd.int .i64) 2 w' w.heap.size (fun _ => True) v244 x14_5) ∧ Aside0 (Below w.heap.size w w'))
 case atStart => exact ⟨(x12_4), (x13_4), (x14_4), (0), (by first|rfl|(simp; done)|(simp [*]; done)), H', ⟨Nat.le_refl _⟩, ⟨by (try simp only [hl8_2]); (with_reducible repeat (first | apply Kd.R_alloc | apply Kd.R_drewN | apply Kd.R_drew)); exact HO_7.out⟩, ⟨by (try simp only [hl8_2]); (with_reducible repeat (first | apply Kd.R_alloc | apply Kd.R_drewN | apply Kd.R_drew)); exact HO_8.out⟩, ⟨by (try simp only [hl8_2]); (with_reducible repeat (first | apply Kd.S_alloc | apply Kd.S_drewN | apply Kd.S_drew)); exact HO_10.out⟩, ⟨by (try simp only [hl8_2]); (with_reducible repeat (first | apply Kd.R_alloc | apply Kd.R_drewN | apply Kd.R_drew)); exact HO_12.out⟩, ⟨by (try simp only [hl8_2]); (with_reducible repeat (first | apply Kd.R_alloc | apply Kd.R_drewN | apply Kd.R_drew)); exact HO_13.out⟩, ⟨by (try simp only [hl8_2]); (with_reducible repeat (first | apply Kd.R_alloc | apply Kd.R_drewN | apply Kd.R_drew)); exact HO_14.out⟩, ⟨by repeat (first | (with_reducible first | exact HB.out | apply below_alloc | apply pw_below_drewN | apply below_drew1) | exact HB.out)⟩⟩
 clear H'
 try clear c1
 try clear c2
 try clear p2
 try clear q2
 try clear hx2
 try clear hf2
 try clear c3
 try clear c5
 try clear p6
 try clear c7
 try clear c9
 try clear c9b0
 try clear c9b1
 try clear c10
 try clear c10b0
 try clear c10b1
 try clear c11
 try clear c11b0
 try clear c11b1
 try clear c17
 try clear c17b0
 try clear c18
 try clear c18b0
 try clear c19
 try clear c19b0
 try clear p20
 try clear q20
 try clear hx20
 try clear hf20
 try clear c24
 try clear p24
 try clear q24
 try clear hx24
 try clear c25
 try clear c25b0
 try clear c27
 try clear c27b0
 try clear c27b1
 try clear c28
 try clear c28b0
 try clear c28b1
 try clear c29
 try clear c29b0
 try clear c29b1
 try clear c30
 try clear c30b0
 try clear c30b1
 try clear c37
 try clear c37b0
 try clear c38
 try clear c38b0
 try clear c39
 try clear c39b0
 try clear hx20_0
 try clear hx249_0
 try clear p2
 try clear p20
 try clear p249
 try clear p6
 try clear q2
 try clear q20
 try clear q249
 obtain ⟨x12_5, x13_5, x14_5, x70_5, rfl, HA, HK5, HO_7, HO_8, HO_10, HO_12, HO_13, HO_14, HB⟩ := hrel
 cases gk with
 | zero => exact absurd HA.out (by simp [spec_BestCuts.l3])
 | succ k5 => ?_
 have H := HA.out
 clear HA
 simp only [spec_BestCuts.l3] at H
 by_cases c40 : x70_5 < ((rd_L4 l0 x48_3).length : Int)
 rotate_left
 ·rw [if_neg c40] at H
  have c40b0 : decide (x70_5 < ((rd_L4 l0 x48_3).length : Int)) = false := decide_eq_false c40
  (try (have c40l0 := c40b0; simp only [hl8_2] at c40l0))
  clear c40
  have H' := Aside0.mk H
  clear H
  go_wp2
  subst hji26
  subst hji8
  go_roundg k5
  case measure => have := HJ2.out; have := HK2.out; have := HK3.out; have := HK4.out; have := HK5.out; omega
  case rel => exact ⟨(x12_5), (x13_5), (x14_5), (wrap64 (x15_4 + 1)), (by first|rfl|(simp; done)|(simp [*]; done)), H', ⟨by have := HJ2.out; have := HK2.out; have := HK3.out; have := HK4.out; have := HK5.out; omega⟩, ⟨by (try simp only [hl8_2]); (with_reducible repeat (first | apply Kd.R_alloc | apply Kd.R_drewN | apply Kd.R_drew)); exact HO_7.out⟩, ⟨by (try simp only [hl8_2]); (with_reducible repeat (first | apply Kd.R_alloc | apply Kd.R_drewN | apply Kd.R_drew)); exact HO_8.out⟩, ⟨by (try simp only [hl8_2]); (with_reducible repeat (first | apply Kd.S_alloc | apply Kd.S_drewN | apply Kd.S_drew)); exact HO_10.out⟩, ⟨by (try simp only [hl8_2]); (with_reducible repeat (first | apply Kd.R_alloc | apply Kd.R_drewN | apply Kd.R_drew)); exact HO_12.out⟩, ⟨by (try simp only [hl8_2]); (with_reducible repeat (first | apply Kd.R_alloc | apply Kd.R_drewN | apply Kd.R_drew)); exact HO_13.out⟩, ⟨by (try simp only [hl8_2]); (with_reducible repeat (first | apply Kd.R_alloc | apply Kd.R_drewN | apply Kd.R_drew)); exact HO_14.out⟩, ⟨by repeat (first | (with_reducible first | exact HB.out | apply below_alloc | apply pw_below_drewN | apply below_drew1) | exact HB.out)⟩⟩
 rw [if_pos c40] at H
 have c40b0 : decide (x70_5 < ((rd_L4 l0 x48_3).length : Int)) = true := decide_eq_true c40
 (try (have c40l0 := c40b0; simp only [hl8_2] at c40l0))
 clear c40
 by_cases c41 : 0 ≤ x48_3
 rotate_left
 ·rw [if_neg c41] at H
  exact absurd H (by simp)
 rw [if_pos c41] at H
 have c41b0 : decide (0 ≤ x48_3) = true := decide_eq_true c41
 clear c41
 by_cases c42 : x48_3 < (l0.length : Int)
 rotate_left
 ·rw [if_neg c42] at H
  exact absurd H (by simp)
 rw [if_pos c42] at H
 have c42b0 : decide (x48_3 < (l0.length : Int)) = true := decide_eq_true c42
 (try (have c42l0 := c42b0; simp only [hl8_2] at c42l0))
 clear c42
 by_cases c43 : 0 ≤ x70_5
 rotate_left
 ·rw [if_neg c43] at H
  exact absurd H (by simp)
 rw [if_pos c43] at H
 have c43b0 : decide (0 ≤ x70_5) = true := decide_eq_true c43
 clear c43
 by_cases c44 : x70_5 < ((rd_L4 l0 x48_3).length : Int)
 rotate_left
 ·rw [if_neg c44] at H
  exact absurd H (by simp)
 rw [if_pos c44] at H
 have c44b0 : decide (x70_5 < ((rd_L4 l0 x48_3).length : Int)) = true := decide_eq_true c44
 (try (have c44l0 := c44b0; simp only [hl8_2] at c44l0))
 clear c44
 have HC45 := Aside0.mk H
 clear H
 have p250 : 0 ≤ (x48_3 : Int) := of_decide_eq_true (by first | (with_reducible assumption) | assumption)
 have q250 : x48_3 < (l0.length : Int) := of_decide_eq_true (by first | (with_reducible assumption) | assumption)
 obtain ⟨ad250, A250_0, c250_0, e250, hx250_0, hl250_0, hi250_0⟩ := at_L4 HR0.out x48_3 p250 q250
 obtain rfl : ad249 = ad250 := (by injection e250)
 replace hx250_0 := (HB.out.cell (World.block_lt_of_cell? w _ hx250_0)).trans hx250_0
 have HR250_0 := Aside0.mk hi250_0
 have HC250_0 := Aside0.mk hl250_0
 clear hi250_0 hl250_0
 replace p250 := eq_true p250
 replace q250 := eq_true q250
 have p251 : 0 ≤ (x70_5 : Int) := of_decide_eq_true (by first | (with_reducible assumption) | assumption)
 have q251 : x70_5 < ((rd_L4 l0 x48_3).length : Int) := of_decide_eq_true (by first | (with_reducible assumption) | assumption)
 obtain ⟨ad251, e251, hx251_0, hx251_1⟩ := at_T34 HR250_0.out x70_5 p251 q251
 cases e251
 replace hx251_0 := (HB.out.cell (World.block_lt_of_cell? w _ hx251_0)).trans hx251_0
 replace hx251_1 := (HB.out.cell (World.block_lt_of_cell? w _ hx251_1)).trans hx251_1
 replace p251 := eq_true p251
 replace q251 := eq_true q251
 go_upto_region 24 with (fail)
 go_cut [91] (fun v91 wc => ∃ (kq : Nat) (x91_44 : Bool), v91 = .bool x91_44 ∧ Aside0 (spec_BestCuts.j5 kq l0 a1 x7_3 x8_3 x10_3 x48_3 x12_5 x13_5 x14_5 x15_4 x70_5 (wrap64 (x15_4 - ((rd_T34 (rd_L4 l0 x48_3) x70_5).f0))) (l0.length : Int) x48_3 ((rd_L4 l0 x48_3).length : Int) x70_5 x91_44 = some (r1, r2, r3)) ∧ Aside0 (kq ≤ k5) ∧ Aside0 (Kd.R (Kd.float .f32) 26 wc w.heap.size (fun k_ => some k_ ≠ (v238 : Value).ownBlock) u7 x7_3) ∧ Aside0 (Kd.R Kd.bool 4 wc w.heap.size (fun k_ => some k_ ≠ (v241 : Value).ownBlock) u8 x8_3) ∧ Aside0 (Kd.S (Kd.slice 2 (Kd.int .i64)) 28 wc w.heap.size (fun k_ => some k_ ≠ (v244 : Value).ownBlock) u10 x10_3) ∧ Aside0 (Kd.R (Kd.float .f32) 26 wc w.heap.size (fun k_ => some k_ ≠ (u7 : Value).ownBlock) v238 x12_5) ∧ Aside0 (Kd.R Kd.bool 4 wc w.heap.size (fun k_ => some k_ ≠ (u8 : Value).ownBlock) v241 x13_5) ∧ Aside0 (Kd.R (Kd.int .i64) 2 wc w.heap.size (fun _ => True) v244 x14_5) ∧ Aside0 (Below w.heap.size w wc))
 case first =>
  have H := HC45.out
  clear HC45
  by_cases c46 : (wrap64 (x15_4 - ((rd_T34 (rd_L4 l0 x48_3) x70_5).f0))) < 0
  ·rw [if_pos c46] at H
   have c46b0 : decide ((wrap64 (x15_4 - ((rd_T34 (rd_L4 l0 x48_3) x70_5).f0))) < 0) = true := decide_eq_true c46
   clear c46
   (first | rw [c46b0] | (simp only [i64_w, i32_w]; rw [c46b0]) | skip)
   have H' := Aside0.mk H
   clear H
   go_wp2
   subst hji26
   subst hji8
   go_meet
   case rel => exact ⟨_, (true), (by first|rfl|(simp; done)|(simp [*]; done)), H', ⟨by have := HJ2.out; have := HK2.out; have := HK3.out; have := HK4.out; have := HK5.out; first | omega | exact Nat.le_refl _⟩, ⟨by (try simp only [hl8_2]); (with_reducible repeat (first | apply Kd.R_alloc | apply Kd.R_drewN | apply Kd.R_drew)); exact HO_7.out⟩, ⟨by (try simp only [hl8_2]); (with_reducible repeat (first | apply Kd.R_alloc | apply Kd.R_drewN | apply Kd.R_drew)); exact HO_8.out⟩, ⟨by (try simp only [hl8_2]); (with_reducible repeat (first | apply Kd.S_alloc | apply Kd.S_drewN | apply Kd.S_drew)); exact HO_10.out⟩, ⟨by (try simp only [hl8_2]); (with_reducible repeat (first | apply Kd.R_alloc | apply Kd.R_drewN | apply Kd.R_drew)); exact HO_12.out⟩, ⟨by (try simp only [hl8_2]); (with_reducible repeat (first | apply Kd.R_alloc | apply Kd.R_drewN | apply Kd.R_drew)); exact HO_13.out⟩, ⟨by (try simp only [hl8_2]); (with_reducible repeat (first | apply Kd.R_alloc | apply Kd.R_drewN | apply Kd.R_drew)); exact HO_14.out⟩, ⟨by repeat (first | (with_reducible first | exact HB.out | apply below_alloc | apply pw_below_drewN | apply below_drew1) | exact HB.out)⟩⟩
  rw [if_neg c46] at H
  have c46b0 : decide ((wrap64 (x15_4 - ((rd_T34 (rd_L4 l0 x48_3) x70_5).f0))) < 0) = false := decide_eq_false c46
  clear c46
  (first | rw [c46b0] | (simp only [i64_w, i32_w]; rw [c46b0]) | skip)
  obtain ⟨ji47, hji47⟩ : ∃ j_ : Int, (wrap64 (x15_4 - ((rd_T34 (rd_L4 l0 x48_3) x70_5).f0))) = j_ := ⟨_, rfl⟩
  replace H : (if 0 ≤ (ji47) then (if (ji47) < (x8_3.length : Int) then (spec_BestCuts.j5 k5 l0 a1 x7_3 x8_3 x10_3 x48_3 x12_5 x13_5 x14_5 x15_4 x70_5 ji47 (l0.length : Int) x48_3 ((rd_L4 l0 x48_3).length : Int) x70_5 (!(rdOf false x8_3 (ji47)))) else (none)) else (none)) = some (r1, r2, r3) := by first | (rw [hji47] at H; exact H) | (simp only [hji47] at H ⊢; exact H)
  (try rw [hji47] at c46b0)
  have hji47w : (IntKind.i64.wrap (x15_4 - ((rd_T34 (rd_L4 l0 x48_3) x70_5).f0))) = ji47 := (i64_w _).trans hji47
  by_cases c48 : 0 ≤ (ji47)
  rotate_left
  ·rw [if_neg c48] at H
   exact absurd H (by simp)
  rw [if_pos c48] at H
  have c48b0 : decide (0 ≤ (ji47)) = true := decide_eq_true c48
  clear c48
  by_cases c49 : (ji47) < (x8_3.length : Int)
  rotate_left
  ·rw [if_neg c49] at H
   exact absurd H (by simp)
  rw [if_pos c49] at H
  have c49b0 : decide ((ji47) < (x8_3.length : Int)) = true := decide_eq_true c49
  (try (have c49l0 := c49b0; simp only [hl8_2] at c49l0))
  clear c49
  have H' := Aside0.mk H
  clear H
  obtain ⟨Ao50, co50, eo50⟩ := Kd.R_slice HO_8.out
  subst eo50
  have p252 : 0 ≤ ((ji47) : Int) := of_decide_eq_true (by first | (with_reducible assumption) | assumption)
  have q252 : (ji47) < (x8_3.length : Int) := of_decide_eq_true (by first | (with_reducible assumption) | assumption)
  obtain ⟨ad252, e252, hx252_0⟩ := Kd.at_bool (Kd.R_reads' HO_8.out).2.2 (ji47) p252 q252
  cases e252
  replace p252 := eq_true p252
  replace q252 := eq_true q252
  go_wp2
  subst hji47
  subst hji26
  subst hji8
  go_meet
  case rel => exact ⟨_, (!(rdOf false x8_3 ((wrap64 (x15_4 - ((rd_T34 (rd_L4 l0 x48_3) x70_5).f0)))))), (by first | rfl | (simp; done) | (simp only [← hji47] <;> (first | rfl | simp)) | (simp [*]; done)), H', ⟨by have := HJ2.out; have := HK2.out; have := HK3.out; have := HK4.out; have := HK5.out; first | omega | exact Nat.le_refl _⟩, ⟨by (try simp only [hl8_2]); (with_reducible repeat (first | apply Kd.R_alloc | apply Kd.R_drewN | apply Kd.R_drew)); exact HO_7.out⟩, ⟨by (try simp only [hl8_2]); (with_reducible repeat (first | apply Kd.R_alloc | apply Kd.R_drewN | apply Kd.R_drew)); exact HO_8.out⟩, ⟨by (try simp only [hl8_2]); (with_reducible repeat (first | apply Kd.S_alloc | apply Kd.S_drewN | apply Kd.S_drew)); exact HO_10.out⟩, ⟨by (try simp only [hl8_2]); (with_reducible repeat (first | apply Kd.R_alloc | apply Kd.R_drewN | apply Kd.R_drew)); exact HO_12.out⟩, ⟨by (try simp only [hl8_2]); (with_reducible repeat (first | apply Kd.R_alloc | apply Kd.R_drewN | apply Kd.R_drew)); exact HO_13.out⟩, ⟨by (try simp only [hl8_2]); (with_reducible repeat (first | apply Kd.R_alloc | apply Kd.R_drewN | apply Kd.R_drew)); exact HO_14.out⟩, ⟨by repeat (first | (with_reducible first | exact HB.out | apply below_alloc | apply pw_below_drewN | apply below_drew1) | exact HB.out)⟩⟩
 clear HC45
 try clear c1
 try clear c2
 try clear p2
 try clear q2
 try clear hx2
 try clear hf2
 try clear c3
 try clear c4
 try clear c5
 try clear p6
 try clear c7
 try clear c9
 try clear c9b0
 try clear c9b1
 try clear c10
 try clear c10b0
 try clear c10b1
 try clear c11
 try clear c11b0
 try clear c11b1
 try clear c17
 try clear c17b0
 try clear c18
 try clear c18b0
 try clear c19
 try clear c19b0
 try clear p20
 try clear q20
 try clear hx20
 try clear hf20
 try clear c24
 try clear p24
 try clear q24
 try clear hx24
 try clear c25
 try clear c25b0
 try clear p25
 try clear q25
 try clear hx25
 try clear c27
 try clear c27b0
 try clear c27b1
 try clear c28
 try clear c28b0
 try clear c28b1
 try clear c29
 try clear c29b0
 try clear c29b1
 try clear c30
 try clear c30b0
 try clear c30b1
 try clear c37
 try clear c37b0
 try clear c38
 try clear c38b0
 try clear c39
 try clear c39b0
 try clear c40
 try clear c40b0
 try clear c41
 try clear c41b0
 try clear c42
 try clear c42b0
 try clear c43
 try clear c43b0
 try clear c44
 try clear c44b0
 try clear c46
 try clear c46b0
 try clear c48
 try clear c48b0
 try clear c49
 try clear c49b0
 try clear hx20_0
 try clear hx249_0
 try clear hx250_0
 try clear hx251_0
 try clear hx251_1
 try clear hx252_0
 try clear p2
 try clear p20
 try clear p24
 try clear p249
 try clear p250
 try clear p251
 try clear p252
 try clear p6
 try clear q2
 try clear q20
 try clear q24
 try clear q249
 try clear q250
 try clear q251
 try clear q252
 obtain ⟨kq, x91_44, rfl, HA, HJ44, HO_7, HO_8, HO_10, HO_12, HO_13, HO_14, HB⟩ := hcut
 cases kq with
 | zero => exact absurd HA.out (by simp [spec_BestCuts.j5])
 | succ kj44 => ?_
 have H := HA.out
 clear HA
 simp only [spec_BestCuts.j5] at H
 by_cases c51 : x91_44 = true
 ·subst c51
  have H1 : (spec_BestCuts.l3 kj44 l0 a1 x7_3 x8_3 x10_3 x48_3 x12_5 x13_5 x14_5 x15_4 (l0.length : Int) x48_3 ((rd_L4 l0 x48_3).length : Int) (wrap64 (x70_5 + 1))) = some (r1, r2, r3) := by rw [if_pos rfl] at H; exact H
  clear H
  have H := H1
  clear H1
  have H' := Aside0.mk H
  clear H
  go_wp2
  subst hji26
  subst hji8
  go_roundg kj44
  case measure => have := HJ2.out; have := HK2.out; have := HK3.out; have := HK4.out; have := HK5.out; have := HJ44.out; omega
  case rel => exact ⟨(x12_5), (x13_5), (x14_5), (wrap64 (x70_5 + 1)), (by first|rfl|(simp; done)|(simp [*]; done)), H', ⟨by have := HJ2.out; have := HK2.out; have := HK3.out; have := HK4.out; have := HK5.out; have := HJ44.out; omega⟩, ⟨by (try simp only [hl8_2]); (with_reducible repeat (first | apply Kd.R_alloc | apply Kd.R_drewN | apply Kd.R_drew)); exact HO_7.out⟩, ⟨by (try simp only [hl8_2]); (with_reducible repeat (first | apply Kd.R_alloc | apply Kd.R_drewN | apply Kd.R_drew)); exact HO_8.out⟩, ⟨by (try simp only [hl8_2]); (with_reducible repeat (first | apply Kd.S_alloc | apply Kd.S_drewN | apply Kd.S_drew)); exact HO_10.out⟩, ⟨by (try simp only [hl8_2]); (with_reducible repeat (first | apply Kd.R_alloc | apply Kd.R_drewN | apply Kd.R_drew)); exact HO_12.out⟩, ⟨by (try simp only [hl8_2]); (with_reducible repeat (first | apply Kd.R_alloc | apply Kd.R_drewN | apply Kd.R_drew)); exact HO_13.out⟩, ⟨by (try simp only [hl8_2]); (with_reducible repeat (first | apply Kd.R_alloc | apply Kd.R_drewN | apply Kd.R_drew)); exact HO_14.out⟩, ⟨by repeat (first | (with_reducible first | exact HB.out | apply below_alloc | apply pw_below_drewN | apply below_drew1) | exact HB.out)⟩⟩
 replace c51 := Bool.eq_false_iff.mpr c51
 subst c51
 have H1 : (if 0 ≤ (wrap64 (x15_4 - ((rd_T34 (rd_L4 l0 x48_3) x70_5).f0))) then (if (wrap64 (x15_4 - ((rd_T34 (rd_L4 l0 x48_3) x70_5).f0))) < (x7_3.length : Int) then (if 0 ≤ x48_3 then (if x48_3 < (l0.length : Int) then (if 0 ≤ x70_5 then (if x70_5 < ((rd_L4 l0 x48_3).length : Int) then ((floatBits .add .f32 (rdOf (0 : Nat) x7_3 (wrap64 (x15_4 - ((rd_T34 (rd_L4 l0 x48_3) x70_5).f0)))) ((rd_T34 (rd_L4 l0 x48_3) x70_5).f1)).bind fun t256 => (if 0 ≤ x15_4 then (if x15_4 < (x13_5.length : Int) then (if rdOf false x13_5 x15_4 = true then (if x15_4 < (x12_5.length : Int) then (spec_BestCuts.j6 kj44 l0 a1 x7_3 x8_3 x10_3 x48_3 x12_5 x13_5 x14_5 x15_4 x70_5 t256 (l0.length : Int) x48_3 ((rd_L4 l0 x48_3).length : Int) x70_5 (flt .f32 t256 (rdOf (0 : Nat) x12_5 x15_4))) else (none)) else (spec_BestCuts.j6 kj44 l0 a1 x7_3 x8_3 x10_3 x48_3 x12_5 x13_5 x14_5 x15_4 x70_5 t256 (l0.length : Int) x48_3 ((rd_L4 l0 x48_3).length : Int) x70_5 true)) else (none)) else (none))) else (none)) else (none)) else (none)) else (none)) else (none)) else (none)) = some (r1, r2, r3) := by rw [if_neg (show ¬ (false = true) by decide)] at H; exact H
 clear H
 have H := H1
 clear H1
 obtain ⟨ji52, hji52⟩ : ∃ j_ : Int, (wrap64 (x15_4 - ((rd_T34 (rd_L4 l0 x48_3) x70_5).f0))) = j_ := ⟨_, rfl⟩
 replace H : (if 0 ≤ (ji52) then (if (ji52) < (x7_3.length : Int) then (if 0 ≤ x48_3 then (if x48_3 < (l0.length : Int) then (if 0 ≤ x70_5 then (if x70_5 < ((rd_L4 l0 x48_3).length : Int) then ((floatBits .add .f32 (rdOf (0 : Nat) x7_3 (ji52)) ((rd_T34 (rd_L4 l0 x48_3) x70_5).f1)).bind fun t256 => (if 0 ≤ x15_4 then (if x15_4 < (x13_5.length : Int) then (if rdOf false x13_5 x15_4 = true then (if x15_4 < (x12_5.length : Int) then (spec_BestCuts.j6 kj44 l0 a1 x7_3 x8_3 x10_3 x48_3 x12_5 x13_5 x14_5 x15_4 x70_5 t256 (l0.length : Int) x48_3 ((rd_L4 l0 x48_3).length : Int) x70_5 (flt .f32 t256 (rdOf (0 : Nat) x12_5 x15_4))) else (none)) else (spec_BestCuts.j6 kj44 l0 a1 x7_3 x8_3 x10_3 x48_3 x12_5 x13_5 x14_5 x15_4 x70_5 t256 (l0.length : Int) x48_3 ((rd_L4 l0 x48_3).length : Int) x70_5 true)) else (none)) else (none))) else (none)) else (none)) else (none)) else (none)) else (none)) else (none)) = some (r1, r2, r3) := by first | (rw [hji52] at H; exact H) | (simp only [hji52] at H ⊢; exact H)
 have hji52w : (IntKind.i64.wrap (x15_4 - ((rd_T34 (rd_L4 l0 x48_3) x70_5).f0))) = ji52 := (i64_w _).trans hji52
 by_cases c53 : 0 ≤ (ji52)
 rotate_left
 ·rw [if_neg c53] at H
  exact absurd H (by simp)
 rw [if_pos c53] at H
 have c53b0 : decide (0 ≤ (ji52)) = true := decide_eq_true c53
 clear c53
 by_cases c54 : (ji52) < (x7_3.length : Int)
 rotate_left
 ·rw [if_neg c54] at H
  exact absurd H (by simp)
 rw [if_pos c54] at H
 have c54b0 : decide ((ji52) < (x7_3.length : Int)) = true := decide_eq_true c54
 (try (have c54l0 := c54b0; simp only [hl8_2] at c54l0))
 clear c54
 by_cases c55 : 0 ≤ x48_3
 rotate_left
 ·rw [if_neg c55] at H
  exact absurd H (by simp)
 rw [if_pos c55] at H
 have c55b0 : decide (0 ≤ x48_3) = true := decide_eq_true c55
 clear c55
 by_cases c56 : x48_3 < (l0.length : Int)
 rotate_left
 ·rw [if_neg c56] at H
  exact absurd H (by simp)
 rw [if_pos c56] at H
 have c56b0 : decide (x48_3 < (l0.length : Int)) = true := decide_eq_true c56
 (try (have c56l0 := c56b0; simp only [hl8_2] at c56l0))
 clear c56
 by_cases c57 : 0 ≤ x70_5
 rotate_left
 ·rw [if_neg c57] at H
  exact absurd H (by simp)
 rw [if_pos c57] at H
 have c57b0 : decide (0 ≤ x70_5) = true := decide_eq_true c57
 clear c57
 by_cases c58 : x70_5 < ((rd_L4 l0 x48_3).length : Int)
 rotate_left
 ·rw [if_neg c58] at H
  exact absurd H (by simp)
 rw [if_pos c58] at H
 have c58b0 : decide (x70_5 < ((rd_L4 l0 x48_3).length : Int)) = true := decide_eq_true c58
 (try (have c58l0 := c58b0; simp only [hl8_2] at c58l0))
 clear c58
 replace H := Option.bind_eq_some_iff.mp H
 obtain ⟨t256, F590, H⟩ := H
 replace H : (if 0 ≤ x15_4 then (if x15_4 < (x13_5.length : Int) then (if rdOf false x13_5 x15_4 = true then (if x15_4 < (x12_5.length : Int) then (spec_BestCuts.j6 kj44 l0 a1 x7_3 x8_3 x10_3 x48_3 x12_5 x13_5 x14_5 x15_4 x70_5 t256 (l0.length : Int) x48_3 ((rd_L4 l0 x48_3).length : Int) x70_5 (flt .f32 t256 (rdOf (0 : Nat) x12_5 x15_4))) else (none)) else (spec_BestCuts.j6 kj44 l0 a1 x7_3 x8_3 x10_3 x48_3 x12_5 x13_5 x14_5 x15_4 x70_5 t256 (l0.length : Int) x48_3 ((rd_L4 l0 x48_3).length : Int) x70_5 true)) else (none)) else (none)) = some (r1, r2, r3) := H
 have F59 := run_float_op (P := Try.prog) F590
 clear F590
 have HC60 := Aside0.mk H
 clear H
 obtain ⟨Ao61, co61, eo61⟩ := Kd.R_slice HO_7.out
 subst eo61
 have p253 : 0 ≤ ((ji52) : Int) := of_decide_eq_true (by first | (with_reducible assumption) | assumption)
 have q253 : (ji52) < (x7_3.length : Int) := of_decide_eq_true (by first | (with_reducible assumption) | assumption)
 obtain ⟨ad253, e253, hx253_0⟩ := Kd.at_float (Kd.R_reads' HO_7.out).2.2 (ji52) p253 q253
 cases e253
 replace p253 := eq_true p253
 replace q253 := eq_true q253
 have p254 : 0 ≤ (x48_3 : Int) := of_decide_eq_true (by first | (with_reducible assumption) | assumption)
 have q254 : x48_3 < (l0.length : Int) := of_decide_eq_true (by first | (with_reducible assumption) | assumption)
 obtain ⟨ad254, A254_0, c254_0, e254, hx254_0, hl254_0, hi254_0⟩ := at_L4 HR0.out x48_3 p254 q254
 obtain rfl : ad249 = ad254 := (by injection e254)
 replace hx254_0 := (HB.out.cell (World.block_lt_of_cell? w _ hx254_0)).trans hx254_0
 have HR254_0 := Aside0.mk hi254_0
 have HC254_0 := Aside0.mk hl254_0
 clear hi254_0 hl254_0
 replace p254 := eq_true p254
 replace q254 := eq_true q254
 have p255 : 0 ≤ (x70_5 : Int) := of_decide_eq_true (by first | (with_reducible assumption) | assumption)
 have q255 : x70_5 < ((rd_L4 l0 x48_3).length : Int) := of_decide_eq_true (by first | (with_reducible assumption) | assumption)
 obtain ⟨ad255, e255, hx255_0, hx255_1⟩ := at_T34 HR254_0.out x70_5 p255 q255
 cases e255
 replace hx255_0 := (HB.out.cell (World.block_lt_of_cell? w _ hx255_0)).trans hx255_0
 replace hx255_1 := (HB.out.cell (World.block_lt_of_cell? w _ hx255_1)).trans hx255_1
 replace p255 := eq_true p255
 replace q255 := eq_true q255
 go_upto_region 26 with (fail)
 repeat (go_quiet (fail); go_upto_region 26 with (fail))
 go_cut [117] (fun v117 wc => ∃ (kq : Nat) (x117_59 : Bool), v117 = .bool x117_59 ∧ Aside0 (spec_BestCuts.j6 kq l0 a1 x7_3 x8_3 x10_3 x48_3 x12_5 x13_5 x14_5 x15_4 x70_5 t256 (l0.length : Int) x48_3 ((rd_L4 l0 x48_3).length : Int) x70_5 x117_59 = some (r1, r2, r3)) ∧ Aside0 (kq ≤ kj44) ∧ Aside0 (Kd.R (Kd.float .f32) 26 wc w.heap.size (fun k_ => some k_ ≠ (v238 : Value).ownBlock) (.slice (some ad253) x7_3.length co61) x7_3) ∧ Aside0 (Kd.R Kd.bool 4 wc w.heap.size (fun k_ => some k_ ≠ (v241 : Value).ownBlock) u8 x8_3) ∧ Aside0 (Kd.S (Kd.slice 2 (Kd.int .i64)) 28 wc w.heap.size (fun k_ => some k_ ≠ (v244 : Value).ownBlock) u10 x10_3) ∧ Aside0 (Kd.R (Kd.float .f32) 26 wc w.heap.size (fun k_ => some k_ ≠ ((.slice (some ad253) x7_3.length co61) : Value).ownBlock) v238 x12_5) ∧ Aside0 (Kd.R Kd.bool 4 wc w.heap.size (fun k_ => some k_ ≠ (u8 : Value).ownBlock) v241 x13_5) ∧ Aside0 (Kd.R (Kd.int .i64) 2 wc w.heap.size (fun _ => True) v244 x14_5) ∧ Aside0 (Below w.heap.size w wc))
 case first =>
  have H := HC60.out
  clear HC60
  by_cases c62 : 0 ≤ x15_4
  rotate_left
  ·rw [if_neg c62] at H
   exact absurd H (by simp)
  rw [if_pos c62] at H
  have c62b0 : decide (0 ≤ x15_4) = true := decide_eq_true c62
  clear c62
  (first | rw [c62b0] | (simp only [i64_w, i32_w]; rw [c62b0]) | skip)
  by_cases c63 : x15_4 < (x13_5.length : Int)
  rotate_left
  ·rw [if_neg c63] at H
   exact absurd H (by simp)
  rw [if_pos c63] at H
  have c63b0 : decide (x15_4 < (x13_5.length : Int)) = true := decide_eq_true c63
  (try (have c63l0 := c63b0; simp only [hl8_2] at c63l0))
  clear c63
  obtain ⟨bq64, hbq64⟩ : ∃ b_ : Bool, b_ = (rdOf false x13_5 x15_4) := ⟨_, rfl⟩
  replace H : (if bq64 = true then (if x15_4 < (x12_5.length : Int) then (spec_BestCuts.j6 kj44 l0 a1 x7_3 x8_3 x10_3 x48_3 x12_5 x13_5 x14_5 x15_4 x70_5 t256 (l0.length : Int) x48_3 ((rd_L4 l0 x48_3).length : Int) x70_5 (flt .f32 t256 (rdOf (0 : Nat) x12_5 x15_4))) else (none)) else (spec_BestCuts.j6 kj44 l0 a1 x7_3 x8_3 x10_3 x48_3 x12_5 x13_5 x14_5 x15_4 x70_5 t256 (l0.length : Int) x48_3 ((rd_L4 l0 x48_3).length : Int) x70_5 true)) = some (r1, r2, r3) := by rw [← hbq64] at H; exact H
  have Nbq64 := Aside0.mk hbq64
  clear hbq64
  by_cases c65 : bq64 = true
  rotate_left
  ·replace c65 := Bool.eq_false_iff.mpr c65
   subst c65
   have H1 : (spec_BestCuts.j6 kj44 l0 a1 x7_3 x8_3 x10_3 x48_3 x12_5 x13_5 x14_5 x15_4 x70_5 t256 (l0.length : Int) x48_3 ((rd_L4 l0 x48_3).length : Int) x70_5 true) = some (r1, r2, r3) := by rw [if_neg (show ¬ (false = true) by decide)] at H; exact H
   clear H
   have H := H1
   clear H1
   have H' := Aside0.mk H
   clear H
   obtain ⟨Ao69, co69, eo69⟩ := Kd.R_slice HO_13.out
   subst eo69
   have p257 : 0 ≤ (x15_4 : Int) := of_decide_eq_true (by first | (with_reducible assumption) | assumption)
   have q257 : x15_4 < (x13_5.length : Int) := of_decide_eq_true (by first | (with_reducible assumption) | assumption)
   obtain ⟨ad257, e257, hx257_0⟩ := Kd.at_bool (Kd.R_reads' HO_13.out).2.2 x15_4 p257 q257
   (try rw [← Nbq64.out] at hx257_0)
   cases e257
   replace p257 := eq_true p257
   replace q257 := eq_true q257
   go_wp2
   subst hji52
   subst hji26
   subst hji8
   go_meet
   case rel => exact ⟨_, (true), (by first|rfl|(simp; done)|(simp [*]; done)), H', ⟨by have := HJ2.out; have := HK2.out; have := HK3.out; have := HK4.out; have := HK5.out; have := HJ44.out; first | omega | exact Nat.le_refl _⟩, ⟨by (try simp only [hl8_2]); (with_reducible repeat (first | apply Kd.R_alloc | apply Kd.R_drewN | apply Kd.R_drew)); exact HO_7.out⟩, ⟨by (try simp only [hl8_2]); (with_reducible repeat (first | apply Kd.R_alloc | apply Kd.R_drewN | apply Kd.R_drew)); exact HO_8.out⟩, ⟨by (try simp only [hl8_2]); (with_reducible repeat (first | apply Kd.S_alloc | apply Kd.S_drewN | apply Kd.S_drew)); exact HO_10.out⟩, ⟨by (try simp only [hl8_2]); (with_reducible repeat (first | apply Kd.R_alloc | apply Kd.R_drewN | apply Kd.R_drew)); exact HO_12.out⟩, ⟨by (try simp only [hl8_2]); (with_reducible repeat (first | apply Kd.R_alloc | apply Kd.R_drewN | apply Kd.R_drew)); exact HO_13.out⟩, ⟨by (try simp only [hl8_2]); (with_reducible repeat (first | apply Kd.R_alloc | apply Kd.R_drewN | apply Kd.R_drew)); exact HO_14.out⟩, ⟨by repeat (first | (with_reducible first | exact HB.out | apply below_alloc | apply pw_below_drewN | apply below_drew1) | exact HB.out)⟩⟩
  subst c65
  have H1 : (if x15_4 < (x12_5.length : Int) then (spec_BestCuts.j6 kj44 l0 a1 x7_3 x8_3 x10_3 x48_3 x12_5 x13_5 x14_5 x15_4 x70_5 t256 (l0.length : Int) x48_3 ((rd_L4 l0 x48_3).length : Int) x70_5 (flt .f32 t256 (rdOf (0 : Nat) x12_5 x15_4))) else (none)) = some (r1, r2, r3) := by rw [if_pos rfl] at H; exact H
  clear H
  have H := H1
  clear H1
  by_cases c66 : x15_4 < (x12_5.length : Int)
  rotate_left
  ·rw [if_neg c66] at H
   exact absurd H (by simp)
  rw [if_pos c66] at H
  have c66b0 : decide (x15_4 < (x12_5.length : Int)) = true := decide_eq_true c66
  (try (have c66l0 := c66b0; simp only [hl8_2] at c66l0))
  clear c66
  have H' := Aside0.mk H
  clear H
  obtain ⟨Ao67, co67, eo67⟩ := Kd.R_slice HO_13.out
  subst eo67
  have p257 : 0 ≤ (x15_4 : Int) := of_decide_eq_true (by first | (with_reducible assumption) | assumption)
  have q257 : x15_4 < (x13_5.length : Int) := of_decide_eq_true (by first | (with_reducible assumption) | assumption)
  obtain ⟨ad257, e257, hx257_0⟩ := Kd.at_bool (Kd.R_reads' HO_13.out).2.2 x15_4 p257 q257
  (try rw [← Nbq64.out] at hx257_0)
  cases e257
  replace p257 := eq_true p257
  replace q257 := eq_true q257
  obtain ⟨Ao68, co68, eo68⟩ := Kd.R_slice HO_12.out
  subst eo68
  have p258 : 0 ≤ (x15_4 : Int) := of_decide_eq_true (by first | (with_reducible assumption) | assumption)
  have q258 : x15_4 < (x12_5.length : Int) := of_decide_eq_true (by first | (with_reducible assumption) | assumption)
  obtain ⟨ad258, e258, hx258_0⟩ := Kd.at_float (Kd.R_reads' HO_12.out).2.2 x15_4 p258 q258
  cases e258
  replace p258 := eq_true p258
  replace q258 := eq_true q258
  go_wp2
  subst hji52
  subst hji26
  subst hji8
  go_meet
  case rel => exact ⟨_, ((flt .f32 t256 (rdOf (0 : Nat) x12_5 x15_4))), (by first|rfl|(simp; done)|(simp [*]; done)), H', ⟨by have := HJ2.out; have := HK2.out; have := HK3.out; have := HK4.out; have := HK5.out; have := HJ44.out; first | omega | exact Nat.le_refl _⟩, ⟨by (try simp only [hl8_2]); (with_reducible repeat (first | apply Kd.R_alloc | apply Kd.R_drewN | apply Kd.R_drew)); exact HO_7.out⟩, ⟨by (try simp only [hl8_2]); (with_reducible repeat (first | apply Kd.R_alloc | apply Kd.R_drewN | apply Kd.R_drew)); exact HO_8.out⟩, ⟨by (try simp only [hl8_2]); (with_reducible repeat (first | apply Kd.S_alloc | apply Kd.S_drewN | apply Kd.S_drew)); exact HO_10.out⟩, ⟨by (try simp only [hl8_2]); (with_reducible repeat (first | apply Kd.R_alloc | apply Kd.R_drewN | apply Kd.R_drew)); exact HO_12.out⟩, ⟨by (try simp only [hl8_2]); (with_reducible repeat (first | apply Kd.R_alloc | apply Kd.R_drewN | apply Kd.R_drew)); exact HO_13.out⟩, ⟨by (try simp only [hl8_2]); (with_reducible repeat (first | apply Kd.R_alloc | apply Kd.R_drewN | apply Kd.R_drew)); exact HO_14.out⟩, ⟨by repeat (first | (with_reducible first | exact HB.out | apply below_alloc | apply pw_below_drewN | apply below_drew1) | exact HB.out)⟩⟩
 clear HC60
 try clear c1
 try clear c2
 try clear p2
 try clear q2
 try clear hx2
 try clear hf2
 try clear c3
 try clear c4
 try clear c5
 try clear c6
 try clear p6
 try clear q6
 try clear c7
 try clear c9
 try clear c9b0
 try clear c9b1
 try clear c10
 try clear c10b0
 try clear c10b1
 try clear c11
 try clear c11b0
 try clear c11b1
 try clear c17
 try clear c17b0
 try clear c18
 try clear c18b0
 try clear c19
 try clear c19b0
 try clear p20
 try clear q20
 try clear hx20
 try clear hf20
 try clear c24
 try clear p24
 try clear q24
 try clear hx24
 try clear c25
 try clear c25b0
 try clear p25
 try clear q25
 try clear hx25
 try clear c27
 try clear c27b0
 try clear c27b1
 try clear c28
 try clear c28b0
 try clear c28b1
 try clear c29
 try clear c29b0
 try clear c29b1
 try clear c30
 try clear c30b0
 try clear c30b1
 try clear c37
 try clear c37b0
 try clear c38
 try clear c38b0
 try clear c39
 try clear c39b0
 try clear c40
 try clear c40b0
 try clear c41
 try clear c41b0
 try clear c42
 try clear c42b0
 try clear c43
 try clear c43b0
 try clear c44
 try clear c44b0
 try clear c46
 try clear c46b0
 try clear c48
 try clear c48b0
 try clear c49
 try clear c49b0
 try clear c51
 try clear c53
 try clear c53b0
 try clear c54
 try clear c54b0
 try clear c55
 try clear c55b0
 try clear c56
 try clear c56b0
 try clear c57
 try clear c57b0
 try clear c58
 try clear c58b0
 try clear c62
 try clear c62b0
 try clear c63
 try clear c63b0
 try clear p64
 try clear q64
 try clear c65
 try clear c66
 try clear c66b0
 try clear hx20_0
 try clear hx249_0
 try clear hx250_0
 try clear hx251_0
 try clear hx251_1
 try clear hx252_0
 try clear hx253_0
 try clear hx254_0
 try clear hx255_0
 try clear hx255_1
 try clear hx257_0
 try clear hx258_0
 try clear p2
 try clear p20
 try clear p24
 try clear p249
 try clear p25
 try clear p250
 try clear p251
 try clear p252
 try clear p253
 try clear p254
 try clear p255
 try clear p257
 try clear p258
 try clear p6
 try clear q2
 try clear q20
 try clear q24
 try clear q249
 try clear q25
 try clear q250
 try clear q251
 try clear q252
 try clear q253
 try clear q254
 try clear q255
 try clear q257
 try clear q258
 obtain ⟨kq, x117_59, rfl, HA, HJ59, HO_7, HO_8, HO_10, HO_12, HO_13, HO_14, HB⟩ := hcut
 cases kq with
 | zero => exact absurd HA.out (by simp [spec_BestCuts.j6])
 | succ kj59 => ?_
 have H := HA.out
 clear HA
 simp only [spec_BestCuts.j6] at H
 by_cases c70 : x117_59 = true
 rotate_left
 ·replace c70 := Bool.eq_false_iff.mpr c70
  subst c70
  have H1 : (spec_BestCuts.l3 kj59 l0 a1 x7_3 x8_3 x10_3 x48_3 x12_5 x13_5 x14_5 x15_4 (l0.length : Int) x48_3 ((rd_L4 l0 x48_3).length : Int) (wrap64 (x70_5 + 1))) = some (r1, r2, r3) := by rw [if_neg (show ¬ (false = true) by decide)] at H; exact H
  clear H
  have H := H1
  clear H1
  have H' := Aside0.mk H
  clear H
  go_wp2
  subst hji52
  subst hji26
  subst hji8
  go_roundg kj59
  case measure => have := HJ2.out; have := HK2.out; have := HK3.out; have := HK4.out; have := HK5.out; have := HJ44.out; have := HJ59.out; omega
  case rel => exact ⟨(x12_5), (x13_5), (x14_5), (wrap64 (x70_5 + 1)), (by first|rfl|(simp; done)|(simp [*]; done)), H', ⟨by have := HJ2.out; have := HK2.out; have := HK3.out; have := HK4.out; have := HK5.out; have := HJ44.out; have := HJ59.out; omega⟩, ⟨by (try simp only [hl8_2]); (with_reducible repeat (first | apply Kd.R_alloc | apply Kd.R_drewN | apply Kd.R_drew)); exact HO_7.out⟩, ⟨by (try simp only [hl8_2]); (with_reducible repeat (first | apply Kd.R_alloc | apply Kd.R_drewN | apply Kd.R_drew)); exact HO_8.out⟩, ⟨by (try simp only [hl8_2]); (with_reducible repeat (first | apply Kd.S_alloc | apply Kd.S_drewN | apply Kd.S_drew)); exact HO_10.out⟩, ⟨by (try simp only [hl8_2]); (with_reducible repeat (first | apply Kd.R_alloc | apply Kd.R_drewN | apply Kd.R_drew)); exact HO_12.out⟩, ⟨by (try simp only [hl8_2]); (with_reducible repeat (first | apply Kd.R_alloc | apply Kd.R_drewN | apply Kd.R_drew)); exact HO_13.out⟩, ⟨by (try simp only [hl8_2]); (with_reducible repeat (first | apply Kd.R_alloc | apply Kd.R_drewN | apply Kd.R_drew)); exact HO_14.out⟩, ⟨by repeat (first | (with_reducible first | exact HB.out | apply below_alloc | apply pw_below_drewN | apply below_drew1) | exact HB.out)⟩⟩
 subst c70
 have H1 : (if 0 ≤ x15_4 then (if x15_4 < (x13_5.length : Int) then (if x15_4 < (x12_5.length : Int) then (if x15_4 < (x14_5.length : Int) then (spec_BestCuts.l3 kj59 l0 a1 x7_3 x8_3 x10_3 x48_3 (x12_5.set (x15_4 : Int).toNat t256) (x13_5.set (x15_4 : Int).toNat true) (x14_5.set (x15_4 : Int).toNat x70_5) x15_4 (l0.length : Int) x48_3 ((rd_L4 l0 x48_3).length : Int) (wrap64 (x70_5 + 1))) else (none)) else (none)) else (none)) else (none)) = some (r1, r2, r3) := by rw [if_pos rfl] at H; exact H
 clear H
 have H := H1
 clear H1
 by_cases c71 : 0 ≤ x15_4
 rotate_left
 ·rw [if_neg c71] at H
  exact absurd H (by simp)
 rw [if_pos c71] at H
 have c71b0 : decide (0 ≤ x15_4) = true := decide_eq_true c71
 clear c71
 by_cases c72 : x15_4 < (x13_5.length : Int)
 rotate_left
 ·rw [if_neg c72] at H
  exact absurd H (by simp)
 rw [if_pos c72] at H
 have c72b0 : decide (x15_4 < (x13_5.length : Int)) = true := decide_eq_true c72
 (try (have c72l0 := c72b0; simp only [hl8_2] at c72l0))
 clear c72
 obtain ⟨y259, hy259⟩ : ∃ y_ : List Bool, y_ = (x13_5.set (x15_4 : Int).toNat true) := ⟨_, rfl⟩
 replace H : (if x15_4 < (x12_5.length : Int) then (if x15_4 < (x14_5.length : Int) then (spec_BestCuts.l3 kj59 l0 a1 x7_3 x8_3 x10_3 x48_3 (x12_5.set (x15_4 : Int).toNat t256) y259 (x14_5.set (x15_4 : Int).toNat x70_5) x15_4 (l0.length : Int) x48_3 ((rd_L4 l0 x48_3).length : Int) (wrap64 (x70_5 + 1))) else (none)) else (none)) = some (r1, r2, r3) := by first | (rw [hy259]; with_reducible exact H) | (have H2_ := (Option.bind_some _ _).symm.trans H; rw [hy259]; with_reducible exact H2_) | (have H2_ := (Option.bind_some _ _).symm.trans H; with_reducible exact H2_) | with_reducible exact H | (rw [hy259]; exact H) | exact H
 have Ny259 := Aside0.mk hy259
 clear hy259
 by_cases c74 : x15_4 < (x12_5.length : Int)
 rotate_left
 ·rw [if_neg c74] at H
  exact absurd H (by simp)
 rw [if_pos c74] at H
 have c74b0 : decide (x15_4 < (x12_5.length : Int)) = true := decide_eq_true c74
 (try (have c74l0 := c74b0; simp only [hl8_2] at c74l0))
 clear c74
 obtain ⟨y260, hy260⟩ : ∃ y_ : List Nat, y_ = (x12_5.set (x15_4 : Int).toNat t256) := ⟨_, rfl⟩
 replace H : (if x15_4 < (x14_5.length : Int) then (spec_BestCuts.l3 kj59 l0 a1 x7_3 x8_3 x10_3 x48_3 y260 y259 (x14_5.set (x15_4 : Int).toNat x70_5) x15_4 (l0.length : Int) x48_3 ((rd_L4 l0 x48_3).length : Int) (wrap64 (x70_5 + 1))) else (none)) = some (r1, r2, r3) := by first | (rw [hy260]; with_reducible exact H) | (have H2_ := (Option.bind_some _ _).symm.trans H; rw [hy260]; with_reducible exact H2_) | (have H2_ := (Option.bind_some _ _).symm.trans H; with_reducible exact H2_) | with_reducible exact H | (rw [hy260]; exact H) | exact H
 have Ny260 := Aside0.mk hy260
 clear hy260
 by_cases c76 : x15_4 < (x14_5.length : Int)
 rotate_left
 ·rw [if_neg c76] at H
  exact absurd H (by simp)
 rw [if_pos c76] at H
 have c76b0 : decide (x15_4 < (x14_5.length : Int)) = true := decide_eq_true c76
 (try (have c76l0 := c76b0; simp only [hl8_2] at c76l0))
 clear c76
 obtain ⟨y261, hy261⟩ : ∃ y_ : List Int, y_ = (x14_5.set (x15_4 : Int).toNat x70_5) := ⟨_, rfl⟩
 replace H : (spec_BestCuts.l3 kj59 l0 a1 x7_3 x8_3 x10_3 x48_3 y260 y259 y261 x15_4 (l0.length : Int) x48_3 ((rd_L4 l0 x48_3).length : Int) (wrap64 (x70_5 + 1))) = some (r1, r2, r3) := by first | (rw [hy261]; with_reducible exact H) | (have H2_ := (Option.bind_some _ _).symm.trans H; rw [hy261]; with_reducible exact H2_) | (have H2_ := (Option.bind_some _ _).symm.trans H; with_reducible exact H2_) | with_reducible exact H | (rw [hy261]; exact H) | exact H
 have Ny261 := Aside0.mk hy261
 clear hy261
 have H' := Aside0.mk H
 clear H
 have p73 : 0 ≤ (x15_4 : Int) := of_decide_eq_true (by first | (with_reducible assumption) | assumption)
 have q73 : (x15_4 : Int) < ((x13_5.length : Int) : Int) := of_decide_eq_true (by first | (with_reducible assumption) | assumption)
 obtain ⟨go73, co73, eo73, gb73, gl73, cl73, HG73⟩ := Kd.R_form HO_13.out (by omega)
 (first | cases eo73 | (injection eo73 with ea_ en_ ec_; (first | subst ea_ | (injection ea_ with ea_; subst ea_)); subst ec_; clear en_))
 have GB73 := Aside0.mk gb73
 have GG73 := Aside0.mk HG73
 clear gb73 gl73 HG73
 obtain ⟨hx73_0, hf73_0⟩ := Kd.R_celln false HO_13.out (x15_4 : Int) p73 q73
 replace p73 := eq_true p73
 replace q73 := eq_true q73
 have HP78 := Kd.R_putg HO_13.out (x15_4 : Int) true
 go_wp2_with (first | ((with_reducible refine gate_store (t := 4) (p := 120) rfl ?_); (try (rw [drewN_self wc]; generalize hq_ : World.drewN wc _ = wc; have n0_ := Aside0.mk (Kd.R_at hq_ HO_7.out); have n1_ := Aside0.mk (Kd.R_at hq_ HO_8.out); have n2_ := Aside0.mk (Kd.S_at hq_ HO_10.out); have n3_ := Aside0.mk (Kd.R_at hq_ HO_12.out); have n4_ := Aside0.mk (Kd.R_at hq_ HO_13.out); have n5_ := Aside0.mk (Kd.R_at hq_ HO_14.out); have n6_ := Aside0.mk (below_at hq_ HB.out); clear hq_ HO_7 HO_8 HO_10 HO_12 HO_13 HO_14 HB; have HO_7 := n0_; have HO_8 := n1_; have HO_10 := n2_; have HO_12 := n3_; have HO_13 := n4_; have HO_14 := n5_; have HB := n6_; clear n0_ n1_ n2_ n3_ n4_ n5_ n6_; (try (have HP78 := Kd.R_putg HO_13.out (x15_4 : Int) true)))); refine store_event (t := 4) (p := 120) (v := ?vo_w79) (w1 := (wc.setCell ⟨go73, (x15_4 : Int).toNat, none⟩ (.bool true))) ?hg ?ho ?hn ?hr ?_; (case ho => rfl); (case hg => rfl); (case hn => rfl); (case hr => first | (go_simp; done) | (go_simp; rfl)); intro w79 hw; have hg : wc.grownBy w79 (some go73) := (by rw [hw]; exact HP78.2); have hp_ : Kd.R Kd.bool 4 w79 w.heap.size (fun k_ => some k_ ≠ (u8 : Value).ownBlock) (.slice (some ⟨go73, 0, none⟩) x13_5.length co73) y259 := (by rw [hw, Ny259.out]; exact HP78.1); clear HP78; have n0_ := Aside0.mk (Kd.R_over' (v := (.slice (some ⟨go73, 0, none⟩) x13_5.length co73)) (by (with_reducible repeat (first | apply Kd.R_alloc | apply Kd.R_drewN | apply Kd.R_drew)); exact HO_7.out) (Kd.R_typed HO_13.out) (by decide) hg); have n1_ := Aside0.mk (Kd.R_after (v := (.slice (some ⟨go73, 0, none⟩) x13_5.length co73)) (v1 := (.slice (some ⟨go73, 0, none⟩) x13_5.length co73)) (ok := (fun _ => True)) (by (with_reducible repeat (first | apply Kd.R_alloc | apply Kd.R_drewN | apply Kd.R_drew)); exact Kd.R_mono HO_8.out (fun _ hk => ⟨trivial, hk⟩)) hg (.inl rfl)); have n2_ := Aside0.mk (Kd.S_over' (v := (.slice (some ⟨go73, 0, none⟩) x13_5.length co73)) (by (with_reducible repeat (first | apply Kd.S_alloc | apply Kd.S_drewN | apply Kd.S_drew)); exact HO_10.out) (Kd.R_typed HO_13.out) (by decide) hg); have n3_ := Aside0.mk (Kd.R_over' (v := (.slice (some ⟨go73, 0, none⟩) x13_5.length co73)) (by (with_reducible repeat (first | apply Kd.R_alloc | apply Kd.R_drewN | apply Kd.R_drew)); exact HO_12.out) (Kd.R_typed HO_13.out) (by decide) hg); have n4_ := Aside0.mk (hp_); have n5_ := Aside0.mk (Kd.R_over' (v := (.slice (some ⟨go73, 0, none⟩) x13_5.length co73)) (by (with_reducible repeat (first | apply Kd.R_alloc | apply Kd.R_drewN | apply Kd.R_drew)); exact HO_14.out) (Kd.R_typed HO_13.out) (by decide) hg); have n6_ := Aside0.mk ((by rw [hw]; exact below_set (HB.out) GB73.out : Below w.heap.size w w79)); clear HO_7; clear HO_8; clear HO_10; clear HO_12; clear HO_13; clear HO_14; clear HB; have HO_7 := n0_; have HO_8 := n1_; have HO_10 := n2_; have HO_12 := n3_; have HO_13 := n4_; have HO_14 := n5_; have HB := n6_; clear n0_ n1_ n2_ n3_ n4_ n5_ n6_; clear hg hw hp_; have p75 : 0 ≤ (x15_4 : Int) := of_decide_eq_true (by first | (with_reducible assumption) | assumption); have q75 : (x15_4 : Int) < ((x12_5.length : Int) : Int) := of_decide_eq_true (by first | (with_reducible assumption) | assumption); obtain ⟨go75, co75, eo75, gb75, gl75, cl75, HG75⟩ := Kd.R_form HO_12.out (by omega); (first | cases eo75 | (injection eo75 with ea_ en_ ec_; (first | subst ea_ | (injection ea_ with ea_; subst ea_)); subst ec_; clear en_)); have GB75 := Aside0.mk gb75; have GG75 := Aside0.mk HG75; clear gb75 gl75 HG75; obtain ⟨hx75_0, hf75_0⟩ := Kd.R_celln (0 : Nat) HO_12.out (x15_4 : Int) p75 q75; replace p75 := eq_true p75; replace q75 := eq_true q75; obtain ⟨hy80_, hz80_⟩ := Kd.R_celln (0 : Nat) HO_12.out (x15_4 : Int) (of_decide_eq_true (by first | (with_reducible assumption) | assumption)) (of_decide_eq_true (by first | (with_reducible assumption) | assumption)); have HP80 := Kd.R_putg HO_12.out (x15_4 : Int) t256) | ((with_reducible refine gate_store (t := 26) (p := 124) rfl ?_); (try (rw [drewN_self w79]; generalize hq_ : World.drewN w79 _ = w79; have n0_ := Aside0.mk (Kd.R_at hq_ HO_7.out); have n1_ := Aside0.mk (Kd.R_at hq_ HO_8.out); have n2_ := Aside0.mk (Kd.S_at hq_ HO_10.out); have n3_ := Aside0.mk (Kd.R_at hq_ HO_12.out); have n4_ := Aside0.mk (Kd.R_at hq_ HO_13.out); have n5_ := Aside0.mk (Kd.R_at hq_ HO_14.out); have n6_ := Aside0.mk (below_at hq_ HB.out); clear hq_ HO_7 HO_8 HO_10 HO_12 HO_13 HO_14 HB; have HO_7 := n0_; have HO_8 := n1_; have HO_10 := n2_; have HO_12 := n3_; have HO_13 := n4_; have HO_14 := n5_; have HB := n6_; clear n0_ n1_ n2_ n3_ n4_ n5_ n6_; (try (obtain ⟨hy80_, hz80_⟩ := Kd.R_celln (0 : Nat) HO_12.out (x15_4 : Int) (of_decide_eq_true (by first | (with_reducible assumption) | assumption)) (of_decide_eq_true (by first | (with_reducible assumption) | assumption)))); (try (have HP80 := Kd.R_putg HO_12.out (x15_4 : Int) t256)))); refine store_event (t := 26) (p := 124) (v := ?vo_w81) (w1 := (w79.setCell ⟨go75, (x15_4 : Int).toNat, none⟩ (.float .f32 t256))) ?hg ?ho ?hn ?hr ?_; (case ho => rfl); (case hg => rfl); (case hn => rfl); (case hr => first | (go_simp; done) | (go_simp; rfl)); intro w81 hw; have hg : w79.grownBy w81 (some go75) := (by rw [hw]; exact HP80.2); have hp_ : Kd.R (Kd.float .f32) 26 w81 w.heap.size (fun k_ => some k_ ≠ (.slice (some ad253) x7_3.length co61 : Value).ownBlock) (.slice (some ⟨go75, 0, none⟩) x12_5.length co75) y260 := (by rw [hw, Ny260.out]; exact HP80.1); clear HP80; have n0_ := Aside0.mk (Kd.R_after (v := (.slice (some ⟨go75, 0, none⟩) x12_5.length co75)) (v1 := (.slice (some ⟨go75, 0, none⟩) x12_5.length co75)) (ok := (fun _ => True)) (by (with_reducible repeat (first | apply Kd.R_alloc | apply Kd.R_drewN | apply Kd.R_drew)); exact Kd.R_mono HO_7.out (fun _ hk => ⟨trivial, hk⟩)) hg (.inl rfl)); have n1_ := Aside0.mk (Kd.R_over' (v := (.slice (some ⟨go75, 0, none⟩) x12_5.length co75)) (by (with_reducible repeat (first | apply Kd.R_alloc | apply Kd.R_drewN | apply Kd.R_drew)); exact HO_8.out) (Kd.R_typed HO_12.out) (by decide) hg); have n2_ := Aside0.mk (Kd.S_over' (v := (.slice (some ⟨go75, 0, none⟩) x12_5.length co75)) (by (with_reducible repeat (first | apply Kd.S_alloc | apply Kd.S_drewN | apply Kd.S_drew)); exact HO_10.out) (Kd.R_typed HO_12.out) (by decide) hg); have n3_ := Aside0.mk (hp_); have n4_ := Aside0.mk (Kd.R_over' (v := (.slice (some ⟨go75, 0, none⟩) x12_5.length co75)) (by (with_reducible repeat (first | apply Kd.R_alloc | apply Kd.R_drewN | apply Kd.R_drew)); exact HO_13.out) (Kd.R_typed HO_12.out) (by decide) hg); have n5_ := Aside0.mk (Kd.R_over' (v := (.slice (some ⟨go75, 0, none⟩) x12_5.length co75)) (by (with_reducible repeat (first | apply Kd.R_alloc | apply Kd.R_drewN | apply Kd.R_drew)); exact HO_14.out) (Kd.R_typed HO_12.out) (by decide) hg); have n6_ := Aside0.mk ((by rw [hw]; exact below_set (HB.out) GB75.out : Below w.heap.size w w81)); clear HO_7; clear HO_8; clear HO_10; clear HO_12; clear HO_13; clear HO_14; clear HB; have HO_7 := n0_; have HO_8 := n1_; have HO_10 := n2_; have HO_12 := n3_; have HO_13 := n4_; have HO_14 := n5_; have HB := n6_; clear n0_ n1_ n2_ n3_ n4_ n5_ n6_; clear hg hw hp_; have p77 : 0 ≤ (x15_4 : Int) := of_decide_eq_true (by first | (with_reducible assumption) | assumption); have q77 : (x15_4 : Int) < ((x14_5.length : Int) : Int) := of_decide_eq_true (by first | (with_reducible assumption) | assumption); obtain ⟨go77, co77, eo77, gb77, gl77, cl77, HG77⟩ := Kd.R_form HO_14.out (by omega); (first | cases eo77 | (injection eo77 with ea_ en_ ec_; (first | subst ea_ | (injection ea_ with ea_; subst ea_)); subst ec_; clear en_)); have GB77 := Aside0.mk gb77; have GG77 := Aside0.mk HG77; clear gb77 gl77 HG77; obtain ⟨hx77_0, hf77_0⟩ := Kd.R_celln 0 HO_14.out (x15_4 : Int) p77 q77; replace p77 := eq_true p77; replace q77 := eq_true q77; obtain ⟨hy82_, hz82_⟩ := Kd.R_celln 0 HO_14.out (x15_4 : Int) (of_decide_eq_true (by first | (with_reducible assumption) | assumption)) (of_decide_eq_true (by first | (with_reducible assumption) | assumption)); have HP82 := Kd.R_putg HO_14.out (x15_4 : Int) x70_5) | ((with_reducible refine gate_store (t := 2) (p := 128) rfl ?_); (try (rw [drewN_self w81]; generalize hq_ : World.drewN w81 _ = w81; have n0_ := Aside0.mk (Kd.R_at hq_ HO_7.out); have n1_ := Aside0.mk (Kd.R_at hq_ HO_8.out); have n2_ := Aside0.mk (Kd.S_at hq_ HO_10.out); have n3_ := Aside0.mk (Kd.R_at hq_ HO_12.out); have n4_ := Aside0.mk (Kd.R_at hq_ HO_13.out); have n5_ := Aside0.mk (Kd.R_at hq_ HO_14.out); have n6_ := Aside0.mk (below_at hq_ HB.out); clear hq_ HO_7 HO_8 HO_10 HO_12 HO_13 HO_14 HB; have HO_7 := n0_; have HO_8 := n1_; have HO_10 := n2_; have HO_12 := n3_; have HO_13 := n4_; have HO_14 := n5_; have HB := n6_; clear n0_ n1_ n2_ n3_ n4_ n5_ n6_; (try (obtain ⟨hy82_, hz82_⟩ := Kd.R_celln 0 HO_14.out (x15_4 : Int) (of_decide_eq_true (by first | (with_reducible assumption) | assumption)) (of_decide_eq_true (by first | (with_reducible assumption) | assumption)))); (try (have HP82 := Kd.R_putg HO_14.out (x15_4 : Int) x70_5)))); refine store_event (t := 2) (p := 128) (v := ?vo_w83) (w1 := (w81.setCell ⟨go77, (x15_4 : Int).toNat, none⟩ (.int .i64 x70_5))) ?hg ?ho ?hn ?hr ?_; (case ho => rfl); (case hg => rfl); (case hn => rfl); (case hr => first | (go_simp; done) | (go_simp; rfl)); intro w83 hw; have hg : w81.grownBy w83 (some go77) := (by rw [hw]; exact HP82.2); have hp_ : Kd.R (Kd.int .i64) 2 w83 w.heap.size (fun _ => True) (.slice (some ⟨go77, 0, none⟩) x14_5.length co77) y261 := (by rw [hw, Ny261.out]; exact HP82.1); clear HP82; have n0_ := Aside0.mk (Kd.R_over' (v := (.slice (some ⟨go77, 0, none⟩) x14_5.length co77)) (by (with_reducible repeat (first | apply Kd.R_alloc | apply Kd.R_drewN | apply Kd.R_drew)); exact HO_7.out) (Kd.R_typed HO_14.out) (by decide) hg); have n1_ := Aside0.mk (Kd.R_over' (v := (.slice (some ⟨go77, 0, none⟩) x14_5.length co77)) (by (with_reducible repeat (first | apply Kd.R_alloc | apply Kd.R_drewN | apply Kd.R_drew)); exact HO_8.out) (Kd.R_typed HO_14.out) (by decide) hg); have n2_ := Aside0.mk (Kd.S_after (v := (.slice (some ⟨go77, 0, none⟩) x14_5.length co77)) (v1 := (.slice (some ⟨go77, 0, none⟩) x14_5.length co77)) (ok := (fun _ => True)) (by (with_reducible repeat (first | apply Kd.S_alloc | apply Kd.S_drewN | apply Kd.S_drew)); exact Kd.S_mono HO_10.out (fun _ hk => ⟨trivial, hk⟩)) hg (.inl rfl)); have n3_ := Aside0.mk (Kd.R_over' (v := (.slice (some ⟨go77, 0, none⟩) x14_5.length co77)) (by (with_reducible repeat (first | apply Kd.R_alloc | apply Kd.R_drewN | apply Kd.R_drew)); exact HO_12.out) (Kd.R_typed HO_14.out) (by decide) hg); have n4_ := Aside0.mk (Kd.R_over' (v := (.slice (some ⟨go77, 0, none⟩) x14_5.length co77)) (by (with_reducible repeat (first | apply Kd.R_alloc | apply Kd.R_drewN | apply Kd.R_drew)); exact HO_13.out) (Kd.R_typed HO_14.out) (by decide) hg); have n5_ := Aside0.mk (hp_); have n6_ := Aside0.mk ((by rw [hw]; exact below_set (HB.out) GB77.out : Below w.heap.size w w83)); clear HO_7; clear HO_8; clear HO_10; clear HO_12; clear HO_13; clear HO_14; clear HB; have HO_7 := n0_; have HO_8 := n1_; have HO_10 := n2_; have HO_12 := n3_; have HO_13 := n4_; have HO_14 := n5_; have HB := n6_; clear n0_ n1_ n2_ n3_ n4_ n5_ n6_; clear hg hw hp_))
 subst hji52
 subst hji26
 subst hji8
 go_roundg kj59
 case measure => have := HJ2.out; have := HK2.out; have := HK3.out; have := HK4.out; have := HK5.out; have := HJ44.out; have := HJ59.out; omega
 case rel => exact ⟨(y260), (y259), (y261), (wrap64 (x70_5 + 1)), (by first|rfl|(simp; done)|(simp [*]; done)), H', ⟨by have := HJ2.out; have := HK2.out; have := HK3.out; have := HK4.out; have := HK5.out; have := HJ44.out; have := HJ59.out; omega⟩, ⟨by (try simp only [hl8_2]); (with_reducible repeat (first | apply Kd.R_alloc | apply Kd.R_drewN | apply Kd.R_drew)); exact Kd.R_mono HO_7.out (fun _ hk => hk.2)⟩, ⟨by (try simp only [hl8_2]); (with_reducible repeat (first | apply Kd.R_alloc | apply Kd.R_drewN | apply Kd.R_drew)); exact Kd.R_mono HO_8.out (fun _ hk => hk.2)⟩, ⟨by (try simp only [hl8_2]); (with_reducible repeat (first | apply Kd.S_alloc | apply Kd.S_drewN | apply Kd.S_drew)); exact Kd.S_mono HO_10.out (fun _ hk => hk.2)⟩, ⟨by (try simp only [hl8_2]); (with_reducible repeat (first | apply Kd.R_alloc | apply Kd.R_drewN | apply Kd.R_drew)); exact HO_12.out⟩, ⟨by (try simp only [hl8_2]); (with_reducible repeat (first | apply Kd.R_alloc | apply Kd.R_drewN | apply Kd.R_drew)); exact HO_13.out⟩, ⟨by (try simp only [hl8_2]); (with_reducible repeat (first | apply Kd.R_alloc | apply Kd.R_drewN | apply Kd.R_drew)); exact HO_14.out⟩, ⟨by repeat (first | (with_reducible first | exact HB.out | apply below_alloc | apply pw_below_drewN | apply below_drew1) | exact HB.out)⟩⟩
end Go.Proofs.Ytpngjpiodhpbnaa.PFnCuts
