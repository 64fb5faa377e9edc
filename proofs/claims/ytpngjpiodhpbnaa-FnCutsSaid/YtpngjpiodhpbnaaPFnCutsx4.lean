-- Written by a turned copy of the kit's printer (wip/pf).
import Derived.Test.YtpngjpiodhpbnaaPFnCutsx0
import Derived.Test.YtpngjpiodhpbnaaPFnCutsx1
import Derived.Test.YtpngjpiodhpbnaaPFnCutsx2
namespace Go.Proofs.Ytpngjpiodhpbnaa.PFnCuts
open Go.RowKit Go.Proofs.YtpngjpiodhpbnaaW.PrintWords Go.Proofs.YtpngjpiodhpbnaaW.PrintLast Go.Proofs.YtpngjpiodhpbnaaW.PrintMore
attribute [local go_sem] max2_int min2_int max_two min_two max_three min_three max_four min_four   -- for this text's walks alone
attribute [local go_sem high] feq_fold fne_fold flt_fold fle_fold fgt_fold fge_fold fneg_run fsame_run fstore_run
set_option linter.unusedVariables false
set_option linter.unusedSimpArgs false

/-! ### impl_BestCuts: function 9 -/
mutual
def impl_BestCuts.j0 : Nat → List (List (S34)) → Int → Bool → Option (List Int × Nat × Bool)
  | 0, _, _, _ => none
  | k + 1, x0, x1, x28 => if x28 = true then (some (([] : List Int), 0, false)) else (if 0 ≤ (wrap64 (x1 + 1)) then (if (wrap64 (x1 + 1) : Int).toNat ≤ 17592186044416 then ((some (List.replicate (wrap64 (x1 + 1) : Int).toNat z60 : List (S60))).bind fun y177 => (impl_BestCuts.l0 k x0 x1 y177 (y177.length : Int) 0)) else (none)) else (none))
def impl_BestCuts.l0 : Nat → List (List (S34)) → Int → List (S60) → Int → Int → Option (List Int × Nat × Bool)
  | 0, _, _, _, _, _ => none
  | k + 1, x0, x1, x7, x33, x34 => if x34 < x33 then (if 0 ≤ x34 then (if x34 < (x7.length : Int) then (impl_BestCuts.l0 k x0 x1 (x7.set (x34 : Int).toNat (⟨true, (rd_T60 x7 x34).f1, (rd_T60 x7 x34).f2⟩ : S60)) x33 (wrap64 (x34 + 1))) else (none)) else (none)) else (impl_BestCuts.l1 k x0 x1 x7 (([] : List (List (S60)))) x0 (x0.length : Int) 0)
def impl_BestCuts.l1 : Nat → List (List (S34)) → Int → List (S60) → List (List (S60)) → List (List (S34)) → Int → Int → Option (List Int × Nat × Bool)
  | 0, _, _, _, _, _, _, _ => none
  | k + 1, x0, x1, x7, x9, x43, x44, x45 => if x45 < x44 then (if 0 ≤ x45 then (if x45 < (x43.length : Int) then (if 0 ≤ (wrap64 (x1 + 1)) then (if (wrap64 (x1 + 1) : Int).toNat ≤ 17592186044416 then ((some (List.replicate (wrap64 (x1 + 1) : Int).toNat z60 : List (S60))).bind fun y185 => (impl_BestCuts.l2 k x0 x1 x7 x9 (rd_L4 x43 x45) y185 x43 x44 x45 (y185.length : Int) 0)) else (none)) else (none)) else (none)) else (none)) else (if 0 ≤ x1 then (if x1 < (x7.length : Int) then (if ((rd_T60 x7 x1).f0 = true) then ((impl_IsFinite.f ((rd_T60 x7 x1).f1)).bind fun t202 => (impl_BestCuts.j6 k x0 x1 x7 x9 (!t202))) else (impl_BestCuts.j6 k x0 x1 x7 x9 true)) else (none)) else (none))
def impl_BestCuts.l2 : Nat → List (List (S34)) → Int → List (S60) → List (List (S60)) → List (S34) → List (S60) → List (List (S34)) → Int → Int → Int → Int → Option (List Int × Nat × Bool)
  | 0, _, _, _, _, _, _, _, _, _, _, _ => none
  | k + 1, x0, x1, x7, x9, x11, x12, x43, x44, x45, x53, x54 => if x54 < x53 then (impl_BestCuts.l3 k x0 x1 x7 x9 x11 x12 x54 x43 x44 x45 x53 x54 x11 (x11.length : Int) 0) else (if x9.length < 5864062014805 then (impl_BestCuts.l1 k x0 x1 x12 (x9 ++ [x12]) x43 x44 (wrap64 (x45 + 1))) else (none))
def impl_BestCuts.l3 : Nat → List (List (S34)) → Int → List (S60) → List (List (S60)) → List (S34) → List (S60) → Int → List (List (S34)) → Int → Int → Int → Int → List (S34) → Int → Int → Option (List Int × Nat × Bool)
  | 0, _, _, _, _, _, _, _, _, _, _, _, _, _, _, _ => none
  | k + 1, x0, x1, x7, x9, x11, x12, x13, x43, x44, x45, x53, x54, x57, x58, x59 => if x59 < x58 then (if 0 ≤ x59 then (if x59 < (x57.length : Int) then (if ((rd_T34 x57 x59).f0) > x13 then (impl_BestCuts.j5 k x0 x1 x7 x9 x11 x12 x13 x59 x43 x44 x45 x53 x54 x57 x58 x59 true ((rd_T34 x57 x59).f0) ((rd_T34 x57 x59).f1)) else (if 0 ≤ (wrap64 (x13 - ((rd_T34 x57 x59).f0))) then (if (wrap64 (x13 - ((rd_T34 x57 x59).f0))) < (x7.length : Int) then (impl_BestCuts.j5 k x0 x1 x7 x9 x11 x12 x13 x59 x43 x44 x45 x53 x54 x57 x58 x59 (!((rd_T60 x7 (wrap64 (x13 - ((rd_T34 x57 x59).f0)))).f0)) ((rd_T34 x57 x59).f0) ((rd_T34 x57 x59).f1)) else (none)) else (none))) else (none)) else (none)) else (impl_BestCuts.l2 k x0 x1 x7 x9 x11 x12 x43 x44 x45 x53 (wrap64 (x54 + 1)))
def impl_BestCuts.j5 : Nat → List (List (S34)) → Int → List (S60) → List (List (S60)) → List (S34) → List (S60) → Int → Int → List (List (S34)) → Int → Int → Int → Int → List (S34) → Int → Int → Bool → Int → Nat → Option (List Int × Nat × Bool)
  | 0, _, _, _, _, _, _, _, _, _, _, _, _, _, _, _, _, _, _, _ => none
  | k + 1, x0, x1, x7, x9, x11, x12, x13, x14, x43, x44, x45, x53, x54, x57, x58, x59, x78, x193000, x193001 => if x78 = true then (impl_BestCuts.l3 k x0 x1 x7 x9 x11 x12 x13 x43 x44 x45 x53 x54 x57 x58 (wrap64 (x59 + 1))) else (if 0 ≤ (wrap64 (x13 - x193000)) then (if (wrap64 (x13 - x193000)) < (x7.length : Int) then ((floatBits .add .f32 ((rd_T60 x7 (wrap64 (x13 - x193000))).f1) x193001).bind fun t195 => (if 0 ≤ x13 then (if x13 < (x12.length : Int) then (if ((rd_T60 x12 x13).f0 = true) then (if (flt .f32 t195 ((rd_T60 x12 x13).f1)) = true then (impl_BestCuts.l3 k x0 x1 x7 x9 x11 (x12.set (x13 : Int).toNat (⟨true, t195, x14⟩ : S60)) x13 x43 x44 x45 x53 x54 x57 x58 (wrap64 (x59 + 1))) else (impl_BestCuts.l3 k x0 x1 x7 x9 x11 x12 x13 x43 x44 x45 x53 x54 x57 x58 (wrap64 (x59 + 1)))) else (impl_BestCuts.l3 k x0 x1 x7 x9 x11 (x12.set (x13 : Int).toNat (⟨true, t195, x14⟩ : S60)) x13 x43 x44 x45 x53 x54 x57 x58 (wrap64 (x59 + 1)))) else (none)) else (none))) else (none)) else (none))
def impl_BestCuts.j6 : Nat → List (List (S34)) → Int → List (S60) → List (List (S60)) → Bool → Option (List Int × Nat × Bool)
  | 0, _, _, _, _, _ => none
  | k + 1, x0, x1, x7, x9, x133 => if x133 = true then (some (([] : List Int), 0, false)) else (if 0 ≤ (x0.length : Int) then (if ((x0.length : Int) : Int).toNat ≤ 35184372088832 then (impl_BestCuts.l4 k x0 x1 x7 x9 (List.replicate ((x0.length : Int) : Int).toNat 0) x1 (wrap64 ((x0.length : Int) - 1))) else (none)) else (none))
def impl_BestCuts.l4 : Nat → List (List (S34)) → Int → List (S60) → List (List (S60)) → List Int → Int → Int → Option (List Int × Nat × Bool)
  | 0, _, _, _, _, _, _, _ => none
  | k + 1, x0, x1, x7, x9, x17, x18, x19 => if x19 ≥ 0 then (if 0 ≤ x19 then (if x19 < (x9.length : Int) then (if 0 ≤ x18 then (if x18 < ((rd_L7 x9 x19).length : Int) then (if x19 < (x17.length : Int) then (if x19 < (x0.length : Int) then (if 0 ≤ ((rd_T60 (rd_L7 x9 x19) x18).f2) then (if ((rd_T60 (rd_L7 x9 x19) x18).f2) < ((rd_L4 x0 x19).length : Int) then (impl_BestCuts.l4 k x0 x1 x7 x9 (x17.set (x19 : Int).toNat ((rd_T60 (rd_L7 x9 x19) x18).f2)) (wrap64 (x18 - ((rd_T34 (rd_L4 x0 x19) ((rd_T60 (rd_L7 x9 x19) x18).f2)).f0))) (wrap64 (x19 - 1))) else (none)) else (none)) else (none)) else (none)) else (none)) else (none)) else (none)) else (none)) else (if 0 ≤ x1 then (if x1 < (x7.length : Int) then (some (x17, (rd_T60 x7 x1).f1, true)) else (none)) else (none))
end
def impl_BestCuts.f (k : Nat) (l0 : List (List (S34))) (a1 : Int) : Option (List Int × Nat × Bool) := (impl_areBlocks.f k l0).bind fun t175 => (if t175 = true then ((impl_within.f a1 0 512).bind fun t176 => (impl_BestCuts.j0 k l0 a1 (!t176))) else (impl_BestCuts.j0 k l0 a1 true))
theorem impl_BestCuts.mono_l : ∀ k, (∀ y0 y1 y2, LeO (impl_BestCuts.j0 k y0 y1 y2) (impl_BestCuts.j0 (k + 1) y0 y1 y2)) ∧ (∀ y0 y1 y2 y3 y4, LeO (impl_BestCuts.l0 k y0 y1 y2 y3 y4) (impl_BestCuts.l0 (k + 1) y0 y1 y2 y3 y4)) ∧ (∀ y0 y1 y2 y3 y4 y5 y6, LeO (impl_BestCuts.l1 k y0 y1 y2 y3 y4 y5 y6) (impl_BestCuts.l1 (k + 1) y0 y1 y2 y3 y4 y5 y6)) ∧ (∀ y0 y1 y2 y3 y4 y5 y6 y7 y8 y9 y10, LeO (impl_BestCuts.l2 k y0 y1 y2 y3 y4 y5 y6 y7 y8 y9 y10) (impl_BestCuts.l2 (k + 1) y0 y1 y2 y3 y4 y5 y6 y7 y8 y9 y10)) ∧ (∀ y0 y1 y2 y3 y4 y5 y6 y7 y8 y9 y10 y11 y12 y13 y14, LeO (impl_BestCuts.l3 k y0 y1 y2 y3 y4 y5 y6 y7 y8 y9 y10 y11 y12 y13 y14) (impl_BestCuts.l3 (k + 1) y0 y1 y2 y3 y4 y5 y6 y7 y8 y9 y10 y11 y12 y13 y14)) ∧ (∀ y0 y1 y2 y3 y4 y5 y6 y7 y8 y9 y10 y11 y12 y13 y14 y15 y16 y17 y18, LeO (impl_BestCuts.j5 k y0 y1 y2 y3 y4 y5 y6 y7 y8 y9 y10 y11 y12 y13 y14 y15 y16 y17 y18) (impl_BestCuts.j5 (k + 1) y0 y1 y2 y3 y4 y5 y6 y7 y8 y9 y10 y11 y12 y13 y14 y15 y16 y17 y18)) ∧ (∀ y0 y1 y2 y3 y4, LeO (impl_BestCuts.j6 k y0 y1 y2 y3 y4) (impl_BestCuts.j6 (k + 1) y0 y1 y2 y3 y4)) ∧ (∀ y0 y1 y2 y3 y4 y5 y6, LeO (impl_BestCuts.l4 k y0 y1 y2 y3 y4 y5 y6) (impl_BestCuts.l4 (k + 1) y0 y1 y2 y3 y4 y5 y6))
  | 0 => ⟨fun _ _ _ r h => by simp [impl_BestCuts.j0] at h, fun _ _ _ _ _ r h => by simp [impl_BestCuts.l0] at h, fun _ _ _ _ _ _ _ r h => by simp [impl_BestCuts.l1] at h, fun _ _ _ _ _ _ _ _ _ _ _ r h => by simp [impl_BestCuts.l2] at h, fun _ _ _ _ _ _ _ _ _ _ _ _ _ _ _ r h => by simp [impl_BestCuts.l3] at h, fun _ _ _ _ _ _ _ _ _ _ _ _ _ _ _ _ _ _ _ r h => by simp [impl_BestCuts.j5] at h, fun _ _ _ _ _ r h => by simp [impl_BestCuts.j6] at h, fun _ _ _ _ _ _ _ r h => by simp [impl_BestCuts.l4] at h⟩
  | k + 1 => by
    obtain ⟨ih0, ih1, ih2, ih3, ih4, ih5, ih6, ih7⟩ := impl_BestCuts.mono_l k
    refine ⟨?_, ?_, ?_, ?_, ?_, ?_, ?_, ?_⟩
    · intro y0 y1 y2
      unfold impl_BestCuts.j0
      repeat' first
      | (with_reducible exact ih0 _ _ _)
      | (with_reducible exact ih1 _ _ _ _ _)
      | (with_reducible exact ih2 _ _ _ _ _ _ _)
      | (with_reducible exact ih3 _ _ _ _ _ _ _ _ _ _ _)
      | (with_reducible exact ih4 _ _ _ _ _ _ _ _ _ _ _ _ _ _ _)
      | (with_reducible exact ih5 _ _ _ _ _ _ _ _ _ _ _ _ _ _ _ _ _ _ _)
      | (with_reducible exact ih6 _ _ _ _ _)
      | (with_reducible exact ih7 _ _ _ _ _ _ _)
      | (with_reducible exact impl_areBlocks.mono _ _)
      | (with_reducible exact LeO.refl _)
      | (with_reducible exact LeO.none _)
      | (with_reducible refine LeO.ite ?_ ?_)
      | (with_reducible refine LeO.bind ?_ (fun _ => ?_))
      | exact ih0 _ _ _
      | exact ih1 _ _ _ _ _
      | exact ih2 _ _ _ _ _ _ _
      | exact ih3 _ _ _ _ _ _ _ _ _ _ _
      | exact ih4 _ _ _ _ _ _ _ _ _ _ _ _ _ _ _
      | exact ih5 _ _ _ _ _ _ _ _ _ _ _ _ _ _ _ _ _ _ _
      | exact ih6 _ _ _ _ _
      | exact ih7 _ _ _ _ _ _ _
      | exact impl_areBlocks.mono _ _
      | exact LeO.none _
      | refine LeO.ite ?_ ?_
      | refine LeO.bind ?_ (fun _ => ?_)
    · intro y0 y1 y2 y3 y4
      unfold impl_BestCuts.l0
      repeat' first
      | (with_reducible exact ih0 _ _ _)
      | (with_reducible exact ih1 _ _ _ _ _)
      | (with_reducible exact ih2 _ _ _ _ _ _ _)
      | (with_reducible exact ih3 _ _ _ _ _ _ _ _ _ _ _)
      | (with_reducible exact ih4 _ _ _ _ _ _ _ _ _ _ _ _ _ _ _)
      | (with_reducible exact ih5 _ _ _ _ _ _ _ _ _ _ _ _ _ _ _ _ _ _ _)
      | (with_reducible exact ih6 _ _ _ _ _)
      | (with_reducible exact ih7 _ _ _ _ _ _ _)
      | (with_reducible exact impl_areBlocks.mono _ _)
      | (with_reducible exact LeO.refl _)
      | (with_reducible exact LeO.none _)
      | (with_reducible refine LeO.ite ?_ ?_)
      | (with_reducible refine LeO.bind ?_ (fun _ => ?_))
      | exact ih0 _ _ _
      | exact ih1 _ _ _ _ _
      | exact ih2 _ _ _ _ _ _ _
      | exact ih3 _ _ _ _ _ _ _ _ _ _ _
      | exact ih4 _ _ _ _ _ _ _ _ _ _ _ _ _ _ _
      | exact ih5 _ _ _ _ _ _ _ _ _ _ _ _ _ _ _ _ _ _ _
      | exact ih6 _ _ _ _ _
      | exact ih7 _ _ _ _ _ _ _
      | exact impl_areBlocks.mono _ _
      | exact LeO.none _
      | refine LeO.ite ?_ ?_
      | refine LeO.bind ?_ (fun _ => ?_)
    · intro y0 y1 y2 y3 y4 y5 y6
      unfold impl_BestCuts.l1
      repeat' first
      | (with_reducible exact ih0 _ _ _)
      | (with_reducible exact ih1 _ _ _ _ _)
      | (with_reducible exact ih2 _ _ _ _ _ _ _)
      | (with_reducible exact ih3 _ _ _ _ _ _ _ _ _ _ _)
      | (with_reducible exact ih4 _ _ _ _ _ _ _ _ _ _ _ _ _ _ _)
      | (with_reducible exact ih5 _ _ _ _ _ _ _ _ _ _ _ _ _ _ _ _ _ _ _)
      | (with_reducible exact ih6 _ _ _ _ _)
      | (with_reducible exact ih7 _ _ _ _ _ _ _)
      | (with_reducible exact impl_areBlocks.mono _ _)
      | (with_reducible exact LeO.refl _)
      | (with_reducible exact LeO.none _)
      | (with_reducible refine LeO.ite ?_ ?_)
      | (with_reducible refine LeO.bind ?_ (fun _ => ?_))
      | exact ih0 _ _ _
      | exact ih1 _ _ _ _ _
      | exact ih2 _ _ _ _ _ _ _
      | exact ih3 _ _ _ _ _ _ _ _ _ _ _
      | exact ih4 _ _ _ _ _ _ _ _ _ _ _ _ _ _ _
      | exact ih5 _ _ _ _ _ _ _ _ _ _ _ _ _ _ _ _ _ _ _
      | exact ih6 _ _ _ _ _
      | exact ih7 _ _ _ _ _ _ _
      | exact impl_areBlocks.mono _ _
      | exact LeO.none _
      | refine LeO.ite ?_ ?_
      | refine LeO.bind ?_ (fun _ => ?_)
    · intro y0 y1 y2 y3 y4 y5 y6 y7 y8 y9 y10
      unfold impl_BestCuts.l2
      repeat' first
      | (with_reducible exact ih0 _ _ _)
      | (with_reducible exact ih1 _ _ _ _ _)
      | (with_reducible exact ih2 _ _ _ _ _ _ _)
      | (with_reducible exact ih3 _ _ _ _ _ _ _ _ _ _ _)
      | (with_reducible exact ih4 _ _ _ _ _ _ _ _ _ _ _ _ _ _ _)
      | (with_reducible exact ih5 _ _ _ _ _ _ _ _ _ _ _ _ _ _ _ _ _ _ _)
      | (with_reducible exact ih6 _ _ _ _ _)
      | (with_reducible exact ih7 _ _ _ _ _ _ _)
      | (with_reducible exact impl_areBlocks.mono _ _)
      | (with_reducible exact LeO.refl _)
      | (with_reducible exact LeO.none _)
      | (with_reducible refine LeO.ite ?_ ?_)
      | (with_reducible refine LeO.bind ?_ (fun _ => ?_))
      | exact ih0 _ _ _
      | exact ih1 _ _ _ _ _
      | exact ih2 _ _ _ _ _ _ _
      | exact ih3 _ _ _ _ _ _ _ _ _ _ _
      | exact ih4 _ _ _ _ _ _ _ _ _ _ _ _ _ _ _
      | exact ih5 _ _ _ _ _ _ _ _ _ _ _ _ _ _ _ _ _ _ _
      | exact ih6 _ _ _ _ _
      | exact ih7 _ _ _ _ _ _ _
      | exact impl_areBlocks.mono _ _
      | exact LeO.none _
      | refine LeO.ite ?_ ?_
      | refine LeO.bind ?_ (fun _ => ?_)
    · intro y0 y1 y2 y3 y4 y5 y6 y7 y8 y9 y10 y11 y12 y13 y14
      unfold impl_BestCuts.l3
      repeat' first
      | (with_reducible exact ih0 _ _ _)
      | (with_reducible exact ih1 _ _ _ _ _)
      | (with_reducible exact ih2 _ _ _ _ _ _ _)
      | (with_reducible exact ih3 _ _ _ _ _ _ _ _ _ _ _)
      | (with_reducible exact ih4 _ _ _ _ _ _ _ _ _ _ _ _ _ _ _)
      | (with_reducible exact ih5 _ _ _ _ _ _ _ _ _ _ _ _ _ _ _ _ _ _ _)
      | (with_reducible exact ih6 _ _ _ _ _)
      | (with_reducible exact ih7 _ _ _ _ _ _ _)
      | (with_reducible exact impl_areBlocks.mono _ _)
      | (with_reducible exact LeO.refl _)
      | (with_reducible exact LeO.none _)
      | (with_reducible refine LeO.ite ?_ ?_)
      | (with_reducible refine LeO.bind ?_ (fun _ => ?_))
      | exact ih0 _ _ _
      | exact ih1 _ _ _ _ _
      | exact ih2 _ _ _ _ _ _ _
      | exact ih3 _ _ _ _ _ _ _ _ _ _ _
      | exact ih4 _ _ _ _ _ _ _ _ _ _ _ _ _ _ _
      | exact ih5 _ _ _ _ _ _ _ _ _ _ _ _ _ _ _ _ _ _ _
      | exact ih6 _ _ _ _ _
      | exact ih7 _ _ _ _ _ _ _
      | exact impl_areBlocks.mono _ _
      | exact LeO.none _
      | refine LeO.ite ?_ ?_
      | refine LeO.bind ?_ (fun _ => ?_)
    · intro y0 y1 y2 y3 y4 y5 y6 y7 y8 y9 y10 y11 y12 y13 y14 y15 y16 y17 y18
      unfold impl_BestCuts.j5
      repeat' first
      | (with_reducible exact ih0 _ _ _)
      | (with_reducible exact ih1 _ _ _ _ _)
      | (with_reducible exact ih2 _ _ _ _ _ _ _)
      | (with_reducible exact ih3 _ _ _ _ _ _ _ _ _ _ _)
      | (with_reducible exact ih4 _ _ _ _ _ _ _ _ _ _ _ _ _ _ _)
      | (with_reducible exact ih5 _ _ _ _ _ _ _ _ _ _ _ _ _ _ _ _ _ _ _)
      | (with_reducible exact ih6 _ _ _ _ _)
      | (with_reducible exact ih7 _ _ _ _ _ _ _)
      | (with_reducible exact impl_areBlocks.mono _ _)
      | (with_reducible exact LeO.refl _)
      | (with_reducible exact LeO.none _)
      | (with_reducible refine LeO.ite ?_ ?_)
      | (with_reducible refine LeO.bind ?_ (fun _ => ?_))
      | exact ih0 _ _ _
      | exact ih1 _ _ _ _ _
      | exact ih2 _ _ _ _ _ _ _
      | exact ih3 _ _ _ _ _ _ _ _ _ _ _
      | exact ih4 _ _ _ _ _ _ _ _ _ _ _ _ _ _ _
      | exact ih5 _ _ _ _ _ _ _ _ _ _ _ _ _ _ _ _ _ _ _
      | exact ih6 _ _ _ _ _
      | exact ih7 _ _ _ _ _ _ _
      | exact impl_areBlocks.mono _ _
      | exact LeO.none _
      | refine LeO.ite ?_ ?_
      | refine LeO.bind ?_ (fun _ => ?_)
    · intro y0 y1 y2 y3 y4
      unfold impl_BestCuts.j6
      repeat' first
      | (with_reducible exact ih0 _ _ _)
      | (with_reducible exact ih1 _ _ _ _ _)
      | (with_reducible exact ih2 _ _ _ _ _ _ _)
      | (with_reducible exact ih3 _ _ _ _ _ _ _ _ _ _ _)
      | (with_reducible exact ih4 _ _ _ _ _ _ _ _ _ _ _ _ _ _ _)
      | (with_reducible exact ih5 _ _ _ _ _ _ _ _ _ _ _ _ _ _ _ _ _ _ _)
      | (with_reducible exact ih6 _ _ _ _ _)
      | (with_reducible exact ih7 _ _ _ _ _ _ _)
      | (with_reducible exact impl_areBlocks.mono _ _)
      | (with_reducible exact LeO.refl _)
      | (with_reducible exact LeO.none _)
      | (with_reducible refine LeO.ite ?_ ?_)
      | (with_reducible refine LeO.bind ?_ (fun _ => ?_))
      | exact ih0 _ _ _
      | exact ih1 _ _ _ _ _
      | exact ih2 _ _ _ _ _ _ _
      | exact ih3 _ _ _ _ _ _ _ _ _ _ _
      | exact ih4 _ _ _ _ _ _ _ _ _ _ _ _ _ _ _
      | exact ih5 _ _ _ _ _ _ _ _ _ _ _ _ _ _ _ _ _ _ _
      | exact ih6 _ _ _ _ _
      | exact ih7 _ _ _ _ _ _ _
      | exact impl_areBlocks.mono _ _
      | exact LeO.none _
      | refine LeO.ite ?_ ?_
      | refine LeO.bind ?_ (fun _ => ?_)
    · intro y0 y1 y2 y3 y4 y5 y6
      unfold impl_BestCuts.l4
      repeat' first
      | (with_reducible exact ih0 _ _ _)
      | (with_reducible exact ih1 _ _ _ _ _)
      | (with_reducible exact ih2 _ _ _ _ _ _ _)
      | (with_reducible exact ih3 _ _ _ _ _ _ _ _ _ _ _)
      | (with_reducible exact ih4 _ _ _ _ _ _ _ _ _ _ _ _ _ _ _)
      | (with_reducible exact ih5 _ _ _ _ _ _ _ _ _ _ _ _ _ _ _ _ _ _ _)
      | (with_reducible exact ih6 _ _ _ _ _)
      | (with_reducible exact ih7 _ _ _ _ _ _ _)
      | (with_reducible exact impl_areBlocks.mono _ _)
      | (with_reducible exact LeO.refl _)
      | (with_reducible exact LeO.none _)
      | (with_reducible refine LeO.ite ?_ ?_)
      | (with_reducible refine LeO.bind ?_ (fun _ => ?_))
      | exact ih0 _ _ _
      | exact ih1 _ _ _ _ _
      | exact ih2 _ _ _ _ _ _ _
      | exact ih3 _ _ _ _ _ _ _ _ _ _ _
      | exact ih4 _ _ _ _ _ _ _ _ _ _ _ _ _ _ _
      | exact ih5 _ _ _ _ _ _ _ _ _ _ _ _ _ _ _ _ _ _ _
      | exact ih6 _ _ _ _ _
      | exact ih7 _ _ _ _ _ _ _
      | exact impl_areBlocks.mono _ _
      | exact LeO.none _
      | refine LeO.ite ?_ ?_
      | refine LeO.bind ?_ (fun _ => ?_)
theorem impl_BestCuts.mono : ∀ a0 a1 k, LeO (impl_BestCuts.f k a0 a1) (impl_BestCuts.f (k + 1) a0 a1) := by
  intro a0 a1 k
  obtain ⟨ih0, ih1, ih2, ih3, ih4, ih5, ih6, ih7⟩ := impl_BestCuts.mono_l k
  unfold impl_BestCuts.f
  repeat' first
      | (with_reducible exact ih0 _ _ _)
      | (with_reducible exact ih1 _ _ _ _ _)
      | (with_reducible exact ih2 _ _ _ _ _ _ _)
      | (with_reducible exact ih3 _ _ _ _ _ _ _ _ _ _ _)
      | (with_reducible exact ih4 _ _ _ _ _ _ _ _ _ _ _ _ _ _ _)
      | (with_reducible exact ih5 _ _ _ _ _ _ _ _ _ _ _ _ _ _ _ _ _ _ _)
      | (with_reducible exact ih6 _ _ _ _ _)
      | (with_reducible exact ih7 _ _ _ _ _ _ _)
      | (with_reducible exact impl_areBlocks.mono _ _)
      | (with_reducible exact LeO.refl _)
      | (with_reducible exact LeO.none _)
      | (with_reducible refine LeO.ite ?_ ?_)
      | (with_reducible refine LeO.bind ?_ (fun _ => ?_))
      | exact ih0 _ _ _
      | exact ih1 _ _ _ _ _
      | exact ih2 _ _ _ _ _ _ _
      | exact ih3 _ _ _ _ _ _ _ _ _ _ _
      | exact ih4 _ _ _ _ _ _ _ _ _ _ _ _ _ _ _
      | exact ih5 _ _ _ _ _ _ _ _ _ _ _ _ _ _ _ _ _ _ _
      | exact ih6 _ _ _ _ _
      | exact ih7 _ _ _ _ _ _ _
      | exact impl_areBlocks.mono _ _
      | exact LeO.none _
      | refine LeO.ite ?_ ?_
      | refine LeO.bind ?_ (fun _ => ?_)
set_option maxHeartbeats 8000000 in
set_option maxRecDepth 100000 in
theorem impl_BestCuts.calls (k : Nat) (A0 : Option Addr) (c0 : Nat) (l0 : List (List (S34))) (a1 : Int) (r1 : List Int) (r2 : Nat) (r3 : Bool) (w : World) (hr0 : Kd.C (Kd.slice 34 k34) w A0 l0.length l0) (hc0 : l0.length ≤ c0) (h : impl_BestCuts.f k l0 a1 = some (r1, r2, r3)) :
    Calls Try.prog 9 #[.slice A0 l0.length c0, .int .i64 a1] w fun e w' => ∃ v0_ : Value, e = .returned (.tuple #[v0_, .float .f32 r2, .bool r3]) ∧ Kd.R (Kd.int .i64) 2 w' w.heap.size (fun _ => True) v0_ r1 ∧ Below w.heap.size w w' := by
 have hu34 := Try.underlying34
 have hu60 := Try.underlying60
 have HR0 := Aside0.mk hr0
 have HC0 := Aside0.mk hc0
 clear hr0 hc0
 have HB := Aside0.mk (Below.refl w.heap.size w)
 have H : ((impl_areBlocks.f k l0).bind fun t175 => (if t175 = true then ((impl_within.f a1 0 512).bind fun t176 => (impl_BestCuts.j0 k l0 a1 (!t176))) else (impl_BestCuts.j0 k l0 a1 true))) = some (r1, r2, r3) := h
 clear h
 have HC3 := Aside0.mk H
 clear H
 go_enter Try.func9, Try.ntmps9
 go_upto_region 1 with (fail)
 go_cut [28] (fun v28 wc => ∃ (kq : Nat) (x28_2 : Bool), v28 = .bool x28_2 ∧ Aside0 (impl_BestCuts.j0 kq l0 a1 x28_2 = some (r1, r2, r3)) ∧ Aside0 (kq ≤ k) ∧ Aside0 (Below w.heap.size w wc))
 case first =>
  have H := HC3.out
  clear HC3
  replace H := Option.bind_eq_some_iff.mp H
  obtain ⟨t175, A40, H⟩ := H
  replace H : (if t175 = true then ((impl_within.f a1 0 512).bind fun t176 => (impl_BestCuts.j0 k l0 a1 (!t176))) else (impl_BestCuts.j0 k l0 a1 true)) = some (r1, r2, r3) := H
  have A4 := Aside0.mk A40
  clear A40
  by_cases c5 : t175 = true
  rotate_left
  ·replace c5 := Bool.eq_false_iff.mpr c5
   subst c5
   have H1 : (impl_BestCuts.j0 k l0 a1 true) = some (r1, r2, r3) := by rw [if_neg (show ¬ (false = true) by decide)] at H; exact H
   clear H
   have H := H1
   clear H1
   have H' := Aside0.mk H
   clear H
   go_wp2_with (first | (go_at_call 26; (with_reducible refine (impl_areBlocks.calls k _ _ l0 false _ ?side1 ?side2 A4.out).mono ?_); (case side1 => repeat (first | exact (Kd.C_below HR0.out HB.out) | (with_reducible refine Kd.C_alloc ?_ _) | (with_reducible refine Kd.C_drewN ?_ _) | (with_reducible refine Kd.C_drew ?_))); (case side2 => exact HC0.out); rintro e w8 ⟨rfl, hb⟩; have n0_ := Aside0.mk (below_step (by repeat (first | (with_reducible first | exact HB.out | apply below_alloc | apply pw_below_drewN | apply below_drew1) | exact HB.out)) hb); clear HB; have HB := n0_; clear n0_; (try clear hb); (try clear hb2); (try clear hk); (try clear hi)))
   go_meet
   case rel => exact ⟨_, (true), (by first|rfl|(simp; done)|(simp [*]; done)), H', ⟨by first | omega | exact Nat.le_refl _⟩, ⟨by repeat (first | (with_reducible first | exact HB.out | apply below_alloc | apply pw_below_drewN | apply below_drew1) | exact HB.out)⟩⟩
  subst c5
  have H1 : ((impl_within.f a1 0 512).bind fun t176 => (impl_BestCuts.j0 k l0 a1 (!t176))) = some (r1, r2, r3) := by rw [if_pos rfl] at H; exact H
  clear H
  have H := H1
  clear H1
  replace H := Option.bind_eq_some_iff.mp H
  obtain ⟨t176, A60, H⟩ := H
  replace H : (impl_BestCuts.j0 k l0 a1 (!t176)) = some (r1, r2, r3) := H
  have A6 := Aside0.mk A60
  clear A60
  have H' := Aside0.mk H
  clear H
  go_wp2_with (first | (go_at_call 26; (with_reducible refine (impl_areBlocks.calls k _ _ l0 true _ ?side1 ?side2 A4.out).mono ?_); (case side1 => repeat (first | exact (Kd.C_below HR0.out HB.out) | (with_reducible refine Kd.C_alloc ?_ _) | (with_reducible refine Kd.C_drewN ?_ _) | (with_reducible refine Kd.C_drew ?_))); (case side2 => exact HC0.out); rintro e w7 ⟨rfl, hb⟩; have n0_ := Aside0.mk (below_step (by repeat (first | (with_reducible first | exact HB.out | apply below_alloc | apply pw_below_drewN | apply below_drew1) | exact HB.out)) hb); clear HB; have HB := n0_; clear n0_; (try clear hb); (try clear hb2); (try clear hk); (try clear hi)) | (go_at_call 30; (with_reducible refine (impl_within.calls a1 0 512 t176 _ A6.out).mono ?_); rintro e w' ⟨rfl, ⟨nd, rfl⟩⟩; (try first | exact ⟨rfl, _, World.drewN_drewN _ _ _⟩ | exact ⟨rfl, _, Eq.trans (World.drewN_drewN _ _ _) (congrArg (World.drewN _) (Nat.add_assoc _ _ _))⟩)))
  go_meet
  case rel => exact ⟨_, (!t176), (by first|rfl|(simp; done)|(simp [*]; done)), H', ⟨by first | omega | exact Nat.le_refl _⟩, ⟨by repeat (first | (with_reducible first | exact HB.out | apply below_alloc | apply pw_below_drewN | apply below_drew1) | exact HB.out)⟩⟩
 clear HC3
 try clear p2
 try clear c5
 obtain ⟨kq, x28_2, rfl, HA, HJ2, HB⟩ := hcut
 cases kq with
 | zero => exact absurd HA.out (by simp [impl_BestCuts.j0])
 | succ kj2 => ?_
 have H := HA.out
 clear HA
 simp only [impl_BestCuts.j0] at H
 by_cases c9 : x28_2 = true
 ·subst c9
  have H1 : (some (([] : List Int), 0, false)) = some (r1, r2, r3) := by rw [if_pos rfl] at H; exact H
  clear H
  have H := H1
  clear H1
  simp only [Option.some.injEq, Prod.mk.injEq] at H
  obtain ⟨rfl, rfl, rfl⟩ := H
  go_wp2
  go_ret3
  exact ⟨_, by first | rfl | (simp [errW_none, errW_some] <;> rfl) | (simp [*, errW_none, errW_some] <;> rfl), by first | exact Kd.R_nil _ _ _ _ _ | exact Kd.N_nil _ _ _ _ _ | exact Kd.V_nil _ _ _ _ _ | exact Kd.Q_nil _ _ _ _ _ | exact Kd.S_nil _ _ _ _ _, by repeat (first | (with_reducible first | exact HB.out | apply below_alloc | apply pw_below_drewN | apply below_drew1) | exact HB.out)⟩
 replace c9 := Bool.eq_false_iff.mpr c9
 subst c9
 have H1 : (if 0 ≤ (wrap64 (a1 + 1)) then (if (wrap64 (a1 + 1) : Int).toNat ≤ 17592186044416 then ((some (List.replicate (wrap64 (a1 + 1) : Int).toNat z60 : List (S60))).bind fun y177 => (impl_BestCuts.l0 kj2 l0 a1 y177 (y177.length : Int) 0)) else (none)) else (none)) = some (r1, r2, r3) := by rw [if_neg (show ¬ (false = true) by decide)] at H; exact H
 clear H
 have H := H1
 clear H1
 obtain ⟨ji10, hji10⟩ : ∃ j_ : Int, (wrap64 (a1 + 1)) = j_ := ⟨_, rfl⟩
 replace H : (if 0 ≤ (ji10) then (if (ji10 : Int).toNat ≤ 17592186044416 then ((some (List.replicate (ji10 : Int).toNat z60 : List (S60))).bind fun y177 => (impl_BestCuts.l0 kj2 l0 a1 y177 (y177.length : Int) 0)) else (none)) else (none)) = some (r1, r2, r3) := by first | (rw [hji10] at H; exact H) | (simp only [hji10] at H ⊢; exact H)
 have hji10w : (IntKind.i64.wrap (a1 + 1)) = ji10 := (i64_w _).trans hji10
 by_cases c11 : 0 ≤ (ji10)
 rotate_left
 ·rw [if_neg c11] at H
  exact absurd H (by simp)
 rw [if_pos c11] at H
 have c11b0 := eq_true c11
 have c11b1 : decide (0 ≤ (ji10)) = true := decide_eq_true c11
 clear c11
 by_cases c12 : (ji10 : Int).toNat ≤ 17592186044416
 rotate_left
 ·rw [if_neg c12] at H
  exact absurd H (by simp)
 rw [if_pos c12] at H
 have c12b0 := eq_true c12
 have c12b1 : decide ((ji10 : Int).toNat ≤ 17592186044416) = true := decide_eq_true c12
 clear c12
 obtain ⟨y177, hy177⟩ : ∃ y_ : List (S60), y_ = (List.replicate (ji10 : Int).toNat z60) := ⟨_, rfl⟩
 replace H : (impl_BestCuts.l0 kj2 l0 a1 y177 (y177.length : Int) 0) = some (r1, r2, r3) := by first | (rw [hy177]; with_reducible exact H) | (have H2_ := (Option.bind_some _ _).symm.trans H; rw [hy177]; with_reducible exact H2_) | (have H2_ := (Option.bind_some _ _).symm.trans H; with_reducible exact H2_) | with_reducible exact H | (rw [hy177]; exact H) | exact H
 have Ny177 := Aside0.mk hy177
 clear hy177
 have H' := Aside0.mk H
 clear H
 go_wp2_with (first | ((with_reducible refine gate_dst (N := 31) rfl ?_); refine Kd.R_make k60 _ 60 rfl (N := 31) rfl 58 _ _ rfl ji10 rfl rfl Try.underlying58 (.agg #[(.bool false), (.float .f32 0), (.int .i64 0)]) 16 info60 rfl (by decide) (by omega) z60 (ok := fun _ => True) (okp := fun _ => True) (k60_mkM _ _ _ z60 ) (fun _ hk => hk) trivial (of_decide_eq_true (by first | (with_reducible assumption) | assumption)) (Nat.le_trans (Nat.mul_le_mul_right _ (of_decide_eq_true (by first | (with_reducible assumption) | assumption) : ji10.toNat ≤ 17592186044416)) (by omega)) (Below.refl _ _) (Nat.le_refl _) ?_; intro v178 w13 ho14 hb hg_ hnew_; clear hg_ hnew_; (first | rw [← Ny177.out] at ho14 | (simp only [Int.reduceToNat] at ho14; rw [← Ny177.out] at ho14)); have n0_ := Aside0.mk (Kd.R_lower ho14 (below_size (by repeat (first | (with_reducible first | exact HB.out | apply below_alloc | apply pw_below_drewN | apply below_drew1) | exact HB.out)))); have n1_ := Aside0.mk (below_step (by repeat (first | (with_reducible first | exact HB.out | apply below_alloc | apply pw_below_drewN | apply below_drew1) | exact HB.out)) hb); clear HB; have HO179 := n0_; have HB := n1_; clear n0_ n1_; clear hb ho14; obtain ⟨Ao15, co15, eo15⟩ := Kd.R_slice HO179.out; subst eo15))
 go_loopg [34] kj2 (fun kq v34 w' => ∃ (x7_2 : List (S60)) (x34_2 : Int), v34 = .int .i64 x34_2 ∧ Aside0 (impl_BestCuts.l0 kq l0 a1 x7_2 (y177.length : Int) x34_2 = some (r1, r2, r3)) ∧ Aside0 (kq ≤ kj2) ∧ Aside0 (Kd.R k60 60 w' w.heap.size (fun _ => True) (.slice Ao15 y177.length co15) x7_2) ∧ Aside0 (Below w.heap.size w w'))
 case atStart => exact ⟨(y177), (0), (by first|rfl|(simp; done)|(simp [*]; done)), H', ⟨Nat.le_refl _⟩, ⟨by (with_reducible repeat (first | apply Kd.R_alloc | apply Kd.R_drewN | apply Kd.R_drew)); exact HO179.out⟩, ⟨by repeat (first | (with_reducible first | exact HB.out | apply below_alloc | apply pw_below_drewN | apply below_drew1) | exact HB.out)⟩⟩
 clear H'
 try clear c1
 try clear p2
 try clear c5
 try clear p6
 try clear c9
 try clear c11
 try clear c11b0
 try clear c11b1
 try clear c12
 try clear c12b0
 try clear c12b1
 try clear p2
 obtain ⟨x7_2, x34_2, rfl, HA, HK2, HO_7, HB⟩ := hrel
 have hl7_2 := (Kd.R_reads' HO_7.out).1
 rw [hl7_2] at HO_7
 (try simp only [hl7_2])
 cases gk with
 | zero => exact absurd HA.out (by simp [impl_BestCuts.l0])
 | succ k2 => ?_
 have H := HA.out
 clear HA
 simp only [impl_BestCuts.l0] at H
 by_cases c16 : x34_2 < (y177.length : Int)
 ·rw [if_pos c16] at H
  have c16b0 : decide (x34_2 < (y177.length : Int)) = true := decide_eq_true c16
  (try (have c16l0 := c16b0; simp only [hl7_2] at c16l0))
  clear c16
  by_cases c17 : 0 ≤ x34_2
  rotate_left
  ·rw [if_neg c17] at H
   exact absurd H (by simp)
  rw [if_pos c17] at H
  have c17b0 : decide (0 ≤ x34_2) = true := decide_eq_true c17
  clear c17
  by_cases c18 : x34_2 < (x7_2.length : Int)
  rotate_left
  ·rw [if_neg c18] at H
   exact absurd H (by simp)
  rw [if_pos c18] at H
  have c18b0 : decide (x34_2 < (x7_2.length : Int)) = true := decide_eq_true c18
  (try (have c18l0 := c18b0; simp only [hl7_2] at c18l0))
  clear c18
  obtain ⟨y180, hy180⟩ : ∃ y_ : List (S60), y_ = (x7_2.set (x34_2 : Int).toNat (⟨true, (rd_T60 x7_2 x34_2).f1, (rd_T60 x7_2 x34_2).f2⟩ : S60)) := ⟨_, rfl⟩
  replace H : (impl_BestCuts.l0 k2 l0 a1 y180 (y177.length : Int) (wrap64 (x34_2 + 1))) = some (r1, r2, r3) := by first | (rw [hy180]; with_reducible exact H) | (have H2_ := (Option.bind_some _ _).symm.trans H; rw [hy180]; with_reducible exact H2_) | (have H2_ := (Option.bind_some _ _).symm.trans H; with_reducible exact H2_) | with_reducible exact H | (rw [hy180]; exact H) | exact H
  have Ny180 := Aside0.mk hy180
  clear hy180
  have H' := Aside0.mk H
  clear H
  have p19 : 0 ≤ (x34_2 : Int) := of_decide_eq_true (by first | (with_reducible assumption) | assumption)
  have q19 : (x34_2 : Int) < ((x7_2.length : Int) : Int) := of_decide_eq_true (by first | (with_reducible assumption) | assumption)
  obtain ⟨go19, co19, eo19, gb19, gl19, cl19, HG19⟩ := Kd.R_form HO_7.out (by omega)
  (first | cases eo19 | (injection eo19 with ea_ en_ ec_; (first | subst ea_ | (injection ea_ with ea_; subst ea_)); subst ec_; clear en_))
  have GB19 := Aside0.mk gb19
  have GG19 := Aside0.mk HG19
  clear gb19 gl19 HG19
  obtain ⟨ce19, hcl19, hM19, hcc19, hfr19⟩ := Kd.R_elem HO_7.out z60 (x34_2 : Int) p19 q19
  obtain rfl := k60_openM hM19
  have hx19_0 : wr.cell? ⟨go19, (x34_2 : Int).toNat * 3, none⟩ = some (.bool ((rd_T60 x7_2 x34_2).f0)) := hcc19 0 _ rfl
  have hx19_1 : wr.cell? ⟨go19, (x34_2 : Int).toNat * 3 + 1, none⟩ = some (.float .f32 ((rd_T60 x7_2 x34_2).f1)) := hcc19 1 _ rfl
  have hx19_2 : wr.cell? ⟨go19, (x34_2 : Int).toNat * 3 + 2, none⟩ = some (.int .i64 ((rd_T60 x7_2 x34_2).f2)) := hcc19 2 _ rfl
  have hf19_0 : wr.frozen? ⟨go19, (x34_2 : Int).toNat * 3, none⟩ = false := hfr19 0
  have hf19_1 : wr.frozen? ⟨go19, (x34_2 : Int).toNat * 3 + 1, none⟩ = false := hfr19 1
  have hf19_2 : wr.frozen? ⟨go19, (x34_2 : Int).toNat * 3 + 2, none⟩ = false := hfr19 2
  clear hcl19 hcc19 hfr19; (try clear hM19)
  replace p19 := eq_true p19
  replace q19 := eq_true q19
  have HX20 := Aside0.mk (show Kd.R k60 60 wr w.heap.size (fun _ => True) (.slice (some ⟨go19, 0, none⟩) x7_2.length co15) x7_2 from (by (with_reducible repeat (first | apply Kd.R_alloc | apply Kd.R_drewN | apply Kd.R_drew)); exact HO_7.out))
  obtain ⟨ce20, hcl20, hM20, hcc20, hfr20⟩ := Kd.R_elem HX20.out z60 (x34_2 : Int) (of_decide_eq_true (by first | (with_reducible assumption) | assumption)) (by have h_ : (x34_2 : Int) < ((x7_2.length : Int) : Int) := of_decide_eq_true (by first | (with_reducible assumption) | assumption); first | exact h_ | (have e_ := (Kd.R_reads' HO_7.out).1; omega) | simpa using h_)
  obtain rfl := k60_openM hM20
  have HP20 := Kd.R_seg HX20.out (x34_2 : Int) (of_decide_eq_true (by first | (with_reducible assumption) | assumption)) (by have h_ : (x34_2 : Int) < ((x7_2.length : Int) : Int) := of_decide_eq_true (by first | (with_reducible assumption) | assumption); first | exact h_ | (have e_ := (Kd.R_reads' HO_7.out).1; omega) | simpa using h_) (seg := [.bool true]) (j := 0) hcl20 hcc20 (show 1 ≤ 3 from by decide) (x' := (⟨true, (rd_T60 x7_2 x34_2).f1, (rd_T60 x7_2 x34_2).f2⟩ : S60)) (k60_mkM _ _ _ (⟨true, (rd_T60 x7_2 x34_2).f1, (rd_T60 x7_2 x34_2).f2⟩ : S60) ) (fun _ hk => hk)
  have hx20_0 := hcc20 0 _ rfl
  (try simp only [show (k60).sz = 3 from rfl, Nat.mul_one, Nat.add_zero] at hx20_0)
  have hf20_0 := hfr20 0
  (try simp only [show (k60).sz = 3 from rfl, Nat.mul_one, Nat.add_zero] at hf20_0)
  clear hcl20 hcc20 hfr20; (try clear hM20)
  go_wp2_with (first | ((with_reducible refine gate_store (t := 4) (p := 40) rfl ?_); (try (rw [drewN_self wr]; generalize hq_ : World.drewN wr _ = wr; have n0_ := Aside0.mk (Kd.R_at hq_ HO_7.out); have n1_ := Aside0.mk (below_at hq_ HB.out); clear hq_ HO_7 HB; have HO_7 := n0_; have HB := n1_; clear n0_ n1_; (try (have HX20 := Aside0.mk (show Kd.R k60 60 wr w.heap.size (fun _ => True) (.slice (some ⟨go19, 0, none⟩) x7_2.length co15) x7_2 from (by (with_reducible repeat (first | apply Kd.R_alloc | apply Kd.R_drewN | apply Kd.R_drew)); exact HO_7.out)))); (try (obtain ⟨ce20, hcl20, hM20, hcc20, hfr20⟩ := Kd.R_elem HX20.out z60 (x34_2 : Int) (of_decide_eq_true (by first | (with_reducible assumption) | assumption)) (by have h_ : (x34_2 : Int) < ((x7_2.length : Int) : Int) := of_decide_eq_true (by first | (with_reducible assumption) | assumption); first | exact h_ | (have e_ := (Kd.R_reads' HO_7.out).1; omega) | simpa using h_))); (try (obtain rfl := k60_openM hM20)); (try (have HP20 := Kd.R_seg HX20.out (x34_2 : Int) (of_decide_eq_true (by first | (with_reducible assumption) | assumption)) (by have h_ : (x34_2 : Int) < ((x7_2.length : Int) : Int) := of_decide_eq_true (by first | (with_reducible assumption) | assumption); first | exact h_ | (have e_ := (Kd.R_reads' HO_7.out).1; omega) | simpa using h_) (seg := [.bool true]) (j := 0) hcl20 hcc20 (show 1 ≤ 3 from by decide) (x' := (⟨true, (rd_T60 x7_2 x34_2).f1, (rd_T60 x7_2 x34_2).f2⟩ : S60)) (k60_mkM _ _ _ (⟨true, (rd_T60 x7_2 x34_2).f1, (rd_T60 x7_2 x34_2).f2⟩ : S60) ) (fun _ hk => hk))); (try (have hx20_0 := hcc20 0 _ rfl)); (try (try simp only [show (k60).sz = 3 from rfl, Nat.mul_one, Nat.add_zero] at hx20_0)); (try (have hf20_0 := hfr20 0)); (try (try simp only [show (k60).sz = 3 from rfl, Nat.mul_one, Nat.add_zero] at hf20_0)); (try (clear hcl20 hcc20 hfr20; (try clear hM20))))); refine store_event (t := 4) (p := 40) (v := ?vo_w21) (w1 := (wr.setCell ⟨go19, (x34_2 : Int).toNat * 3, none⟩ (.bool true))) ?hg ?ho ?hn ?hr ?_; (case ho => rfl); (case hg => rfl); (case hn => rfl); (case hr => first | (go_simp; done) | (go_simp; rfl)); intro w21 hw; have hg : wr.grownBy w21 (some go19) := (by rw [hw]; exact HP20.2); have hp_ : Kd.R k60 60 w21 w.heap.size (fun _ => True) (.slice (some ⟨go19, 0, none⟩) x7_2.length co15) y180 := (by rw [hw, Ny180.out]; exact HP20.1); clear HP20; have n0_ := Aside0.mk (hp_); have n1_ := Aside0.mk ((by rw [hw]; exact below_set (HB.out) GB19.out : Below w.heap.size w w21)); clear HO_7; clear HB; have HO_7 := n0_; have HB := n1_; clear n0_ n1_; clear hg hw hp_))
  (try simp only [← hl7_2])
  subst hji10
  go_roundg k2
  case measure => have := HJ2.out; have := HK2.out; omega
  case rel => exact ⟨(y180), (wrap64 (x34_2 + 1)), (by first|rfl|(simp; done)|(simp [*]; done)), H', ⟨by have := HJ2.out; have := HK2.out; omega⟩, ⟨by (try simp only [hl7_2]); (with_reducible repeat (first | apply Kd.R_alloc | apply Kd.R_drewN | apply Kd.R_drew)); exact HO_7.out⟩, ⟨by repeat (first | (with_reducible first | exact HB.out | apply below_alloc | apply pw_below_drewN | apply below_drew1) | exact HB.out)⟩⟩
 rw [if_neg c16] at H
 have c16b0 : decide (x34_2 < (y177.length : Int)) = false := decide_eq_false c16
 (try (have c16l0 := c16b0; simp only [hl7_2] at c16l0))
 clear c16
 obtain ⟨y181, hy181⟩ : ∃ y_ : List (List (S60)), y_ = (([] : List (List (S60)))) := ⟨_, rfl⟩
 replace H : (impl_BestCuts.l1 k2 l0 a1 x7_2 y181 l0 (l0.length : Int) 0) = some (r1, r2, r3) := by first | (rw [hy181]; with_reducible exact H) | (have H2_ := (Option.bind_some _ _).symm.trans H; rw [hy181]; with_reducible exact H2_) | (have H2_ := (Option.bind_some _ _).symm.trans H; with_reducible exact H2_) | with_reducible exact H | (rw [hy181]; exact H) | exact H
 have Ny181 := Aside0.mk hy181
 clear hy181
 have H' := Aside0.mk H
 clear H
 go_wp2_with (first | ((with_reducible refine gate_dst (N := 42) rfl ?_); refine Kd.S_lit (Kd.slice 60 k60) _ 58 ?hg (N := 42) ?hd (xs := ([] : List (List (S60)))) (inner := []) (ok := fun _ => True) (okp := fun _ => True) ?hr ?hp (fun _ hk => hk) trivial (Below.refl _ _) (Nat.le_refl _) (by simp) ?_; (case hd => rfl); (case hg => rfl); (case hr => first | (go_simp; done) | (go_simp; rfl)); (case hp => exact (Reps.none _ _)); intro v182 w22 ho23 hb hg_ hnew_; clear hg_ hnew_; (first | rw [← Ny181.out] at ho23 | (simp only [Int.reduceToNat] at ho23; rw [← Ny181.out] at ho23)); have n0_ := Aside0.mk (Kd.R_below (by (with_reducible repeat (first | apply Kd.R_alloc | apply Kd.R_drewN | apply Kd.R_drew)); exact HO_7.out) hb); have n1_ := Aside0.mk (Kd.S_lower (Kd.S_new' ho23 (Kd.R_lt (by (with_reducible repeat (first | apply Kd.R_alloc | apply Kd.R_drewN | apply Kd.R_drew)); exact HO_7.out))) (below_size (by repeat (first | (with_reducible first | exact HB.out | apply below_alloc | apply pw_below_drewN | apply below_drew1) | exact HB.out)))); have n2_ := Aside0.mk (below_step (by repeat (first | (with_reducible first | exact HB.out | apply below_alloc | apply pw_below_drewN | apply below_drew1) | exact HB.out)) hb); clear HO_7; clear HB; have HO_7 := n0_; have HO183 := n1_; have HB := n2_; clear n0_ n1_ n2_; clear hb ho23))
 go_loopg [7, 9, 45] k2 (fun kq v7 v9 v45 w' => ∃ (x7_3 : List (S60)) (x9_3 : List (List (S60))) (x45_3 : Int), v45 = .int .i64 x45_3 ∧ Aside0 (impl_BestCuts.l1 kq l0 a1 x7_3 x9_3 l0 (l0.length : Int) x45_3 = some (r1, r2, r3)) ∧ Aside0 (kq ≤ k2) ∧ Aside0 (Kd.R k60 60 w' w.heap.size (fun _ => True) v7 x7_3) ∧ Aside0 (Kd.S (Kd.slice 60 k60) 58 w' w.heap.size (fun _ => True) v9 x9_3) ∧ Aside0 (Below w.heap.size w w'))
 case atStart => exact ⟨(x7_2), (y181), (0), (by first|rfl|(simp; done)|(simp [*]; done)), H', ⟨Nat.le_refl _⟩, ⟨by (try simp only [hl7_2]); (with_reducible repeat (first | apply Kd.R_alloc | apply Kd.R_drewN | apply Kd.R_drew)); exact HO_7.out⟩, ⟨by (try simp only [hl7_2]); (with_reducible repeat (first | apply Kd.S_alloc | apply Kd.S_drewN | apply Kd.S_drew)); exact Kd.S_mono HO183.out (fun _ hk => trivial)⟩, ⟨by repeat (first | (with_reducible first | exact HB.out | apply below_alloc | apply pw_below_drewN | apply below_drew1) | exact HB.out)⟩⟩
 clear H'
 try clear c1
 try clear p1
 try clear q1
 try clear hx1
 try clear c2
 try clear p2
 try clear hx2
 try clear hf2
 try clear c5
 try clear p6
 try clear c9
 try clear c11
 try clear c11b0
 try clear c11b1
 try clear c12
 try clear c12b0
 try clear c12b1
 try clear c16
 try clear c16b0
 try clear c17
 try clear c17b0
 try clear c18
 try clear c18b0
 try clear c19
 try clear p19
 try clear q19
 try clear hx19
 try clear hf19
 try clear c20
 try clear hx20
 try clear hf20
 try clear hx19_0
 try clear hx19_1
 try clear hx19_2
 try clear hx20_0
 try clear p19
 try clear p2
 try clear p6
 try clear q19
 obtain ⟨x7_3, x9_3, x45_3, rfl, HA, HK3, HO_7, HO_9, HB⟩ := hrel
 cases gk with
 | zero => exact absurd HA.out (by simp [impl_BestCuts.l1])
 | succ k3 => ?_
 have H := HA.out
 clear HA
 simp only [impl_BestCuts.l1] at H
 by_cases c24 : x45_3 < (l0.length : Int)
 rotate_left
 ·rw [if_neg c24] at H
  have c24b0 : decide (x45_3 < (l0.length : Int)) = false := decide_eq_false c24
  (try (have c24l0 := c24b0; simp only [hl7_2] at c24l0))
  clear c24
  have HC71 := Aside0.mk H
  clear H
  go_upto_region 29 with (fail)
  go_cut [133] (fun v133 wc => ∃ (kq : Nat) (x133_70 : Bool), v133 = .bool x133_70 ∧ Aside0 (impl_BestCuts.j6 kq l0 a1 x7_3 x9_3 x133_70 = some (r1, r2, r3)) ∧ Aside0 (kq ≤ k3) ∧ Aside0 (Kd.R k60 60 wc w.heap.size (fun _ => True) u7 x7_3) ∧ Aside0 (Kd.S (Kd.slice 60 k60) 58 wc w.heap.size (fun _ => True) u9 x9_3) ∧ Aside0 (Below w.heap.size w wc))
  case first =>
   have H := HC71.out
   clear HC71
   by_cases c72 : 0 ≤ a1
   rotate_left
   ·rw [if_neg c72] at H
    exact absurd H (by simp)
   rw [if_pos c72] at H
   have c72b0 : decide (0 ≤ a1) = true := decide_eq_true c72
   clear c72
   (first | rw [c72b0] | (simp only [i64_w, i32_w]; rw [c72b0]) | skip)
   by_cases c73 : a1 < (x7_3.length : Int)
   rotate_left
   ·rw [if_neg c73] at H
    exact absurd H (by simp)
   rw [if_pos c73] at H
   have c73b0 : decide (a1 < (x7_3.length : Int)) = true := decide_eq_true c73
   (try (have c73l0 := c73b0; simp only [hl7_2] at c73l0))
   clear c73
   obtain ⟨bq74, hbq74⟩ : ∃ b_ : Bool, b_ = ((rd_T60 x7_3 a1).f0) := ⟨_, rfl⟩
   replace H : (if (bq74 = true) then ((impl_IsFinite.f ((rd_T60 x7_3 a1).f1)).bind fun t202 => (impl_BestCuts.j6 k3 l0 a1 x7_3 x9_3 (!t202))) else (impl_BestCuts.j6 k3 l0 a1 x7_3 x9_3 true)) = some (r1, r2, r3) := by rw [← hbq74] at H; exact H
   have Nbq74 := Aside0.mk hbq74
   clear hbq74
   by_cases c75 : (bq74 = true)
   rotate_left
   ·replace c75 := Bool.eq_false_iff.mpr c75
    subst c75
    have H1 : (impl_BestCuts.j6 k3 l0 a1 x7_3 x9_3 true) = some (r1, r2, r3) := by rw [if_neg (show ¬ (false = true) by decide)] at H; exact H
    clear H
    have H := H1
    clear H1
    have H' := Aside0.mk H
    clear H
    obtain ⟨Ao78, co78, eo78⟩ := Kd.R_slice HO_7.out
    subst eo78
    have p200 : 0 ≤ (a1 : Int) := of_decide_eq_true (by first | (with_reducible assumption) | assumption)
    have q200 : a1 < (x7_3.length : Int) := of_decide_eq_true (by first | (with_reducible assumption) | assumption)
    obtain ⟨ad200, e200, hx200_0, hx200_1, hx200_2⟩ := at_T60 (Kd.R_reads' HO_7.out).2.2 a1 p200 q200
    (try rw [← Nbq74.out] at hx200_0)
    cases e200
    replace p200 := eq_true p200
    replace q200 := eq_true q200
    go_wp2
    subst hji10
    go_meet
    case rel => exact ⟨_, (true), (by first|rfl|(simp; done)|(simp [*]; done)), H', ⟨by have := HJ2.out; have := HK2.out; have := HK3.out; first | omega | exact Nat.le_refl _⟩, ⟨by (try simp only [hl7_2]); (with_reducible repeat (first | apply Kd.R_alloc | apply Kd.R_drewN | apply Kd.R_drew)); exact HO_7.out⟩, ⟨by (try simp only [hl7_2]); (with_reducible repeat (first | apply Kd.S_alloc | apply Kd.S_drewN | apply Kd.S_drew)); exact HO_9.out⟩, ⟨by repeat (first | (with_reducible first | exact HB.out | apply below_alloc | apply pw_below_drewN | apply below_drew1) | exact HB.out)⟩⟩
   subst c75
   have H1 : ((impl_IsFinite.f ((rd_T60 x7_3 a1).f1)).bind fun t202 => (impl_BestCuts.j6 k3 l0 a1 x7_3 x9_3 (!t202))) = some (r1, r2, r3) := by rw [if_pos rfl] at H; exact H
   clear H
   have H := H1
   clear H1
   replace H := Option.bind_eq_some_iff.mp H
   obtain ⟨t202, A760, H⟩ := H
   replace H : (impl_BestCuts.j6 k3 l0 a1 x7_3 x9_3 (!t202)) = some (r1, r2, r3) := H
   have A76 := Aside0.mk A760
   clear A760
   have H' := Aside0.mk H
   clear H
   obtain ⟨Ao77, co77, eo77⟩ := Kd.R_slice HO_7.out
   subst eo77
   have p200 : 0 ≤ (a1 : Int) := of_decide_eq_true (by first | (with_reducible assumption) | assumption)
   have q200 : a1 < (x7_3.length : Int) := of_decide_eq_true (by first | (with_reducible assumption) | assumption)
   obtain ⟨ad200, e200, hx200_0, hx200_1, hx200_2⟩ := at_T60 (Kd.R_reads' HO_7.out).2.2 a1 p200 q200
   (try rw [← Nbq74.out] at hx200_0)
   cases e200
   replace p200 := eq_true p200
   replace q200 := eq_true q200
   have p201 : 0 ≤ (a1 : Int) := of_decide_eq_true (by first | (with_reducible assumption) | assumption)
   have q201 : a1 < (x7_3.length : Int) := of_decide_eq_true (by first | (with_reducible assumption) | assumption)
   obtain ⟨ad201, e201, hx201_0, hx201_1, hx201_2⟩ := at_T60 (Kd.R_reads' HO_7.out).2.2 a1 p201 q201
   (try rw [← Nbq74.out] at hx201_0)
   obtain rfl : ad200 = ad201 := (by injection e201)
   replace p201 := eq_true p201
   replace q201 := eq_true q201
   go_wp2_with (first | (go_at_call 29; (with_reducible refine (impl_IsFinite.calls ((rd_T60 x7_3 a1).f1) t202 _ A76.out).mono ?_); rintro e w' ⟨rfl, ⟨nd, rfl⟩⟩; (try first | exact ⟨rfl, _, World.drewN_drewN _ _ _⟩ | exact ⟨rfl, _, Eq.trans (World.drewN_drewN _ _ _) (congrArg (World.drewN _) (Nat.add_assoc _ _ _))⟩)))
   subst hji10
   go_meet
   case rel => exact ⟨_, (!t202), (by first|rfl|(simp; done)|(simp [*]; done)), H', ⟨by have := HJ2.out; have := HK2.out; have := HK3.out; first | omega | exact Nat.le_refl _⟩, ⟨by (try simp only [hl7_2]); (with_reducible repeat (first | apply Kd.R_alloc | apply Kd.R_drewN | apply Kd.R_drew)); exact HO_7.out⟩, ⟨by (try simp only [hl7_2]); (with_reducible repeat (first | apply Kd.S_alloc | apply Kd.S_drewN | apply Kd.S_drew)); exact HO_9.out⟩, ⟨by repeat (first | (with_reducible first | exact HB.out | apply below_alloc | apply pw_below_drewN | apply below_drew1) | exact HB.out)⟩⟩
  clear HC71
  try clear c1
  try clear p1
  try clear q1
  try clear hx1
  try clear c2
  try clear p2
  try clear q2
  try clear hx2
  try clear hf2
  try clear c3
  try clear c4
  try clear c5
  try clear p5
  try clear q5
  try clear hx5
  try clear hf5
  try clear c6
  try clear p6
  try clear q6
  try clear hx6
  try clear hf6
  try clear c7
  try clear q7
  try clear c9
  try clear c11
  try clear c11b0
  try clear c11b1
  try clear c12
  try clear c12b0
  try clear c12b1
  try clear c16
  try clear c16b0
  try clear c17
  try clear c17b0
  try clear c18
  try clear c18b0
  try clear p18
  try clear q18
  try clear hx18
  try clear c19
  try clear p19
  try clear q19
  try clear hx19
  try clear hf19
  try clear c20
  try clear p20
  try clear q20
  try clear hx20
  try clear hf20
  try clear c24
  try clear c24b0
  try clear c25
  try clear c25b0
  try clear c26
  try clear c26b0
  try clear c28
  try clear c28b0
  try clear c28b1
  try clear c29
  try clear c29b0
  try clear c29b1
  try clear c33
  try clear c33b0
  try clear c34
  try clear c34b0
  try clear c35
  try clear c35b0
  try clear c36
  try clear c36b0
  try clear c40
  try clear c40b0
  try clear c43
  try clear c43b0
  try clear c44
  try clear c44b0
  try clear c47
  try clear c49
  try clear c49b0
  try clear c50
  try clear c50b0
  try clear c52
  try clear c52b0
  try clear c53
  try clear c53b0
  try clear q54
  try clear c55
  try clear c56
  try clear c56b0
  try clear c57
  try clear p57
  try clear q57
  try clear hx57
  try clear hf57
  try clear c60
  try clear hx60
  try clear hf60
  try clear c64
  try clear p64
  try clear q64
  try clear hx64
  try clear hf64
  try clear c67
  try clear hx67
  try clear hf67
  try clear c69
  try clear c72
  try clear c72b0
  try clear c73
  try clear c73b0
  try clear q74
  try clear c75
  try clear hcz39_0
  try clear hcz39_1
  try clear hcz41_0
  try clear hcz41_1
  try clear hcz45_0
  try clear hcz45_1
  try clear hcz58_0
  try clear hcz58_1
  try clear hcz62_0
  try clear hcz62_1
  try clear hcz65_0
  try clear hcz65_1
  try clear hfz39_0
  try clear hfz39_1
  try clear hfz41_0
  try clear hfz41_1
  try clear hfz45_0
  try clear hfz45_1
  try clear hfz58_0
  try clear hfz58_1
  try clear hfz62_0
  try clear hfz62_1
  try clear hfz65_0
  try clear hfz65_1
  try clear hx184_0
  try clear hx191_0
  try clear hx191_1
  try clear hx193_0
  try clear hx193_1
  try clear hx193_2
  try clear hx194_0
  try clear hx194_1
  try clear hx194_2
  try clear hx196_0
  try clear hx196_1
  try clear hx196_2
  try clear hx197_0
  try clear hx197_1
  try clear hx197_2
  try clear hx19_0
  try clear hx19_1
  try clear hx19_2
  try clear hx200_0
  try clear hx200_1
  try clear hx200_2
  try clear hx201_0
  try clear hx201_1
  try clear hx201_2
  try clear hx20_0
  try clear hx57_0
  try clear hx57_1
  try clear hx57_2
  try clear hx60_0
  try clear hx60_1
  try clear hx60_2
  try clear hx64_0
  try clear hx64_1
  try clear hx64_2
  try clear hx67_0
  try clear hx67_1
  try clear hx67_2
  try clear p1
  try clear p18
  try clear p184
  try clear p19
  try clear p191
  try clear p193
  try clear p194
  try clear p196
  try clear p197
  try clear p2
  try clear p200
  try clear p201
  try clear p57
  try clear p6
  try clear p64
  try clear q1
  try clear q18
  try clear q184
  try clear q19
  try clear q191
  try clear q193
  try clear q194
  try clear q196
  try clear q197
  try clear q200
  try clear q201
  try clear q57
  try clear q64
  obtain ⟨kq, x133_70, rfl, HA, HJ70, HO_7, HO_9, HB⟩ := hcut
  cases kq with
  | zero => exact absurd HA.out (by simp [impl_BestCuts.j6])
  | succ kj70 => ?_
  have H := HA.out
  clear HA
  simp only [impl_BestCuts.j6] at H
  by_cases c79 : x133_70 = true
  ·subst c79
   have H1 : (some (([] : List Int), 0, false)) = some (r1, r2, r3) := by rw [if_pos rfl] at H; exact H
   clear H
   have H := H1
   clear H1
   simp only [Option.some.injEq, Prod.mk.injEq] at H
   obtain ⟨rfl, rfl, rfl⟩ := H
   go_wp2
   go_ret3
   exact ⟨_, by first | rfl | (simp [errW_none, errW_some] <;> rfl) | (simp only [← hji10]; first | rfl | (simp [errW_none, errW_some] <;> rfl)) | (simp [*, errW_none, errW_some] <;> rfl), by first | exact Kd.R_nil _ _ _ _ _ | exact Kd.N_nil _ _ _ _ _ | exact Kd.V_nil _ _ _ _ _ | exact Kd.Q_nil _ _ _ _ _ | exact Kd.S_nil _ _ _ _ _, by repeat (first | (with_reducible first | exact HB.out | apply below_alloc | apply pw_below_drewN | apply below_drew1) | exact HB.out)⟩
  replace c79 := Bool.eq_false_iff.mpr c79
  subst c79
  have H1 : (if 0 ≤ (l0.length : Int) then (if ((l0.length : Int) : Int).toNat ≤ 35184372088832 then (impl_BestCuts.l4 kj70 l0 a1 x7_3 x9_3 (List.replicate ((l0.length : Int) : Int).toNat 0) a1 (wrap64 ((l0.length : Int) - 1))) else (none)) else (none)) = some (r1, r2, r3) := by rw [if_neg (show ¬ (false = true) by decide)] at H; exact H
  clear H
  have H := H1
  clear H1
  by_cases c80 : 0 ≤ (l0.length : Int)
  rotate_left
  ·rw [if_neg c80] at H
   exact absurd H (by simp)
  rw [if_pos c80] at H
  have c80b0 := eq_true c80
  have c80b1 : decide (0 ≤ (l0.length : Int)) = true := decide_eq_true c80
  clear c80
  by_cases c81 : ((l0.length : Int) : Int).toNat ≤ 35184372088832
  rotate_left
  ·rw [if_neg c81] at H
   exact absurd H (by simp)
  rw [if_pos c81] at H
  have c81b0 := eq_true c81
  have c81b1 : decide (((l0.length : Int) : Int).toNat ≤ 35184372088832) = true := decide_eq_true c81
  clear c81
  obtain ⟨y203, hy203⟩ : ∃ y_ : List Int, y_ = (List.replicate ((l0.length : Int) : Int).toNat 0) := ⟨_, rfl⟩
  replace H : (impl_BestCuts.l4 kj70 l0 a1 x7_3 x9_3 y203 a1 (wrap64 ((l0.length : Int) - 1))) = some (r1, r2, r3) := by first | (rw [hy203]; with_reducible exact H) | (have H2_ := (Option.bind_some _ _).symm.trans H; rw [hy203]; with_reducible exact H2_) | (have H2_ := (Option.bind_some _ _).symm.trans H; with_reducible exact H2_) | with_reducible exact H | (rw [hy203]; exact H) | exact H
  have Ny203 := Aside0.mk hy203
  clear hy203
  have H' := Aside0.mk H
  clear H
  go_wp2_with (first | ((with_reducible refine gate_dst (N := 136) rfl ?_); refine Kd.R_make (Kd.int .i64) _ 2 rfl (N := 136) rfl 28 _ _ rfl (l0.length : Int) rfl rfl Try.underlying28 (.int .i64 0) 8 info2 rfl (by decide) (by omega) 0 (ok := fun _ => True) (okp := fun _ => True) rfl (fun _ hk => hk) trivial (of_decide_eq_true (by first | (with_reducible assumption) | assumption)) (Nat.le_trans (Nat.mul_le_mul_right _ (of_decide_eq_true (by first | (with_reducible assumption) | assumption) : (l0.length : Int).toNat ≤ 35184372088832)) (by omega)) (Below.refl _ _) (Nat.le_refl _) ?_; intro v204 w82 ho83 hb hg_ hnew_; clear hg_ hnew_; (first | rw [← Ny203.out] at ho83 | (simp only [Int.reduceToNat] at ho83; rw [← Ny203.out] at ho83)); have n0_ := Aside0.mk (Kd.R_below (by (with_reducible repeat (first | apply Kd.R_alloc | apply Kd.R_drewN | apply Kd.R_drew)); exact HO_7.out) hb); have n1_ := Aside0.mk (Kd.S_below (by (with_reducible repeat (first | apply Kd.S_alloc | apply Kd.S_drewN | apply Kd.S_drew)); exact HO_9.out) hb); have n2_ := Aside0.mk (Kd.R_lower ho83 (below_size (by repeat (first | (with_reducible first | exact HB.out | apply below_alloc | apply pw_below_drewN | apply below_drew1) | exact HB.out)))); have n3_ := Aside0.mk (below_step (by repeat (first | (with_reducible first | exact HB.out | apply below_alloc | apply pw_below_drewN | apply below_drew1) | exact HB.out)) hb); clear HO_7; clear HO_9; clear HB; have HO_7 := n0_; have HO_9 := n1_; have HO205 := n2_; have HB := n3_; clear n0_ n1_ n2_ n3_; clear hb ho83))
  go_loopg [18, 19] kj70 (fun kq v18 v19 w' => ∃ (x17_5 : List Int) (x18_5 : Int) (x19_5 : Int), v18 = .int .i64 x18_5 ∧ v19 = .int .i64 x19_5 ∧ Aside0 (impl_BestCuts.l4 kq l0 a1 x7_3 x9_3 x17_5 x18_5 x19_5 = some (r1, r2, r3)) ∧ Aside0 (kq ≤ kj70) ∧ Aside0 (Kd.R k60 60 w' w.heap.size (fun _ => True) u7 x7_3) ∧ Aside0 (Kd.S (Kd.slice 60 k60) 58 w' w.heap.size (fun _ => True) u9 x9_3) ∧ Aside0 (Kd.R (Kd.int .i64) 2 w' w.heap.size (fun _ => True) v204 x17_5) ∧ Aside0 (Below w.heap.size w w'))
  case atStart => exact ⟨(y203), (a1), (wrap64 ((l0.length : Int) - 1)), (by first|rfl|(simp; done)|(simp [*]; done)), (by first|rfl|(simp; done)|(simp [*]; done)), H', ⟨Nat.le_refl _⟩, ⟨by (try simp only [hl7_2]); (with_reducible repeat (first | apply Kd.R_alloc | apply Kd.R_drewN | apply Kd.R_drew)); exact HO_7.out⟩, ⟨by (try simp only [hl7_2]); (with_reducible repeat (first | apply Kd.S_alloc | apply Kd.S_drewN | apply Kd.S_drew)); exact HO_9.out⟩, ⟨by (try simp only [hl7_2]); (with_reducible repeat (first | apply Kd.R_alloc | apply Kd.R_drewN | apply Kd.R_drew)); exact HO205.out⟩, ⟨by repeat (first | (with_reducible first | exact HB.out | apply below_alloc | apply pw_below_drewN | apply below_drew1) | exact HB.out)⟩⟩
  clear H'
  try clear c1
  try clear p1
  try clear q1
  try clear hx1
  try clear c2
  try clear p2
  try clear q2
  try clear hx2
  try clear hf2
  try clear c3
  try clear c4
  try clear c5
  try clear p5
  try clear q5
  try clear hx5
  try clear hf5
  try clear c6
  try clear p6
  try clear q6
  try clear hx6
  try clear hf6
  try clear c7
  try clear q7
  try clear c8
  try clear c9
  try clear c11
  try clear c11b0
  try clear c11b1
  try clear c12
  try clear c12b0
  try clear c12b1
  try clear c16
  try clear c16b0
  try clear c17
  try clear c17b0
  try clear c18
  try clear c18b0
  try clear p18
  try clear q18
  try clear hx18
  try clear c19
  try clear p19
  try clear q19
  try clear hx19
  try clear hf19
  try clear c20
  try clear p20
  try clear q20
  try clear hx20
  try clear hf20
  try clear c24
  try clear c24b0
  try clear c25
  try clear c25b0
  try clear c26
  try clear c26b0
  try clear c28
  try clear c28b0
  try clear c28b1
  try clear c29
  try clear c29b0
  try clear c29b1
  try clear c33
  try clear c33b0
  try clear c34
  try clear c34b0
  try clear c35
  try clear c35b0
  try clear c36
  try clear c36b0
  try clear c40
  try clear c40b0
  try clear c43
  try clear c43b0
  try clear c44
  try clear c44b0
  try clear c47
  try clear c49
  try clear c49b0
  try clear c50
  try clear c50b0
  try clear c52
  try clear c52b0
  try clear c53
  try clear c53b0
  try clear q54
  try clear c55
  try clear c56
  try clear c56b0
  try clear c57
  try clear p57
  try clear q57
  try clear hx57
  try clear hf57
  try clear c60
  try clear hx60
  try clear hf60
  try clear c64
  try clear p64
  try clear q64
  try clear hx64
  try clear hf64
  try clear c67
  try clear hx67
  try clear hf67
  try clear c69
  try clear c72
  try clear c72b0
  try clear c73
  try clear c73b0
  try clear q74
  try clear c75
  try clear c79
  try clear c80
  try clear c80b0
  try clear c80b1
  try clear c81
  try clear c81b0
  try clear c81b1
  try clear hcz39_0
  try clear hcz39_1
  try clear hcz41_0
  try clear hcz41_1
  try clear hcz45_0
  try clear hcz45_1
  try clear hcz58_0
  try clear hcz58_1
  try clear hcz62_0
  try clear hcz62_1
  try clear hcz65_0
  try clear hcz65_1
  try clear hfz39_0
  try clear hfz39_1
  try clear hfz41_0
  try clear hfz41_1
  try clear hfz45_0
  try clear hfz45_1
  try clear hfz58_0
  try clear hfz58_1
  try clear hfz62_0
  try clear hfz62_1
  try clear hfz65_0
  try clear hfz65_1
  try clear hx184_0
  try clear hx191_0
  try clear hx191_1
  try clear hx193_0
  try clear hx193_1
  try clear hx193_2
  try clear hx194_0
  try clear hx194_1
  try clear hx194_2
  try clear hx196_0
  try clear hx196_1
  try clear hx196_2
  try clear hx197_0
  try clear hx197_1
  try clear hx197_2
  try clear hx19_0
  try clear hx19_1
  try clear hx19_2
  try clear hx200_0
  try clear hx200_1
  try clear hx200_2
  try clear hx201_0
  try clear hx201_1
  try clear hx201_2
  try clear hx20_0
  try clear hx57_0
  try clear hx57_1
  try clear hx57_2
  try clear hx60_0
  try clear hx60_1
  try clear hx60_2
  try clear hx64_0
  try clear hx64_1
  try clear hx64_2
  try clear hx67_0
  try clear hx67_1
  try clear hx67_2
  try clear p1
  try clear p18
  try clear p184
  try clear p19
  try clear p191
  try clear p193
  try clear p194
  try clear p196
  try clear p197
  try clear p2
  try clear p20
  try clear p200
  try clear p201
  try clear p5
  try clear p57
  try clear p6
  try clear p64
  try clear q1
  try clear q18
  try clear q184
  try clear q19
  try clear q191
  try clear q193
  try clear q194
  try clear q196
  try clear q197
  try clear q2
  try clear q20
  try clear q200
  try clear q201
  try clear q5
  try clear q54
  try clear q57
  try clear q6
  try clear q64
  try clear q7
  try clear q74
  obtain ⟨x17_5, x18_5, x19_5, rfl, rfl, HA, HK5, HO_7, HO_9, HO_17, HB⟩ := hrel
  cases gk with
  | zero => exact absurd HA.out (by simp [impl_BestCuts.l4])
  | succ k5 => ?_
  have H := HA.out
  clear HA
  simp only [impl_BestCuts.l4] at H
  by_cases c84 : x19_5 ≥ 0
  rotate_left
  ·rw [if_neg c84] at H
   have c84b0 : decide (0 ≤ x19_5) = false := decide_eq_false c84
   clear c84
   by_cases c97 : 0 ≤ a1
   rotate_left
   ·rw [if_neg c97] at H
    exact absurd H (by simp)
   rw [if_pos c97] at H
   have c97b0 : decide (0 ≤ a1) = true := decide_eq_true c97
   clear c97
   by_cases c98 : a1 < (x7_3.length : Int)
   rotate_left
   ·rw [if_neg c98] at H
    exact absurd H (by simp)
   rw [if_pos c98] at H
   have c98b0 : decide (a1 < (x7_3.length : Int)) = true := decide_eq_true c98
   (try (have c98l0 := c98b0; simp only [hl7_2] at c98l0))
   clear c98
   simp only [Option.some.injEq, Prod.mk.injEq] at H
   obtain ⟨rfl, rfl, rfl⟩ := H
   obtain ⟨Ao99, co99, eo99⟩ := Kd.R_slice HO_7.out
   subst eo99
   have p211 : 0 ≤ (a1 : Int) := of_decide_eq_true (by first | (with_reducible assumption) | assumption)
   have q211 : a1 < (x7_3.length : Int) := of_decide_eq_true (by first | (with_reducible assumption) | assumption)
   obtain ⟨ad211, e211, hx211_0, hx211_1, hx211_2⟩ := at_T60 (Kd.R_reads' HO_7.out).2.2 a1 p211 q211
   cases e211
   replace p211 := eq_true p211
   replace q211 := eq_true q211
   go_wp2
   repeat (go_quiet (fail); try go_wp2)
   go_ret3
   exact ⟨_, by first | rfl | (simp [errW_none, errW_some] <;> rfl) | (simp only [← hji10]; first | rfl | (simp [errW_none, errW_some] <;> rfl)) | (simp [*, errW_none, errW_some] <;> rfl), by (with_reducible repeat (first | apply Kd.R_alloc | apply Kd.R_drewN | apply Kd.R_drew)); exact HO_17.out, by repeat (first | (with_reducible first | exact HB.out | apply below_alloc | apply pw_below_drewN | apply below_drew1) | exact HB.out)⟩
  rw [if_pos c84] at H
  have c84b0 : decide (0 ≤ x19_5) = true := decide_eq_true c84
  clear c84
  by_cases c85 : 0 ≤ x19_5
  rotate_left
  ·rw [if_neg c85] at H
   exact absurd H (by simp)
  rw [if_pos c85] at H
  have c85b0 : decide (0 ≤ x19_5) = true := decide_eq_true c85
  clear c85
  by_cases c86 : x19_5 < (x9_3.length : Int)
  rotate_left
  ·rw [if_neg c86] at H
   exact absurd H (by simp)
  rw [if_pos c86] at H
  have c86b0 : decide (x19_5 < (x9_3.length : Int)) = true := decide_eq_true c86
  (try (have c86l0 := c86b0; simp only [hl7_2] at c86l0))
  clear c86
  by_cases c87 : 0 ≤ x18_5
  rotate_left
  ·rw [if_neg c87] at H
   exact absurd H (by simp)
  rw [if_pos c87] at H
  have c87b0 : decide (0 ≤ x18_5) = true := decide_eq_true c87
  clear c87
  by_cases c88 : x18_5 < ((rd_L7 x9_3 x19_5).length : Int)
  rotate_left
  ·rw [if_neg c88] at H
   exact absurd H (by simp)
  rw [if_pos c88] at H
  have c88b0 : decide (x18_5 < ((rd_L7 x9_3 x19_5).length : Int)) = true := decide_eq_true c88
  (try (have c88l0 := c88b0; simp only [hl7_2] at c88l0))
  clear c88
  by_cases c89 : x19_5 < (x17_5.length : Int)
  rotate_left
  ·rw [if_neg c89] at H
   exact absurd H (by simp)
  rw [if_pos c89] at H
  have c89b0 : decide (x19_5 < (x17_5.length : Int)) = true := decide_eq_true c89
  (try (have c89l0 := c89b0; simp only [hl7_2] at c89l0))
  clear c89
  obtain ⟨y208, hy208⟩ : ∃ y_ : List Int, y_ = (x17_5.set (x19_5 : Int).toNat ((rd_T60 (rd_L7 x9_3 x19_5) x18_5).f2)) := ⟨_, rfl⟩
  replace H : (if x19_5 < (l0.length : Int) then (if 0 ≤ ((rd_T60 (rd_L7 x9_3 x19_5) x18_5).f2) then (if ((rd_T60 (rd_L7 x9_3 x19_5) x18_5).f2) < ((rd_L4 l0 x19_5).length : Int) then (impl_BestCuts.l4 k5 l0 a1 x7_3 x9_3 y208 (wrap64 (x18_5 - ((rd_T34 (rd_L4 l0 x19_5) ((rd_T60 (rd_L7 x9_3 x19_5) x18_5).f2)).f0))) (wrap64 (x19_5 - 1))) else (none)) else (none)) else (none)) = some (r1, r2, r3) := by first | (rw [hy208]; with_reducible exact H) | (have H2_ := (Option.bind_some _ _).symm.trans H; rw [hy208]; with_reducible exact H2_) | (have H2_ := (Option.bind_some _ _).symm.trans H; with_reducible exact H2_) | with_reducible exact H | (rw [hy208]; exact H) | exact H
  have Ny208 := Aside0.mk hy208
  clear hy208
  by_cases c91 : x19_5 < (l0.length : Int)
  rotate_left
  ·rw [if_neg c91] at H
   exact absurd H (by simp)
  rw [if_pos c91] at H
  have c91b0 : decide (x19_5 < (l0.length : Int)) = true := decide_eq_true c91
  (try (have c91l0 := c91b0; simp only [hl7_2] at c91l0))
  clear c91
  by_cases c92 : 0 ≤ ((rd_T60 (rd_L7 x9_3 x19_5) x18_5).f2)
  rotate_left
  ·rw [if_neg c92] at H
   exact absurd H (by simp)
  rw [if_pos c92] at H
  have c92b0 : decide (0 ≤ ((rd_T60 (rd_L7 x9_3 x19_5) x18_5).f2)) = true := decide_eq_true c92
  clear c92
  by_cases c93 : ((rd_T60 (rd_L7 x9_3 x19_5) x18_5).f2) < ((rd_L4 l0 x19_5).length : Int)
  rotate_left
  ·rw [if_neg c93] at H
   exact absurd H (by simp)
  rw [if_pos c93] at H
  have c93b0 : decide (((rd_T60 (rd_L7 x9_3 x19_5) x18_5).f2) < ((rd_L4 l0 x19_5).length : Int)) = true := decide_eq_true c93
  (try (have c93l0 := c93b0; simp only [hl7_2] at c93l0))
  clear c93
  have H' := Aside0.mk H
  clear H
  obtain ⟨Ao94, co94, eo94⟩ := Kd.S_slice HO_9.out
  subst eo94
  have p206 : 0 ≤ (x19_5 : Int) := of_decide_eq_true (by first | (with_reducible assumption) | assumption)
  have q206 : x19_5 < (x9_3.length : Int) := of_decide_eq_true (by first | (with_reducible assumption) | assumption)
  obtain ⟨ad206, A206_0, c206_0, e206, hx206_0, hl206_0, hi206_0⟩ := at_L7 (Kd.S_reads' HO_9.out).2.2 x19_5 p206 q206
  cases e206
  obtain ⟨ce206, hce206, hMe206, hcc206⟩ := Kd.S_get HO_9.out [] x19_5 p206 (by first | exact q206 | exact of_decide_eq_true (by first | (with_reducible assumption) | assumption) | (have e_ := (Kd.S_reads' HO_9.out).1; omega))
  obtain ⟨ve206_0, rfl, ge206_0⟩ := hMe206
  have hv206_0 := hcc206 0 _ rfl
  rw [Nat.add_zero, show ((Kd.slice 60 k60)).sz = 1 from rfl, Nat.mul_one] at hv206_0
  replace hv206_0 := Option.some.inj (hv206_0.symm.trans hx206_0)
  rw [hv206_0] at ge206_0
  have HL206_0 := Aside0.mk (show Kd.R k60 60 _ _ _ _ (rd_L7 x9_3 x19_5) from ge206_0)
  clear hv206_0 ge206_0
  clear hcc206 hce206
  have HR206_0 := Aside0.mk hi206_0
  have HC206_0 := Aside0.mk hl206_0
  clear hi206_0 hl206_0
  replace p206 := eq_true p206
  replace q206 := eq_true q206
  have p207 : 0 ≤ (x18_5 : Int) := of_decide_eq_true (by first | (with_reducible assumption) | assumption)
  have q207 : x18_5 < ((rd_L7 x9_3 x19_5).length : Int) := of_decide_eq_true (by first | (with_reducible assumption) | assumption)
  obtain ⟨ad207, e207, hx207_0, hx207_1, hx207_2⟩ := at_T60 (by repeat (first | (with_reducible exact HR206_0.out) | (with_reducible refine Kd.C_alloc ?_ _) | (with_reducible refine Kd.C_drewN ?_ _) | (with_reducible refine Kd.C_drew ?_) | exact HR206_0.out)) x18_5 p207 q207
  cases e207
  replace p207 := eq_true p207
  replace q207 := eq_true q207
  have p90 : 0 ≤ (x19_5 : Int) := of_decide_eq_true (by first | (with_reducible assumption) | assumption)
  have q90 : (x19_5 : Int) < ((x17_5.length : Int) : Int) := of_decide_eq_true (by first | (with_reducible assumption) | assumption)
  obtain ⟨go90, co90, eo90, gb90, gl90, cl90, HG90⟩ := Kd.R_form HO_17.out (by omega)
  (first | cases eo90 | (injection eo90 with ea_ en_ ec_; (first | subst ea_ | (injection ea_ with ea_; subst ea_)); subst ec_; clear en_))
  have GB90 := Aside0.mk gb90
  have GG90 := Aside0.mk HG90
  clear gb90 gl90 HG90
  obtain ⟨hx90_0, hf90_0⟩ := Kd.R_celln 0 HO_17.out (x19_5 : Int) p90 q90
  replace p90 := eq_true p90
  replace q90 := eq_true q90
  have HP95 := Kd.R_putg HO_17.out (x19_5 : Int) ((rd_T60 (rd_L7 x9_3 x19_5) x18_5).f2)
  go_wp2_with (first | ((with_reducible refine gate_store (t := 2) (p := 156) rfl ?_); (try (rw [drewN_self wr]; generalize hq_ : World.drewN wr _ = wr; have n0_ := Aside0.mk (Kd.R_at hq_ HO_7.out); have n1_ := Aside0.mk (Kd.S_at hq_ HO_9.out); have n2_ := Aside0.mk (Kd.R_at hq_ HO_17.out); have n3_ := Aside0.mk (Kd.R_at hq_ HL206_0.out); have n4_ := Aside0.mk (below_at hq_ HB.out); clear hq_ HO_7 HO_9 HO_17 HL206_0 HB; have HO_7 := n0_; have HO_9 := n1_; have HO_17 := n2_; have HL206_0 := n3_; have HB := n4_; clear n0_ n1_ n2_ n3_ n4_; (try (have HP95 := Kd.R_putg HO_17.out (x19_5 : Int) ((rd_T60 (rd_L7 x9_3 x19_5) x18_5).f2))))); refine store_event (t := 2) (p := 156) (v := ?vo_w96) (w1 := (wr.setCell ⟨go90, (x19_5 : Int).toNat, none⟩ (.int .i64 ((rd_T60 (rd_L7 x9_3 x19_5) x18_5).f2)))) ?hg ?ho ?hn ?hr ?_; (case ho => rfl); (case hg => rfl); (case hn => rfl); (case hr => first | (go_simp; done) | (go_simp; rfl)); intro w96 hw; have hg : wr.grownBy w96 (some go90) := (by rw [hw]; exact HP95.2); have hp_ : Kd.R (Kd.int .i64) 2 w96 w.heap.size (fun _ => True) (.slice (some ⟨go90, 0, none⟩) x17_5.length co90) y208 := (by rw [hw, Ny208.out]; exact HP95.1); clear HP95; have n0_ := Aside0.mk (Kd.R_over' (v := (.slice (some ⟨go90, 0, none⟩) x17_5.length co90)) (by (with_reducible repeat (first | apply Kd.R_alloc | apply Kd.R_drewN | apply Kd.R_drew)); exact HO_7.out) (Kd.R_typed HO_17.out) (by decide) hg); have n1_ := Aside0.mk (Kd.S_over' (v := (.slice (some ⟨go90, 0, none⟩) x17_5.length co90)) (by (with_reducible repeat (first | apply Kd.S_alloc | apply Kd.S_drewN | apply Kd.S_drew)); exact HO_9.out) (Kd.R_typed HO_17.out) (by decide) hg); have n2_ := Aside0.mk (hp_); have n3_ := Aside0.mk (Kd.R_over' (v := (.slice (some ⟨go90, 0, none⟩) x17_5.length co90)) (by (with_reducible repeat (first | apply Kd.R_alloc | apply Kd.R_drewN | apply Kd.R_drew)); exact HL206_0.out) (Kd.R_typed HO_17.out) (by decide) hg); have n4_ := Aside0.mk ((by rw [hw]; exact below_set (HB.out) GB90.out : Below w.heap.size w w96)); clear HO_7; clear HO_9; clear HO_17; clear HL206_0; clear HB; have HO_7 := n0_; have HO_9 := n1_; have HO_17 := n2_; have HL206_0 := n3_; have HB := n4_; clear n0_ n1_ n2_ n3_ n4_; clear hg hw hp_; have p209 : 0 ≤ (x19_5 : Int) := of_decide_eq_true (by first | (with_reducible assumption) | assumption); have q209 : x19_5 < (l0.length : Int) := of_decide_eq_true (by first | (with_reducible assumption) | assumption); obtain ⟨ad209, A209_0, c209_0, e209, hx209_0, hl209_0, hi209_0⟩ := at_L4 HR0.out x19_5 p209 q209; cases e209; replace hx209_0 := (HB.out.cell (World.block_lt_of_cell? w _ hx209_0)).trans hx209_0; have HR209_0 := Aside0.mk hi209_0; have HC209_0 := Aside0.mk hl209_0; clear hi209_0 hl209_0; replace p209 := eq_true p209; replace q209 := eq_true q209; have p210 : 0 ≤ (((rd_T60 (rd_L7 x9_3 x19_5) x18_5).f2) : Int) := of_decide_eq_true (by first | (with_reducible assumption) | assumption); have q210 : ((rd_T60 (rd_L7 x9_3 x19_5) x18_5).f2) < ((rd_L4 l0 x19_5).length : Int) := of_decide_eq_true (by first | (with_reducible assumption) | assumption); obtain ⟨ad210, e210, hx210_0, hx210_1⟩ := at_T34 HR209_0.out ((rd_T60 (rd_L7 x9_3 x19_5) x18_5).f2) p210 q210; cases e210; replace hx210_0 := (HB.out.cell (World.block_lt_of_cell? w _ hx210_0)).trans hx210_0; replace hx210_1 := (HB.out.cell (World.block_lt_of_cell? w _ hx210_1)).trans hx210_1; replace p210 := eq_true p210; replace q210 := eq_true q210))
  subst hji10
  go_roundg k5
  case measure => have := HJ2.out; have := HK2.out; have := HK3.out; have := HJ70.out; have := HK5.out; omega
  case rel => exact ⟨(y208), (wrap64 (x18_5 - ((rd_T34 (rd_L4 l0 x19_5) ((rd_T60 (rd_L7 x9_3 x19_5) x18_5).f2)).f0))), (wrap64 (x19_5 - 1)), (by first|rfl|(simp; done)|(simp [*]; done)), (by first|rfl|(simp; done)|(simp [*]; done)), H', ⟨by have := HJ2.out; have := HK2.out; have := HK3.out; have := HJ70.out; have := HK5.out; omega⟩, ⟨by (try simp only [hl7_2]); (with_reducible repeat (first | apply Kd.R_alloc | apply Kd.R_drewN | apply Kd.R_drew)); exact HO_7.out⟩, ⟨by (try simp only [hl7_2]); (with_reducible repeat (first | apply Kd.S_alloc | apply Kd.S_drewN | apply Kd.S_drew)); exact HO_9.out⟩, ⟨by (try simp only [hl7_2]); (with_reducible repeat (first | apply Kd.R_alloc | apply Kd.R_drewN | apply Kd.R_drew)); exact HO_17.out⟩, ⟨by repeat (first | (with_reducible first | exact HB.out | apply below_alloc | apply pw_below_drewN | apply below_drew1) | exact HB.out)⟩⟩
 rw [if_pos c24] at H
 have c24b0 : decide (x45_3 < (l0.length : Int)) = true := decide_eq_true c24
 (try (have c24l0 := c24b0; simp only [hl7_2] at c24l0))
 clear c24
 by_cases c25 : 0 ≤ x45_3
 rotate_left
 ·rw [if_neg c25] at H
  exact absurd H (by simp)
 rw [if_pos c25] at H
 have c25b0 : decide (0 ≤ x45_3) = true := decide_eq_true c25
 clear c25
 by_cases c26 : x45_3 < (l0.length : Int)
 rotate_left
 ·rw [if_neg c26] at H
  exact absurd H (by simp)
 rw [if_pos c26] at H
 have c26b0 : decide (x45_3 < (l0.length : Int)) = true := decide_eq_true c26
 (try (have c26l0 := c26b0; simp only [hl7_2] at c26l0))
 clear c26
 obtain ⟨ji27, hji27⟩ : ∃ j_ : Int, (wrap64 (a1 + 1)) = j_ := ⟨_, rfl⟩
 replace H : (if 0 ≤ (ji27) then (if (ji27 : Int).toNat ≤ 17592186044416 then ((some (List.replicate (ji27 : Int).toNat z60 : List (S60))).bind fun y185 => (impl_BestCuts.l2 k3 l0 a1 x7_3 x9_3 (rd_L4 l0 x45_3) y185 l0 (l0.length : Int) x45_3 (y185.length : Int) 0)) else (none)) else (none)) = some (r1, r2, r3) := by first | (rw [hji27] at H; exact H) | (simp only [hji27] at H ⊢; exact H)
 have eji10_ji27 : ji10 = ji27 := hji10.symm.trans hji27
 (try rw [eji10_ji27] at hji10w)
 (try simp only [eji10_ji27])
 have hji27w : (IntKind.i64.wrap (a1 + 1)) = ji27 := (i64_w _).trans hji27
 by_cases c28 : 0 ≤ (ji27)
 rotate_left
 ·rw [if_neg c28] at H
  exact absurd H (by simp)
 rw [if_pos c28] at H
 have c28b0 := eq_true c28
 have c28b1 : decide (0 ≤ (ji27)) = true := decide_eq_true c28
 clear c28
 by_cases c29 : (ji27 : Int).toNat ≤ 17592186044416
 rotate_left
 ·rw [if_neg c29] at H
  exact absurd H (by simp)
 rw [if_pos c29] at H
 have c29b0 := eq_true c29
 have c29b1 : decide ((ji27 : Int).toNat ≤ 17592186044416) = true := decide_eq_true c29
 clear c29
 obtain ⟨y185, hy185⟩ : ∃ y_ : List (S60), y_ = (List.replicate (ji27 : Int).toNat z60) := ⟨_, rfl⟩
 replace H : (impl_BestCuts.l2 k3 l0 a1 x7_3 x9_3 (rd_L4 l0 x45_3) y185 l0 (l0.length : Int) x45_3 (y185.length : Int) 0) = some (r1, r2, r3) := by first | (rw [hy185]; with_reducible exact H) | (have H2_ := (Option.bind_some _ _).symm.trans H; rw [hy185]; with_reducible exact H2_) | (have H2_ := (Option.bind_some _ _).symm.trans H; with_reducible exact H2_) | with_reducible exact H | (rw [hy185]; exact H) | exact H
 have Ny185 := Aside0.mk hy185
 clear hy185
 have H' := Aside0.mk H
 clear H
 have p184 : 0 ≤ (x45_3 : Int) := of_decide_eq_true (by first | (with_reducible assumption) | assumption)
 have q184 : x45_3 < (l0.length : Int) := of_decide_eq_true (by first | (with_reducible assumption) | assumption)
 obtain ⟨ad184, A184_0, c184_0, e184, hx184_0, hl184_0, hi184_0⟩ := at_L4 HR0.out x45_3 p184 q184
 cases e184
 replace hx184_0 := (HB.out.cell (World.block_lt_of_cell? w _ hx184_0)).trans hx184_0
 have HR184_0 := Aside0.mk hi184_0
 have HC184_0 := Aside0.mk hl184_0
 clear hi184_0 hl184_0
 replace p184 := eq_true p184
 replace q184 := eq_true q184
 go_wp2_with (first | ((with_reducible refine gate_dst (N := 51) rfl ?_); refine Kd.R_make k60 _ 60 rfl (N := 51) rfl 58 _ _ rfl ji27 rfl rfl Try.underlying58 (.agg #[(.bool false), (.float .f32 0), (.int .i64 0)]) 16 info60 rfl (by decide) (by omega) z60 (ok := fun _ => True) (okp := fun _ => True) (k60_mkM _ _ _ z60 ) (fun _ hk => hk) trivial (of_decide_eq_true (by first | (with_reducible assumption) | assumption)) (Nat.le_trans (Nat.mul_le_mul_right _ (of_decide_eq_true (by first | (with_reducible assumption) | assumption) : ji27.toNat ≤ 17592186044416)) (by omega)) (Below.refl _ _) (Nat.le_refl _) ?_; intro v186 w30 ho31 hb hg_ hnew_; clear hg_ hnew_; (first | rw [← Ny185.out] at ho31 | (simp only [Int.reduceToNat] at ho31; rw [← Ny185.out] at ho31)); have n0_ := Aside0.mk (Kd.R_elder' (by (with_reducible repeat (first | apply Kd.R_alloc | apply Kd.R_drewN | apply Kd.R_drew)); exact HO_7.out) (Kd.R_base ho31) hb); have n1_ := Aside0.mk (Kd.S_elder' (by (with_reducible repeat (first | apply Kd.S_alloc | apply Kd.S_drewN | apply Kd.S_drew)); exact HO_9.out) (Kd.R_base ho31) hb); have n2_ := Aside0.mk (Kd.R_lower (Kd.R_new' ho31 (Kd.R_lt (by (with_reducible repeat (first | apply Kd.R_alloc | apply Kd.R_drewN | apply Kd.R_drew)); exact HO_7.out))) (below_size (by repeat (first | (with_reducible first | exact HB.out | apply below_alloc | apply pw_below_drewN | apply below_drew1) | exact HB.out)))); have n3_ := Aside0.mk (below_step (by repeat (first | (with_reducible first | exact HB.out | apply below_alloc | apply pw_below_drewN | apply below_drew1) | exact HB.out)) hb); clear HO_7; clear HO_9; clear HB; have HO_7 := n0_; have HO_9 := n1_; have HO187 := n2_; have HB := n3_; clear n0_ n1_ n2_ n3_; clear hb ho31; obtain ⟨Ao32, co32, eo32⟩ := Kd.R_slice HO187.out; subst eo32))
 go_loopg [54] k3 (fun kq v54 w' => ∃ (x12_4 : List (S60)) (x54_4 : Int), v54 = .int .i64 x54_4 ∧ Aside0 (impl_BestCuts.l2 kq l0 a1 x7_3 x9_3 (rd_L4 l0 x45_3) x12_4 l0 (l0.length : Int) x45_3 (y185.length : Int) x54_4 = some (r1, r2, r3)) ∧ Aside0 (kq ≤ k3) ∧ Aside0 (Kd.R k60 60 w' w.heap.size (fun k_ => some k_ ≠ ((.slice Ao32 y185.length co32) : Value).ownBlock) u7 x7_3) ∧ Aside0 (Kd.S (Kd.slice 60 k60) 58 w' w.heap.size (fun k_ => some k_ ≠ ((.slice Ao32 y185.length co32) : Value).ownBlock) u9 x9_3) ∧ Aside0 (Kd.R k60 60 w' w.heap.size (fun k_ => some k_ ≠ (u7 : Value).ownBlock) (.slice Ao32 y185.length co32) x12_4) ∧ Aside0 (Below w.heap.size w w'))
 case atStart => exact ⟨(y185), (0), (by first|rfl|(simp; done)|(simp [*]; done)), H', ⟨Nat.le_refl _⟩, ⟨by (try simp only [hl7_2]); (with_reducible repeat (first | apply Kd.R_alloc | apply Kd.R_drewN | apply Kd.R_drew)); exact Kd.R_mono HO_7.out (fun _ hk => hk.2)⟩, ⟨by (try simp only [hl7_2]); (with_reducible repeat (first | apply Kd.S_alloc | apply Kd.S_drewN | apply Kd.S_drew)); exact Kd.S_mono HO_9.out (fun _ hk => hk.2)⟩, ⟨by (try simp only [hl7_2]); (with_reducible repeat (first | apply Kd.R_alloc | apply Kd.R_drewN | apply Kd.R_drew)); exact Kd.R_mono HO187.out (fun _ hk => hk.2)⟩, ⟨by repeat (first | (with_reducible first | exact HB.out | apply below_alloc | apply pw_below_drewN | apply below_drew1) | exact HB.out)⟩⟩
 clear H'
 try clear c1
 try clear p1
 try clear q1
 try clear hx1
 try clear c2
 try clear p2
 try clear hx2
 try clear hf2
 try clear c5
 try clear p6
 try clear c9
 try clear c11
 try clear c11b0
 try clear c11b1
 try clear c12
 try clear c12b0
 try clear c12b1
 try clear c16
 try clear c16b0
 try clear c17
 try clear c17b0
 try clear c18
 try clear c18b0
 try clear p18
 try clear q18
 try clear hx18
 try clear c19
 try clear p19
 try clear q19
 try clear hx19
 try clear hf19
 try clear c20
 try clear hx20
 try clear hf20
 try clear c24
 try clear c24b0
 try clear c25
 try clear c25b0
 try clear c26
 try clear c26b0
 try clear c28
 try clear c28b0
 try clear c28b1
 try clear c29
 try clear c29b0
 try clear c29b1
 try clear hx184_0
 try clear hx19_0
 try clear hx19_1
 try clear hx19_2
 try clear hx20_0
 try clear p1
 try clear p184
 try clear p19
 try clear p2
 try clear p6
 try clear q1
 try clear q184
 try clear q19
 obtain ⟨x12_4, x54_4, rfl, HA, HK4, HO_7, HO_9, HO_12, HB⟩ := hrel
 have hl12_4 := (Kd.R_reads' HO_12.out).1
 rw [hl12_4] at HO_12
 (try simp only [hl12_4])
 (try simp only [hl12_4] at HO_7)
 (try simp only [hl12_4] at HO_9)
 cases gk with
 | zero => exact absurd HA.out (by simp [impl_BestCuts.l2])
 | succ k4 => ?_
 have H := HA.out
 clear HA
 simp only [impl_BestCuts.l2] at H
 by_cases c33 : x54_4 < (y185.length : Int)
 rotate_left
 ·rw [if_neg c33] at H
  have c33b0 : decide (x54_4 < (y185.length : Int)) = false := decide_eq_false c33
  (try (have c33l0 := c33b0; simp only [hl7_2, hl12_4] at c33l0))
  clear c33
  by_cases c69 : x9_3.length < 5864062014805
  rotate_left
  ·rw [if_neg c69] at H
   exact absurd H (by simp)
  rw [if_pos c69] at H
  have LMc69 := Aside0.mk c69
  clear c69
  obtain ⟨y188, hy188⟩ : ∃ y_ : List (List (S60)), y_ = (x9_3 ++ [x12_4]) := ⟨_, rfl⟩
  replace H : (impl_BestCuts.l1 k4 l0 a1 x12_4 y188 l0 (l0.length : Int) (wrap64 (x45_3 + 1))) = some (r1, r2, r3) := by first | (rw [hy188]; with_reducible exact H) | (have H2_ := (Option.bind_some _ _).symm.trans H; rw [hy188]; with_reducible exact H2_) | (have H2_ := (Option.bind_some _ _).symm.trans H; with_reducible exact H2_) | with_reducible exact H | (rw [hy188]; exact H) | exact H
  have Ny188 := Aside0.mk hy188
  clear hy188
  have H' := Aside0.mk H
  clear H
  go_wp2_with (first | ((with_reducible refine gate_builtin (b := .append) (xs := #[.tmp 113, .tmp 115]) rfl ?_); at_builtin; refine Kd.S_append (Kd.slice 60 k60) (w0 := w) w.heap.size rfl (.tmp 113) (.tmp 115) 61 58 (.slice none 0 0) 24 rfl Try.underlying61 info58 rfl (by decide) (by omega) u9 x9_3 x12_4 [.slice Ao32 x12_4.length co32] (fun _ => True) (fun k_ => some k_ = (.slice Ao32 x12_4.length co32 : Value).ownBlock) rfl rfl ?aP (fun k_ hk_ => ((Kd.R_mono (ok' := fun k_ => ((fun _ => True)) k_ ∧ some k_ ≠ (u9 : Value).ownBlock) (Kd.R_apart' (HO_12.out) (Kd.S_typed HO_9.out) (by decide)) (fun k_ hk => ⟨trivial, hk.2⟩))).1 k_ hk_.symm) ?aF ?aO ?aB ?aS ?aL ?_; (case aP => exact Kd.M_row (Kd.R_mono (Kd.R_tight rfl (Kd.R_mono (ok' := fun k_ => ((fun _ => True)) k_ ∧ some k_ ≠ (u9 : Value).ownBlock) (Kd.R_apart' (HO_12.out) (Kd.S_typed HO_9.out) (by decide)) (fun k_ hk => ⟨trivial, hk.2⟩))) (fun _ h_ => h_))); (case aB => exact (by repeat (first | (with_reducible first | exact HB.out | apply below_alloc | apply pw_below_drewN | apply below_drew1) | exact HB.out))); (case aF => exact (fun _ _ => trivial)); (case aO => exact (by (with_reducible repeat (first | apply Kd.S_alloc | apply Kd.S_drewN | apply Kd.S_drew)); exact Kd.S_mono HO_9.out (fun k_ hk => ⟨trivial, fun e_ => hk e_⟩))); (case aS => exact (below_size (by repeat (first | (with_reducible first | exact HB.out | apply below_alloc | apply pw_below_drewN | apply below_drew1) | exact HB.out)))); (case aL => have := LMc69.out; omega); intro v189 w70 ho hb hg hat; rw [← Ny188.out] at ho; have n0_ := Aside0.mk (Kd.R_over' (by (with_reducible repeat (first | apply Kd.R_alloc | apply Kd.R_drewN | apply Kd.R_drew)); exact HO_7.out) (Kd.S_typed (by (with_reducible repeat (first | apply Kd.S_alloc | apply Kd.S_drewN | apply Kd.S_drew)); exact HO_9.out)) (by decide) hg); have n1_ := Aside0.mk (hb); have n2_ := Aside0.mk (ho); have n9_ := Aside0.mk (Kd.R_mono (ok' := fun _ => True) (Kd.R_over' (by (with_reducible repeat (first | apply Kd.R_alloc | apply Kd.R_drewN | apply Kd.R_drew)); exact HO_12.out) (Kd.S_typed (by (with_reducible repeat (first | apply Kd.S_alloc | apply Kd.S_drewN | apply Kd.S_drew)); exact HO_9.out)) (by decide) hg) (fun _ _ => trivial)); clear HO_7; clear HB; clear HO_9; clear HO_12; have HO_7 := n0_; have HB := n1_; have HO190 := n2_; have HO_12 := n9_; clear n9_; clear n0_ n1_ n2_; clear ho hb hg hat))
  (try simp only [← hl12_4])
  subst hji27
  subst hji10
  go_roundg k4
  case measure => have := HJ2.out; have := HK2.out; have := HK3.out; have := HK4.out; omega
  case rel => exact ⟨(x12_4), (y188), (wrap64 (x45_3 + 1)), (by first|rfl|(simp; done)|(simp [*]; done)), H', ⟨by have := HJ2.out; have := HK2.out; have := HK3.out; have := HK4.out; omega⟩, ⟨by (try simp only [hl7_2]); (try simp only [hl12_4]); (with_reducible repeat (first | apply Kd.R_alloc | apply Kd.R_drewN | apply Kd.R_drew)); exact HO_12.out⟩, ⟨by (try simp only [hl7_2]); (try simp only [hl12_4]); (with_reducible repeat (first | apply Kd.S_alloc | apply Kd.S_drewN | apply Kd.S_drew)); exact HO190.out⟩, ⟨by repeat (first | (with_reducible first | exact HB.out | apply below_alloc | apply pw_below_drewN | apply below_drew1) | exact HB.out)⟩⟩
 rw [if_pos c33] at H
 have c33b0 : decide (x54_4 < (y185.length : Int)) = true := decide_eq_true c33
 (try (have c33l0 := c33b0; simp only [hl7_2, hl12_4] at c33l0))
 clear c33
 have H' := Aside0.mk H
 clear H
 go_wp2
 go_loopg [59] k4 (fun kq v59 w' => ∃ (x12_5 : List (S60)) (x59_5 : Int), v59 = .int .i64 x59_5 ∧ Aside0 (impl_BestCuts.l3 kq l0 a1 x7_3 x9_3 (rd_L4 l0 x45_3) x12_5 x54_4 l0 (l0.length : Int) x45_3 (y185.length : Int) x54_4 (rd_L4 l0 x45_3) ((rd_L4 l0 x45_3).length : Int) x59_5 = some (r1, r2, r3)) ∧ Aside0 (kq ≤ k4) ∧ Aside0 (Kd.R k60 60 w' w.heap.size (fun k_ => some k_ ≠ ((.slice Ao32 x12_4.length co32) : Value).ownBlock) u7 x7_3) ∧ Aside0 (Kd.S (Kd.slice 60 k60) 58 w' w.heap.size (fun k_ => some k_ ≠ ((.slice Ao32 x12_4.length co32) : Value).ownBlock) u9 x9_3) ∧ Aside0 (Kd.R k60 60 w' w.heap.size (fun k_ => some k_ ≠ (u7 : Value).ownBlock) (.slice Ao32 x12_4.length co32) x12_5) ∧ Aside0 (Below w.heap.size w w'))
 case atStart => exact ⟨(x12_4), (0), (by first|rfl|(simp; done)|(simp [*]; done)), H', ⟨Nat.le_refl _⟩, ⟨by (try simp only [hl7_2]); (try simp only [hl12_4]); (with_reducible repeat (first | apply Kd.R_alloc | apply Kd.R_drewN | apply Kd.R_drew)); exact HO_7.out⟩, ⟨by (try simp only [hl7_2]); (try simp only [hl12_4]); (with_reducible repeat (first | apply Kd.S_alloc | apply Kd.S_drewN | apply Kd.S_drew)); exact HO_9.out⟩, ⟨by (try simp only [hl7_2]); (try simp only [hl12_4]); (with_reducible repeat (first | apply Kd.R_alloc | apply Kd.R_drewN | apply Kd.R_drew)); exact HO_12.out⟩, ⟨by repeat (first | (with_reducible first | exact HB.out | apply below_alloc | apply pw_below_drewN | apply below_drew1) | exact HB.out)⟩⟩
 clear H'
 try clear c1
 try clear p1
 try clear q1
 try clear hx1
 try clear c2
 try clear p2
 try clear hx2
 try clear hf2
 try clear c3
 try clear c5
 try clear p6
 try clear c9
 try clear c11
 try clear c11b0
 try clear c11b1
 try clear c12
 try clear c12b0
 try clear c12b1
 try clear c16
 try clear c16b0
 try clear c17
 try clear c17b0
 try clear c18
 try clear c18b0
 try clear p18
 try clear q18
 try clear hx18
 try clear c19
 try clear p19
 try clear q19
 try clear hx19
 try clear hf19
 try clear c20
 try clear hx20
 try clear hf20
 try clear c24
 try clear c24b0
 try clear c25
 try clear c25b0
 try clear c26
 try clear c26b0
 try clear c28
 try clear c28b0
 try clear c28b1
 try clear c29
 try clear c29b0
 try clear c29b1
 try clear c33
 try clear c33b0
 try clear hx184_0
 try clear hx19_0
 try clear hx19_1
 try clear hx19_2
 try clear hx20_0
 try clear p1
 try clear p18
 try clear p184
 try clear p19
 try clear p2
 try clear p6
 try clear q1
 try clear q18
 try clear q184
 try clear q19
 obtain ⟨x12_5, x59_5, rfl, HA, HK5, HO_7, HO_9, HO_12, HB⟩ := hrel
 have hl12_5 := (Kd.R_reads' HO_12.out).1
 rw [hl12_5] at HO_12
 (try simp only [hl12_5])
 (try simp only [hl12_5] at HO_7)
 (try simp only [hl12_5] at HO_9)
 cases gk with
 | zero => exact absurd HA.out (by simp [impl_BestCuts.l3])
 | succ k5 => ?_
 have H := HA.out
 clear HA
 simp only [impl_BestCuts.l3] at H
 by_cases c34 : x59_5 < ((rd_L4 l0 x45_3).length : Int)
 rotate_left
 ·rw [if_neg c34] at H
  have c34b0 : decide (x59_5 < ((rd_L4 l0 x45_3).length : Int)) = false := decide_eq_false c34
  (try (have c34l0 := c34b0; simp only [hl7_2, hl12_4, hl12_5] at c34l0))
  clear c34
  have H' := Aside0.mk H
  clear H
  go_wp2
  (try simp only [← hl12_4, ← hl12_5])
  subst hji27
  subst hji10
  go_roundg k5
  case measure => have := HJ2.out; have := HK2.out; have := HK3.out; have := HK4.out; have := HK5.out; omega
  case rel => exact ⟨(x12_5), (wrap64 (x54_4 + 1)), (by first|rfl|(simp; done)|(simp [*]; done)), H', ⟨by have := HJ2.out; have := HK2.out; have := HK3.out; have := HK4.out; have := HK5.out; omega⟩, ⟨by (try simp only [hl7_2]); (try simp only [hl12_4]); (try simp only [hl12_5]); (with_reducible repeat (first | apply Kd.R_alloc | apply Kd.R_drewN | apply Kd.R_drew)); exact HO_7.out⟩, ⟨by (try simp only [hl7_2]); (try simp only [hl12_4]); (try simp only [hl12_5]); (with_reducible repeat (first | apply Kd.S_alloc | apply Kd.S_drewN | apply Kd.S_drew)); exact HO_9.out⟩, ⟨by (try simp only [hl7_2]); (try simp only [hl12_4]); (try simp only [hl12_5]); (with_reducible repeat (first | apply Kd.R_alloc | apply Kd.R_drewN | apply Kd.R_drew)); exact HO_12.out⟩, ⟨by repeat (first | (with_reducible first | exact HB.out | apply below_alloc | apply pw_below_drewN | apply below_drew1) | exact HB.out)⟩⟩
 rw [if_pos c34] at H
 have c34b0 : decide (x59_5 < ((rd_L4 l0 x45_3).length : Int)) = true := decide_eq_true c34
 (try (have c34l0 := c34b0; simp only [hl7_2, hl12_4, hl12_5] at c34l0))
 clear c34
 by_cases c35 : 0 ≤ x59_5
 rotate_left
 ·rw [if_neg c35] at H
  exact absurd H (by simp)
 rw [if_pos c35] at H
 have c35b0 : decide (0 ≤ x59_5) = true := decide_eq_true c35
 clear c35
 by_cases c36 : x59_5 < ((rd_L4 l0 x45_3).length : Int)
 rotate_left
 ·rw [if_neg c36] at H
  exact absurd H (by simp)
 rw [if_pos c36] at H
 have c36b0 : decide (x59_5 < ((rd_L4 l0 x45_3).length : Int)) = true := decide_eq_true c36
 (try (have c36l0 := c36b0; simp only [hl7_2, hl12_4, hl12_5] at c36l0))
 clear c36
 have HC37 := Aside0.mk H
 clear H
 have p191 : 0 ≤ (x59_5 : Int) := of_decide_eq_true (by first | (with_reducible assumption) | assumption)
 have q191 : x59_5 < ((rd_L4 l0 x45_3).length : Int) := of_decide_eq_true (by first | (with_reducible assumption) | assumption)
 obtain ⟨ad191, e191, hx191_0, hx191_1⟩ := at_T34 HR184_0.out x59_5 p191 q191
 cases e191
 replace hx191_0 := (HB.out.cell (World.block_lt_of_cell? w _ hx191_0)).trans hx191_0
 replace hx191_1 := (HB.out.cell (World.block_lt_of_cell? w _ hx191_1)).trans hx191_1
 replace p191 := eq_true p191
 replace q191 := eq_true q191
 go_upto_region 20 with (first | ((with_reducible refine gate_dst (N := 15) rfl ?_); refine box_event ?hg (N := 15) ?hd (cs := #[.int .i64 0, .float .f32 0]) (t := 34) ?hr ?_; (case hd => rfl); (case hg => rfl); (case hr => first | (go_simp; done) | (go_simp; rfl)); intro gb192 hg w38 hbox hb; have n0_ := Aside0.mk (Kd.R_below (by (with_reducible repeat (first | apply Kd.R_alloc | apply Kd.R_drewN | apply Kd.R_drew)); exact HO_7.out) hb); have n1_ := Aside0.mk (Kd.S_below (by (with_reducible repeat (first | apply Kd.S_alloc | apply Kd.S_drewN | apply Kd.S_drew)); exact HO_9.out) hb); have n2_ := Aside0.mk (Kd.R_below (by (with_reducible repeat (first | apply Kd.R_alloc | apply Kd.R_drewN | apply Kd.R_drew)); exact HO_12.out) hb); have n3_ := Aside0.mk (below_step (by repeat (first | (with_reducible first | exact HB.out | apply below_alloc | apply pw_below_drewN | apply below_drew1) | exact HB.out)) hb); have n4_ := Aside0.mk (hbox); have n5_ := Aside0.mk ((by rw [hg]; exact (below_size (by repeat (first | (with_reducible first | exact HB.out | apply below_alloc | apply pw_below_drewN | apply below_drew1) | exact HB.out))) : w.heap.size ≤ gb192)); have n6_ := Aside0.mk ((by rw [hg]; exact (below_size (by repeat (first | (with_reducible first | exact HB.out | apply below_alloc | apply pw_below_drewN | apply below_drew1) | exact HB.out))) : w.heap.size ≤ gb192)); clear HO_7; clear HO_9; clear HO_12; clear HB; have HO_7 := n0_; have HO_9 := n1_; have HO_12 := n2_; have HB := n3_; have BK192 := n4_; have GW192 := n5_; have GE192 := n6_; clear n0_ n1_ n2_ n3_ n4_ n5_ n6_; clear hb hbox hg; have hcz39_0 : w38.cell? ⟨gb192, 0, none⟩ = some (.int .i64 0) := (blk_cell BK192.out 0).trans rfl; have hcz39_1 : w38.cell? ⟨gb192, 1, none⟩ = some (.float .f32 0) := (blk_cell BK192.out 1).trans rfl; have hfz39_0 := blk_frozen BK192.out 0; have hfz39_1 := blk_frozen BK192.out 1))
 (try simp only [Act.put, List.setIfInBounds_toArray, List.set_cons_zero, List.set_cons_succ])
 go_cut [78] (fun v78 wc => ∃ (kq : Nat) (x78_36 : Bool), v78 = .bool x78_36 ∧ Aside0 (impl_BestCuts.j5 kq l0 a1 x7_3 x9_3 (rd_L4 l0 x45_3) x12_5 x54_4 x59_5 l0 (l0.length : Int) x45_3 (y185.length : Int) x54_4 (rd_L4 l0 x45_3) ((rd_L4 l0 x45_3).length : Int) x59_5 x78_36 ((rd_T34 (rd_L4 l0 x45_3) x59_5).f0) ((rd_T34 (rd_L4 l0 x45_3) x59_5).f1) = some (r1, r2, r3)) ∧ Aside0 (kq ≤ k5) ∧ Aside0 (Kd.R k60 60 wc w.heap.size (fun k_ => some k_ ≠ ((.slice Ao32 x12_5.length co32) : Value).ownBlock) u7 x7_3) ∧ Aside0 (Kd.S (Kd.slice 60 k60) 58 wc w.heap.size (fun k_ => some k_ ≠ ((.slice Ao32 x12_5.length co32) : Value).ownBlock) u9 x9_3) ∧ Aside0 (Kd.R k60 60 wc w.heap.size (fun k_ => some k_ ≠ (u7 : Value).ownBlock) (.slice Ao32 x12_5.length co32) x12_5) ∧ Aside0 (wc.heap[gb192]? = some (.cells #[.int .i64 ((rd_T34 (rd_L4 l0 x45_3) x59_5).f0), .float .f32 ((rd_T34 (rd_L4 l0 x45_3) x59_5).f1)] 34 (0, 0))) ∧ Aside0 (Below w.heap.size w wc))
 case first =>
  have H := HC37.out
  clear HC37
  by_cases c40 : ((rd_T34 (rd_L4 l0 x45_3) x59_5).f0) > x54_4
  ·rw [if_pos c40] at H
   have c40b0 : decide (x54_4 < ((rd_T34 (rd_L4 l0 x45_3) x59_5).f0)) = true := decide_eq_true c40
   clear c40
   (first | rw [c40b0] | (simp only [i64_w, i32_w]; rw [c40b0]) | skip)
   have H' := Aside0.mk H
   clear H
   have hcz41_0 : w38.cell? ⟨gb192, 0, none⟩ = some (.int .i64 0) := (blk_cell BK192.out 0).trans rfl
   have hcz41_1 : w38.cell? ⟨gb192, 1, none⟩ = some (.float .f32 0) := (blk_cell BK192.out 1).trans rfl
   have hfz41_0 := blk_frozen BK192.out 0
   have hfz41_1 := blk_frozen BK192.out 1
   go_wp2
   subst hji27
   subst hji10
   go_meet
   case rel => exact ⟨_, (true), (by first|rfl|(simp; done)|(simp [*]; done)), H', ⟨by have := HJ2.out; have := HK2.out; have := HK3.out; have := HK4.out; have := HK5.out; first | omega | exact Nat.le_refl _⟩, ⟨by (try simp only [hl7_2]); (try simp only [hl12_4]); (try simp only [hl12_5]); (with_reducible repeat (first | apply Kd.R_alloc | apply Kd.R_drewN | apply Kd.R_drew)); exact Kd.R_mono (Kd.R_far (p := ⟨gb192, 1, none⟩) (Kd.R_far (p := ⟨gb192, 0, none⟩) (Kd.R_types HO_7.out BK192.out (by decide)) (fun _ hk => hk.2) (.int .i64 ((rd_T34 (rd_L4 l0 x45_3) x59_5).f0))) (fun _ hk => hk.2) (.float .f32 ((rd_T34 (rd_L4 l0 x45_3) x59_5).f1))) (fun _ hk => hk.1)⟩, ⟨by (try simp only [hl7_2]); (try simp only [hl12_4]); (try simp only [hl12_5]); (with_reducible repeat (first | apply Kd.S_alloc | apply Kd.S_drewN | apply Kd.S_drew)); exact Kd.S_mono (Kd.S_far (p := ⟨gb192, 1, none⟩) (Kd.S_far (p := ⟨gb192, 0, none⟩) (Kd.S_types HO_9.out BK192.out (by decide)) (fun _ hk => hk.2) (.int .i64 ((rd_T34 (rd_L4 l0 x45_3) x59_5).f0))) (fun _ hk => hk.2) (.float .f32 ((rd_T34 (rd_L4 l0 x45_3) x59_5).f1))) (fun _ hk => hk.1)⟩, ⟨by (try simp only [hl7_2]); (try simp only [hl12_4]); (try simp only [hl12_5]); (with_reducible repeat (first | apply Kd.R_alloc | apply Kd.R_drewN | apply Kd.R_drew)); exact Kd.R_mono (Kd.R_far (p := ⟨gb192, 1, none⟩) (Kd.R_far (p := ⟨gb192, 0, none⟩) (Kd.R_types HO_12.out BK192.out (by decide)) (fun _ hk => hk.2) (.int .i64 ((rd_T34 (rd_L4 l0 x45_3) x59_5).f0))) (fun _ hk => hk.2) (.float .f32 ((rd_T34 (rd_L4 l0 x45_3) x59_5).f1))) (fun _ hk => hk.1)⟩, ⟨by (try simp only [hl7_2]); (try simp only [hl12_4]); (try simp only [hl12_5]); (with_reducible repeat (first | refine blk_drewN ?_ _ | refine blk_drew ?_ | refine blk_alloc ?_ _)); refine blk_put (cs := #[.int .i64 ((rd_T34 (rd_L4 l0 x45_3) x59_5).f0), .float .f32 0]) ?_ 1 _ rfl; (with_reducible repeat (first | refine blk_drewN ?_ _ | refine blk_drew ?_ | refine blk_alloc ?_ _)); refine blk_put (cs := #[.int .i64 0, .float .f32 0]) ?_ 0 _ rfl; (with_reducible repeat (first | refine blk_drewN ?_ _ | refine blk_drew ?_ | refine blk_alloc ?_ _)); exact BK192.out⟩, ⟨by repeat (first | (with_reducible first | exact HB.out | apply below_alloc | apply pw_below_drewN | apply below_drew1 | refine below_set ?_ GE192.out) | exact HB.out)⟩⟩
  rw [if_neg c40] at H
  have c40b0 : decide (x54_4 < ((rd_T34 (rd_L4 l0 x45_3) x59_5).f0)) = false := decide_eq_false c40
  clear c40
  (first | rw [c40b0] | (simp only [i64_w, i32_w]; rw [c40b0]) | skip)
  obtain ⟨ji42, hji42⟩ : ∃ j_ : Int, (wrap64 (x54_4 - ((rd_T34 (rd_L4 l0 x45_3) x59_5).f0))) = j_ := ⟨_, rfl⟩
  replace H : (if 0 ≤ (ji42) then (if (ji42) < (x7_3.length : Int) then (impl_BestCuts.j5 k5 l0 a1 x7_3 x9_3 (rd_L4 l0 x45_3) x12_5 x54_4 x59_5 l0 (l0.length : Int) x45_3 (y185.length : Int) x54_4 (rd_L4 l0 x45_3) ((rd_L4 l0 x45_3).length : Int) x59_5 (!((rd_T60 x7_3 (ji42)).f0)) ((rd_T34 (rd_L4 l0 x45_3) x59_5).f0) ((rd_T34 (rd_L4 l0 x45_3) x59_5).f1)) else (none)) else (none)) = some (r1, r2, r3) := by first | (rw [hji42] at H; exact H) | (simp only [hji42] at H ⊢; exact H)
  have hji42w : (IntKind.i64.wrap (x54_4 - ((rd_T34 (rd_L4 l0 x45_3) x59_5).f0))) = ji42 := (i64_w _).trans hji42
  by_cases c43 : 0 ≤ (ji42)
  rotate_left
  ·rw [if_neg c43] at H
   exact absurd H (by simp)
  rw [if_pos c43] at H
  have c43b0 : decide (0 ≤ (ji42)) = true := decide_eq_true c43
  clear c43
  by_cases c44 : (ji42) < (x7_3.length : Int)
  rotate_left
  ·rw [if_neg c44] at H
   exact absurd H (by simp)
  rw [if_pos c44] at H
  have c44b0 : decide ((ji42) < (x7_3.length : Int)) = true := decide_eq_true c44
  (try (have c44l0 := c44b0; simp only [hl7_2, hl12_4, hl12_5] at c44l0))
  clear c44
  have H' := Aside0.mk H
  clear H
  have hcz45_0 : w38.cell? ⟨gb192, 0, none⟩ = some (.int .i64 0) := (blk_cell BK192.out 0).trans rfl
  have hcz45_1 : w38.cell? ⟨gb192, 1, none⟩ = some (.float .f32 0) := (blk_cell BK192.out 1).trans rfl
  have hfz45_0 := blk_frozen BK192.out 0
  have hfz45_1 := blk_frozen BK192.out 1
  obtain ⟨Ao46, co46, eo46⟩ := Kd.R_slice HO_7.out
  subst eo46
  have p193 : 0 ≤ ((ji42) : Int) := of_decide_eq_true (by first | (with_reducible assumption) | assumption)
  have q193 : (ji42) < (x7_3.length : Int) := of_decide_eq_true (by first | (with_reducible assumption) | assumption)
  obtain ⟨ad193, e193, hx193_0, hx193_1, hx193_2⟩ := at_T60 (Kd.R_reads' HO_7.out).2.2 (ji42) p193 q193
  cases e193
  have hn193_0 : ad193.block ≠ gb192 := Kd.own_blk (Kd.R_ne HO_7.out BK192.out (by decide))
  have hn193_1 : ad193.block ≠ gb192 := Kd.own_blk (Kd.R_ne HO_7.out BK192.out (by decide))
  replace hx193_0 := (cell_far (p := ⟨gb192, 0, none⟩) (by first | (rw [add_block]; exact hn193_0) | (show (Addr.add _ _).block ≠ _; rw [add_block]; exact hn193_0) | exact hn193_0) (.int .i64 ((rd_T34 (rd_L4 l0 x45_3) x59_5).f0))).trans hx193_0
  replace hx193_1 := (cell_far (p := ⟨gb192, 0, none⟩) (by first | (rw [add_block]; exact hn193_0) | (show (Addr.add _ _).block ≠ _; rw [add_block]; exact hn193_0) | exact hn193_0) (.int .i64 ((rd_T34 (rd_L4 l0 x45_3) x59_5).f0))).trans hx193_1
  replace hx193_2 := (cell_far (p := ⟨gb192, 0, none⟩) (by first | (rw [add_block]; exact hn193_0) | (show (Addr.add _ _).block ≠ _; rw [add_block]; exact hn193_0) | exact hn193_0) (.int .i64 ((rd_T34 (rd_L4 l0 x45_3) x59_5).f0))).trans hx193_2
  replace hx193_0 := (cell_far (p := ⟨gb192, 1, none⟩) (by first | (rw [add_block]; exact hn193_1) | (show (Addr.add _ _).block ≠ _; rw [add_block]; exact hn193_1) | exact hn193_1) (.float .f32 ((rd_T34 (rd_L4 l0 x45_3) x59_5).f1))).trans hx193_0
  replace hx193_1 := (cell_far (p := ⟨gb192, 1, none⟩) (by first | (rw [add_block]; exact hn193_1) | (show (Addr.add _ _).block ≠ _; rw [add_block]; exact hn193_1) | exact hn193_1) (.float .f32 ((rd_T34 (rd_L4 l0 x45_3) x59_5).f1))).trans hx193_1
  replace hx193_2 := (cell_far (p := ⟨gb192, 1, none⟩) (by first | (rw [add_block]; exact hn193_1) | (show (Addr.add _ _).block ≠ _; rw [add_block]; exact hn193_1) | exact hn193_1) (.float .f32 ((rd_T34 (rd_L4 l0 x45_3) x59_5).f1))).trans hx193_2
  (try have hy193_0 := fun (n_ : Nat) => (show ((((w38.drewN n_).setCell ⟨gb192, 0, none⟩ (.int .i64 ((rd_T34 (rd_L4 l0 x45_3) x59_5).f0))).setCell ⟨gb192, 1, none⟩ (.float .f32 ((rd_T34 (rd_L4 l0 x45_3) x59_5).f1)))).cell? _ = some _ from hx193_0))
  (try have hy193_1 := fun (n_ : Nat) => (show ((((w38.drewN n_).setCell ⟨gb192, 0, none⟩ (.int .i64 ((rd_T34 (rd_L4 l0 x45_3) x59_5).f0))).setCell ⟨gb192, 1, none⟩ (.float .f32 ((rd_T34 (rd_L4 l0 x45_3) x59_5).f1)))).cell? _ = some _ from hx193_1))
  (try have hy193_2 := fun (n_ : Nat) => (show ((((w38.drewN n_).setCell ⟨gb192, 0, none⟩ (.int .i64 ((rd_T34 (rd_L4 l0 x45_3) x59_5).f0))).setCell ⟨gb192, 1, none⟩ (.float .f32 ((rd_T34 (rd_L4 l0 x45_3) x59_5).f1)))).cell? _ = some _ from hx193_2))
  clear hn193_0
  clear hn193_1
  replace p193 := eq_true p193
  replace q193 := eq_true q193
  go_wp2
  subst hji42
  subst hji27
  subst hji10
  go_meet
  case rel => exact ⟨_, (!((rd_T60 x7_3 ((wrap64 (x54_4 - ((rd_T34 (rd_L4 l0 x45_3) x59_5).f0))))).f0)), (by first | rfl | (simp; done) | (simp only [← hji42] <;> (first | rfl | simp)) | (simp [*]; done)), H', ⟨by have := HJ2.out; have := HK2.out; have := HK3.out; have := HK4.out; have := HK5.out; first | omega | exact Nat.le_refl _⟩, ⟨by (try simp only [hl7_2]); (try simp only [hl12_4]); (try simp only [hl12_5]); (with_reducible repeat (first | apply Kd.R_alloc | apply Kd.R_drewN | apply Kd.R_drew)); exact Kd.R_mono (Kd.R_far (p := ⟨gb192, 1, none⟩) (Kd.R_far (p := ⟨gb192, 0, none⟩) (Kd.R_types HO_7.out BK192.out (by decide)) (fun _ hk => hk.2) (.int .i64 ((rd_T34 (rd_L4 l0 x45_3) x59_5).f0))) (fun _ hk => hk.2) (.float .f32 ((rd_T34 (rd_L4 l0 x45_3) x59_5).f1))) (fun _ hk => hk.1)⟩, ⟨by (try simp only [hl7_2]); (try simp only [hl12_4]); (try simp only [hl12_5]); (with_reducible repeat (first | apply Kd.S_alloc | apply Kd.S_drewN | apply Kd.S_drew)); exact Kd.S_mono (Kd.S_far (p := ⟨gb192, 1, none⟩) (Kd.S_far (p := ⟨gb192, 0, none⟩) (Kd.S_types HO_9.out BK192.out (by decide)) (fun _ hk => hk.2) (.int .i64 ((rd_T34 (rd_L4 l0 x45_3) x59_5).f0))) (fun _ hk => hk.2) (.float .f32 ((rd_T34 (rd_L4 l0 x45_3) x59_5).f1))) (fun _ hk => hk.1)⟩, ⟨by (try simp only [hl7_2]); (try simp only [hl12_4]); (try simp only [hl12_5]); (with_reducible repeat (first | apply Kd.R_alloc | apply Kd.R_drewN | apply Kd.R_drew)); exact Kd.R_mono (Kd.R_far (p := ⟨gb192, 1, none⟩) (Kd.R_far (p := ⟨gb192, 0, none⟩) (Kd.R_types HO_12.out BK192.out (by decide)) (fun _ hk => hk.2) (.int .i64 ((rd_T34 (rd_L4 l0 x45_3) x59_5).f0))) (fun _ hk => hk.2) (.float .f32 ((rd_T34 (rd_L4 l0 x45_3) x59_5).f1))) (fun _ hk => hk.1)⟩, ⟨by (try simp only [hl7_2]); (try simp only [hl12_4]); (try simp only [hl12_5]); (with_reducible repeat (first | refine blk_drewN ?_ _ | refine blk_drew ?_ | refine blk_alloc ?_ _)); refine blk_put (cs := #[.int .i64 ((rd_T34 (rd_L4 l0 x45_3) x59_5).f0), .float .f32 0]) ?_ 1 _ rfl; (with_reducible repeat (first | refine blk_drewN ?_ _ | refine blk_drew ?_ | refine blk_alloc ?_ _)); refine blk_put (cs := #[.int .i64 0, .float .f32 0]) ?_ 0 _ rfl; (with_reducible repeat (first | refine blk_drewN ?_ _ | refine blk_drew ?_ | refine blk_alloc ?_ _)); exact BK192.out⟩, ⟨by repeat (first | (with_reducible first | exact HB.out | apply below_alloc | apply pw_below_drewN | apply below_drew1 | refine below_set ?_ GE192.out) | exact HB.out)⟩⟩
 clear HC37
 try clear c1
 try clear p1
 try clear q1
 try clear hx1
 try clear c2
 try clear p2
 try clear hx2
 try clear hf2
 try clear c3
 try clear c4
 try clear c5
 try clear p6
 try clear c9
 try clear c11
 try clear c11b0
 try clear c11b1
 try clear c12
 try clear c12b0
 try clear c12b1
 try clear c16
 try clear c16b0
 try clear c17
 try clear c17b0
 try clear c18
 try clear c18b0
 try clear p18
 try clear q18
 try clear hx18
 try clear c19
 try clear p19
 try clear q19
 try clear hx19
 try clear hf19
 try clear c20
 try clear hx20
 try clear hf20
 try clear c24
 try clear c24b0
 try clear c25
 try clear c25b0
 try clear c26
 try clear c26b0
 try clear c28
 try clear c28b0
 try clear c28b1
 try clear c29
 try clear c29b0
 try clear c29b1
 try clear c33
 try clear c33b0
 try clear c34
 try clear c34b0
 try clear c35
 try clear c35b0
 try clear c36
 try clear c36b0
 try clear c40
 try clear c40b0
 try clear c43
 try clear c43b0
 try clear c44
 try clear c44b0
 try clear hcz39_0
 try clear hcz39_1
 try clear hcz41_0
 try clear hcz41_1
 try clear hcz45_0
 try clear hcz45_1
 try clear hfz39_0
 try clear hfz39_1
 try clear hfz41_0
 try clear hfz41_1
 try clear hfz45_0
 try clear hfz45_1
 try clear hx184_0
 try clear hx191_0
 try clear hx191_1
 try clear hx193_0
 try clear hx193_1
 try clear hx193_2
 try clear hx19_0
 try clear hx19_1
 try clear hx19_2
 try clear hx20_0
 try clear p1
 try clear p18
 try clear p184
 try clear p19
 try clear p191
 try clear p193
 try clear p2
 try clear p6
 try clear q1
 try clear q18
 try clear q184
 try clear q19
 try clear q191
 try clear q193
 obtain ⟨kq, x78_36, rfl, HA, HJ36, HO_7, HO_9, HO_12, BK192, HB⟩ := hcut
 cases kq with
 | zero => exact absurd HA.out (by simp [impl_BestCuts.j5])
 | succ kj36 => ?_
 have H := HA.out
 clear HA
 simp only [impl_BestCuts.j5] at H
 by_cases c47 : x78_36 = true
 ·subst c47
  have H1 : (impl_BestCuts.l3 kj36 l0 a1 x7_3 x9_3 (rd_L4 l0 x45_3) x12_5 x54_4 l0 (l0.length : Int) x45_3 (y185.length : Int) x54_4 (rd_L4 l0 x45_3) ((rd_L4 l0 x45_3).length : Int) (wrap64 (x59_5 + 1))) = some (r1, r2, r3) := by rw [if_pos rfl] at H; exact H
  clear H
  have H := H1
  clear H1
  have H' := Aside0.mk H
  clear H
  go_wp2
  (try simp only [← hl12_5])
  subst hji27
  subst hji10
  go_roundg kj36
  case measure => have := HJ2.out; have := HK2.out; have := HK3.out; have := HK4.out; have := HK5.out; have := HJ36.out; omega
  case rel => exact ⟨(x12_5), (wrap64 (x59_5 + 1)), (by first|rfl|(simp; done)|(simp [*]; done)), H', ⟨by have := HJ2.out; have := HK2.out; have := HK3.out; have := HK4.out; have := HK5.out; have := HJ36.out; omega⟩, ⟨by (try simp only [hl7_2]); (try simp only [hl12_4]); (try simp only [hl12_5]); (with_reducible repeat (first | apply Kd.R_alloc | apply Kd.R_drewN | apply Kd.R_drew)); exact HO_7.out⟩, ⟨by (try simp only [hl7_2]); (try simp only [hl12_4]); (try simp only [hl12_5]); (with_reducible repeat (first | apply Kd.S_alloc | apply Kd.S_drewN | apply Kd.S_drew)); exact HO_9.out⟩, ⟨by (try simp only [hl7_2]); (try simp only [hl12_4]); (try simp only [hl12_5]); (with_reducible repeat (first | apply Kd.R_alloc | apply Kd.R_drewN | apply Kd.R_drew)); exact HO_12.out⟩, ⟨by repeat (first | (with_reducible first | exact HB.out | apply below_alloc | apply pw_below_drewN | apply below_drew1 | refine below_set ?_ GE192.out) | exact HB.out)⟩⟩
 replace c47 := Bool.eq_false_iff.mpr c47
 subst c47
 have H1 : (if 0 ≤ (wrap64 (x54_4 - ((rd_T34 (rd_L4 l0 x45_3) x59_5).f0))) then (if (wrap64 (x54_4 - ((rd_T34 (rd_L4 l0 x45_3) x59_5).f0))) < (x7_3.length : Int) then ((floatBits .add .f32 ((rd_T60 x7_3 (wrap64 (x54_4 - ((rd_T34 (rd_L4 l0 x45_3) x59_5).f0)))).f1) ((rd_T34 (rd_L4 l0 x45_3) x59_5).f1)).bind fun t195 => (if 0 ≤ x54_4 then (if x54_4 < (x12_5.length : Int) then (if ((rd_T60 x12_5 x54_4).f0 = true) then (if (flt .f32 t195 ((rd_T60 x12_5 x54_4).f1)) = true then (impl_BestCuts.l3 kj36 l0 a1 x7_3 x9_3 (rd_L4 l0 x45_3) (x12_5.set (x54_4 : Int).toNat (⟨true, t195, x59_5⟩ : S60)) x54_4 l0 (l0.length : Int) x45_3 (y185.length : Int) x54_4 (rd_L4 l0 x45_3) ((rd_L4 l0 x45_3).length : Int) (wrap64 (x59_5 + 1))) else (impl_BestCuts.l3 kj36 l0 a1 x7_3 x9_3 (rd_L4 l0 x45_3) x12_5 x54_4 l0 (l0.length : Int) x45_3 (y185.length : Int) x54_4 (rd_L4 l0 x45_3) ((rd_L4 l0 x45_3).length : Int) (wrap64 (x59_5 + 1)))) else (impl_BestCuts.l3 kj36 l0 a1 x7_3 x9_3 (rd_L4 l0 x45_3) (x12_5.set (x54_4 : Int).toNat (⟨true, t195, x59_5⟩ : S60)) x54_4 l0 (l0.length : Int) x45_3 (y185.length : Int) x54_4 (rd_L4 l0 x45_3) ((rd_L4 l0 x45_3).length : Int) (wrap64 (x59_5 + 1)))) else (none)) else (none))) else (none)) else (none)) = some (r1, r2, r3) := by rw [if_neg (show ¬ (false = true) by decide)] at H; exact H
 clear H
 have H := H1
 clear H1
 obtain ⟨ji48, hji48⟩ : ∃ j_ : Int, (wrap64 (x54_4 - ((rd_T34 (rd_L4 l0 x45_3) x59_5).f0))) = j_ := ⟨_, rfl⟩
 replace H : (if 0 ≤ (ji48) then (if (ji48) < (x7_3.length : Int) then ((floatBits .add .f32 ((rd_T60 x7_3 (ji48)).f1) ((rd_T34 (rd_L4 l0 x45_3) x59_5).f1)).bind fun t195 => (if 0 ≤ x54_4 then (if x54_4 < (x12_5.length : Int) then (if ((rd_T60 x12_5 x54_4).f0 = true) then (if (flt .f32 t195 ((rd_T60 x12_5 x54_4).f1)) = true then (impl_BestCuts.l3 kj36 l0 a1 x7_3 x9_3 (rd_L4 l0 x45_3) (x12_5.set (x54_4 : Int).toNat (⟨true, t195, x59_5⟩ : S60)) x54_4 l0 (l0.length : Int) x45_3 (y185.length : Int) x54_4 (rd_L4 l0 x45_3) ((rd_L4 l0 x45_3).length : Int) (wrap64 (x59_5 + 1))) else (impl_BestCuts.l3 kj36 l0 a1 x7_3 x9_3 (rd_L4 l0 x45_3) x12_5 x54_4 l0 (l0.length : Int) x45_3 (y185.length : Int) x54_4 (rd_L4 l0 x45_3) ((rd_L4 l0 x45_3).length : Int) (wrap64 (x59_5 + 1)))) else (impl_BestCuts.l3 kj36 l0 a1 x7_3 x9_3 (rd_L4 l0 x45_3) (x12_5.set (x54_4 : Int).toNat (⟨true, t195, x59_5⟩ : S60)) x54_4 l0 (l0.length : Int) x45_3 (y185.length : Int) x54_4 (rd_L4 l0 x45_3) ((rd_L4 l0 x45_3).length : Int) (wrap64 (x59_5 + 1)))) else (none)) else (none))) else (none)) else (none)) = some (r1, r2, r3) := by first | (rw [hji48] at H; exact H) | (simp only [hji48] at H ⊢; exact H)
 have hji48w : (IntKind.i64.wrap (x54_4 - ((rd_T34 (rd_L4 l0 x45_3) x59_5).f0))) = ji48 := (i64_w _).trans hji48
 by_cases c49 : 0 ≤ (ji48)
 rotate_left
 ·rw [if_neg c49] at H
  exact absurd H (by simp)
 rw [if_pos c49] at H
 have c49b0 : decide (0 ≤ (ji48)) = true := decide_eq_true c49
 clear c49
 by_cases c50 : (ji48) < (x7_3.length : Int)
 rotate_left
 ·rw [if_neg c50] at H
  exact absurd H (by simp)
 rw [if_pos c50] at H
 have c50b0 : decide ((ji48) < (x7_3.length : Int)) = true := decide_eq_true c50
 (try (have c50l0 := c50b0; simp only [hl7_2, hl12_4, hl12_5] at c50l0))
 clear c50
 replace H := Option.bind_eq_some_iff.mp H
 obtain ⟨t195, F510, H⟩ := H
 replace H : (if 0 ≤ x54_4 then (if x54_4 < (x12_5.length : Int) then (if ((rd_T60 x12_5 x54_4).f0 = true) then (if (flt .f32 t195 ((rd_T60 x12_5 x54_4).f1)) = true then (impl_BestCuts.l3 kj36 l0 a1 x7_3 x9_3 (rd_L4 l0 x45_3) (x12_5.set (x54_4 : Int).toNat (⟨true, t195, x59_5⟩ : S60)) x54_4 l0 (l0.length : Int) x45_3 (y185.length : Int) x54_4 (rd_L4 l0 x45_3) ((rd_L4 l0 x45_3).length : Int) (wrap64 (x59_5 + 1))) else (impl_BestCuts.l3 kj36 l0 a1 x7_3 x9_3 (rd_L4 l0 x45_3) x12_5 x54_4 l0 (l0.length : Int) x45_3 (y185.length : Int) x54_4 (rd_L4 l0 x45_3) ((rd_L4 l0 x45_3).length : Int) (wrap64 (x59_5 + 1)))) else (impl_BestCuts.l3 kj36 l0 a1 x7_3 x9_3 (rd_L4 l0 x45_3) (x12_5.set (x54_4 : Int).toNat (⟨true, t195, x59_5⟩ : S60)) x54_4 l0 (l0.length : Int) x45_3 (y185.length : Int) x54_4 (rd_L4 l0 x45_3) ((rd_L4 l0 x45_3).length : Int) (wrap64 (x59_5 + 1)))) else (none)) else (none)) = some (r1, r2, r3) := H
 have F51 := run_float_op (P := Try.prog) F510
 clear F510
 by_cases c52 : 0 ≤ x54_4
 rotate_left
 ·rw [if_neg c52] at H
  exact absurd H (by simp)
 rw [if_pos c52] at H
 have c52b0 : decide (0 ≤ x54_4) = true := decide_eq_true c52
 clear c52
 by_cases c53 : x54_4 < (x12_5.length : Int)
 rotate_left
 ·rw [if_neg c53] at H
  exact absurd H (by simp)
 rw [if_pos c53] at H
 have c53b0 : decide (x54_4 < (x12_5.length : Int)) = true := decide_eq_true c53
 (try (have c53l0 := c53b0; simp only [hl7_2, hl12_4, hl12_5] at c53l0))
 clear c53
 obtain ⟨bq54, hbq54⟩ : ∃ b_ : Bool, b_ = ((rd_T60 x12_5 x54_4).f0) := ⟨_, rfl⟩
 replace H : (if (bq54 = true) then (if (flt .f32 t195 ((rd_T60 x12_5 x54_4).f1)) = true then (impl_BestCuts.l3 kj36 l0 a1 x7_3 x9_3 (rd_L4 l0 x45_3) (x12_5.set (x54_4 : Int).toNat (⟨true, t195, x59_5⟩ : S60)) x54_4 l0 (l0.length : Int) x45_3 (y185.length : Int) x54_4 (rd_L4 l0 x45_3) ((rd_L4 l0 x45_3).length : Int) (wrap64 (x59_5 + 1))) else (impl_BestCuts.l3 kj36 l0 a1 x7_3 x9_3 (rd_L4 l0 x45_3) x12_5 x54_4 l0 (l0.length : Int) x45_3 (y185.length : Int) x54_4 (rd_L4 l0 x45_3) ((rd_L4 l0 x45_3).length : Int) (wrap64 (x59_5 + 1)))) else (impl_BestCuts.l3 kj36 l0 a1 x7_3 x9_3 (rd_L4 l0 x45_3) (x12_5.set (x54_4 : Int).toNat (⟨true, t195, x59_5⟩ : S60)) x54_4 l0 (l0.length : Int) x45_3 (y185.length : Int) x54_4 (rd_L4 l0 x45_3) ((rd_L4 l0 x45_3).length : Int) (wrap64 (x59_5 + 1)))) = some (r1, r2, r3) := by rw [← hbq54] at H; exact H
 have Nbq54 := Aside0.mk hbq54
 clear hbq54
 by_cases c55 : (bq54 = true)
 rotate_left
 ·replace c55 := Bool.eq_false_iff.mpr c55
  subst c55
  have H1 : (impl_BestCuts.l3 kj36 l0 a1 x7_3 x9_3 (rd_L4 l0 x45_3) (x12_5.set (x54_4 : Int).toNat (⟨true, t195, x59_5⟩ : S60)) x54_4 l0 (l0.length : Int) x45_3 (y185.length : Int) x54_4 (rd_L4 l0 x45_3) ((rd_L4 l0 x45_3).length : Int) (wrap64 (x59_5 + 1))) = some (r1, r2, r3) := by rw [if_neg (show ¬ (false = true) by decide)] at H; exact H
  clear H
  have H := H1
  clear H1
  obtain ⟨y199, hy199⟩ : ∃ y_ : List (S60), y_ = (x12_5.set (x54_4 : Int).toNat (⟨true, t195, x59_5⟩ : S60)) := ⟨_, rfl⟩
  replace H : (impl_BestCuts.l3 kj36 l0 a1 x7_3 x9_3 (rd_L4 l0 x45_3) y199 x54_4 l0 (l0.length : Int) x45_3 (y185.length : Int) x54_4 (rd_L4 l0 x45_3) ((rd_L4 l0 x45_3).length : Int) (wrap64 (x59_5 + 1))) = some (r1, r2, r3) := by first | (rw [hy199]; with_reducible exact H) | (have H2_ := (Option.bind_some _ _).symm.trans H; rw [hy199]; with_reducible exact H2_) | (have H2_ := (Option.bind_some _ _).symm.trans H; with_reducible exact H2_) | with_reducible exact H | (rw [hy199]; exact H) | exact H
  have Ny199 := Aside0.mk hy199
  clear hy199
  have H' := Aside0.mk H
  clear H
  have hcz65_0 : wc.cell? ⟨gb192, 0, none⟩ = some (.int .i64 ((rd_T34 (rd_L4 l0 x45_3) x59_5).f0)) := (blk_cell BK192.out 0).trans rfl
  have hcz65_1 : wc.cell? ⟨gb192, 1, none⟩ = some (.float .f32 ((rd_T34 (rd_L4 l0 x45_3) x59_5).f1)) := (blk_cell BK192.out 1).trans rfl
  have hfz65_0 := blk_frozen BK192.out 0
  have hfz65_1 := blk_frozen BK192.out 1
  obtain ⟨Ao66, co66, eo66⟩ := Kd.R_slice HO_7.out
  subst eo66
  have p194 : 0 ≤ ((ji48) : Int) := of_decide_eq_true (by first | (with_reducible assumption) | assumption)
  have q194 : (ji48) < (x7_3.length : Int) := of_decide_eq_true (by first | (with_reducible assumption) | assumption)
  obtain ⟨ad194, e194, hx194_0, hx194_1, hx194_2⟩ := at_T60 (Kd.R_reads' HO_7.out).2.2 (ji48) p194 q194
  (try rw [← Nbq54.out] at hx194_0)
  cases e194
  replace p194 := eq_true p194
  replace q194 := eq_true q194
  have p196 : 0 ≤ (x54_4 : Int) := of_decide_eq_true (by first | (with_reducible assumption) | assumption)
  have q196 : x54_4 < (x12_5.length : Int) := of_decide_eq_true (by first | (with_reducible assumption) | assumption)
  obtain ⟨ad196, e196, hx196_0, hx196_1, hx196_2⟩ := at_T60 (Kd.R_reads' HO_12.out).2.2 x54_4 p196 q196
  (try rw [← Nbq54.out] at hx196_0)
  cases e196
  replace p196 := eq_true p196
  replace q196 := eq_true q196
  have p64 : 0 ≤ (x54_4 : Int) := of_decide_eq_true (by first | (with_reducible assumption) | assumption)
  have q64 : (x54_4 : Int) < ((x12_5.length : Int) : Int) := of_decide_eq_true (by first | (with_reducible assumption) | assumption)
  obtain ⟨go64, co64, eo64, gb64, gl64, cl64, HG64⟩ := Kd.R_form HO_12.out (by omega)
  (first | cases eo64 | (injection eo64 with ea_ en_ ec_; (first | subst ea_ | (injection ea_ with ea_; subst ea_)); subst ec_; clear en_))
  have GB64 := Aside0.mk gb64
  have GG64 := Aside0.mk HG64
  clear gb64 gl64 HG64
  (first | simp only [add_plain] at hx196_0 | skip)
  (first | simp only [add_plain] at hx196_1 | skip)
  (first | simp only [add_plain] at hx196_2 | skip)
  (first | simp only [add_plain] at hx197_0 | skip)
  (first | simp only [add_plain] at hx197_1 | skip)
  (first | simp only [add_plain] at hx197_2 | skip)
  obtain ⟨ce64, hcl64, hM64, hcc64, hfr64⟩ := Kd.R_elem HO_12.out z60 (x54_4 : Int) p64 q64
  obtain rfl := k60_openM hM64
  have hx64_0 : wc.cell? ⟨go64, (x54_4 : Int).toNat * 3, none⟩ = some (.bool ((rd_T60 x12_5 x54_4).f0)) := hcc64 0 _ rfl
  have hx64_1 : wc.cell? ⟨go64, (x54_4 : Int).toNat * 3 + 1, none⟩ = some (.float .f32 ((rd_T60 x12_5 x54_4).f1)) := hcc64 1 _ rfl
  have hx64_2 : wc.cell? ⟨go64, (x54_4 : Int).toNat * 3 + 2, none⟩ = some (.int .i64 ((rd_T60 x12_5 x54_4).f2)) := hcc64 2 _ rfl
  have hf64_0 : wc.frozen? ⟨go64, (x54_4 : Int).toNat * 3, none⟩ = false := hfr64 0
  have hf64_1 : wc.frozen? ⟨go64, (x54_4 : Int).toNat * 3 + 1, none⟩ = false := hfr64 1
  have hf64_2 : wc.frozen? ⟨go64, (x54_4 : Int).toNat * 3 + 2, none⟩ = false := hfr64 2
  clear hcl64 hcc64 hfr64; (try clear hM64)
  replace p64 := eq_true p64
  replace q64 := eq_true q64
  have HX67 := Aside0.mk (show Kd.R k60 60 wc w.heap.size (fun k_ => some k_ ≠ (.slice (some ad194) x7_3.length co66 : Value).ownBlock) (.slice (some ⟨go64, 0, none⟩) x12_5.length co32) x12_5 from (by (with_reducible repeat (first | apply Kd.R_alloc | apply Kd.R_drewN | apply Kd.R_drew)); exact HO_12.out))
  obtain ⟨ce67, hcl67, hM67, hcc67, hfr67⟩ := Kd.R_elem HX67.out z60 (x54_4 : Int) (of_decide_eq_true (by first | (with_reducible assumption) | assumption)) (by have h_ : (x54_4 : Int) < ((x12_5.length : Int) : Int) := of_decide_eq_true (by first | (with_reducible assumption) | assumption); first | exact h_ | (have e_ := (Kd.R_reads' HO_12.out).1; omega) | simpa using h_)
  obtain rfl := k60_openM hM67
  have HP67 := Kd.R_seg HX67.out (x54_4 : Int) (of_decide_eq_true (by first | (with_reducible assumption) | assumption)) (by have h_ : (x54_4 : Int) < ((x12_5.length : Int) : Int) := of_decide_eq_true (by first | (with_reducible assumption) | assumption); first | exact h_ | (have e_ := (Kd.R_reads' HO_12.out).1; omega) | simpa using h_) (seg := [.bool true, .float .f32 t195, .int .i64 x59_5]) (j := 0) hcl67 hcc67 (show 3 ≤ 3 from by decide) (x' := (⟨true, t195, x59_5⟩ : S60)) (k60_mkM _ _ _ (⟨true, t195, x59_5⟩ : S60) ) (fun _ hk => hk)
  have hx67_0 := hcc67 0 _ rfl
  (try simp only [show (k60).sz = 3 from rfl, Nat.mul_one, Nat.add_zero] at hx67_0)
  have hf67_0 := hfr67 0
  (try simp only [show (k60).sz = 3 from rfl, Nat.mul_one, Nat.add_zero] at hf67_0)
  have hx67_1 := hcc67 1 _ rfl
  (try simp only [show (k60).sz = 3 from rfl, Nat.mul_one, Nat.add_zero] at hx67_1)
  have hf67_1 := hfr67 1
  (try simp only [show (k60).sz = 3 from rfl, Nat.mul_one, Nat.add_zero] at hf67_1)
  have hx67_2 := hcc67 2 _ rfl
  (try simp only [show (k60).sz = 3 from rfl, Nat.mul_one, Nat.add_zero] at hx67_2)
  have hf67_2 := hfr67 2
  (try simp only [show (k60).sz = 3 from rfl, Nat.mul_one, Nat.add_zero] at hf67_2)
  clear hcl67 hcc67 hfr67; (try clear hM67)
  go_wp2_with (first | ((with_reducible refine gate_store (t := 60) (p := 110) rfl ?_); (try (rw [drewN_self wc]; generalize hq_ : World.drewN wc _ = wc; have n0_ := Aside0.mk (Kd.R_at hq_ HO_7.out); have n1_ := Aside0.mk (Kd.S_at hq_ HO_9.out); have n2_ := Aside0.mk (Kd.R_at hq_ HO_12.out); have n3_ := Aside0.mk (blk_at hq_ BK192.out); have n4_ := Aside0.mk (below_at hq_ HB.out); clear hq_ HO_7 HO_9 HO_12 BK192 HB; have HO_7 := n0_; have HO_9 := n1_; have HO_12 := n2_; have BK192 := n3_; have HB := n4_; clear n0_ n1_ n2_ n3_ n4_; (try (have HX67 := Aside0.mk (show Kd.R k60 60 wc w.heap.size (fun k_ => some k_ ≠ (.slice (some ad194) x7_3.length co66 : Value).ownBlock) (.slice (some ⟨go64, 0, none⟩) x12_5.length co32) x12_5 from (by (with_reducible repeat (first | apply Kd.R_alloc | apply Kd.R_drewN | apply Kd.R_drew)); exact HO_12.out)))); (try (obtain ⟨ce67, hcl67, hM67, hcc67, hfr67⟩ := Kd.R_elem HX67.out z60 (x54_4 : Int) (of_decide_eq_true (by first | (with_reducible assumption) | assumption)) (by have h_ : (x54_4 : Int) < ((x12_5.length : Int) : Int) := of_decide_eq_true (by first | (with_reducible assumption) | assumption); first | exact h_ | (have e_ := (Kd.R_reads' HO_12.out).1; omega) | simpa using h_))); (try (obtain rfl := k60_openM hM67)); (try (have HP67 := Kd.R_seg HX67.out (x54_4 : Int) (of_decide_eq_true (by first | (with_reducible assumption) | assumption)) (by have h_ : (x54_4 : Int) < ((x12_5.length : Int) : Int) := of_decide_eq_true (by first | (with_reducible assumption) | assumption); first | exact h_ | (have e_ := (Kd.R_reads' HO_12.out).1; omega) | simpa using h_) (seg := [.bool true, .float .f32 t195, .int .i64 x59_5]) (j := 0) hcl67 hcc67 (show 3 ≤ 3 from by decide) (x' := (⟨true, t195, x59_5⟩ : S60)) (k60_mkM _ _ _ (⟨true, t195, x59_5⟩ : S60) ) (fun _ hk => hk))); (try (have hx67_0 := hcc67 0 _ rfl)); (try (try simp only [show (k60).sz = 3 from rfl, Nat.mul_one, Nat.add_zero] at hx67_0)); (try (have hf67_0 := hfr67 0)); (try (try simp only [show (k60).sz = 3 from rfl, Nat.mul_one, Nat.add_zero] at hf67_0)); (try (have hx67_1 := hcc67 1 _ rfl)); (try (try simp only [show (k60).sz = 3 from rfl, Nat.mul_one, Nat.add_zero] at hx67_1)); (try (have hf67_1 := hfr67 1)); (try (try simp only [show (k60).sz = 3 from rfl, Nat.mul_one, Nat.add_zero] at hf67_1)); (try (have hx67_2 := hcc67 2 _ rfl)); (try (try simp only [show (k60).sz = 3 from rfl, Nat.mul_one, Nat.add_zero] at hx67_2)); (try (have hf67_2 := hfr67 2)); (try (try simp only [show (k60).sz = 3 from rfl, Nat.mul_one, Nat.add_zero] at hf67_2)); (try (clear hcl67 hcc67 hfr67; (try clear hM67))))); refine store_event (t := 60) (p := 110) (v := ?vo_w68) (w1 := (((wc.setCell ⟨go64, (x54_4 : Int).toNat * 3, none⟩ (.bool true)).setCell ⟨go64, (x54_4 : Int).toNat * 3 + 1, none⟩ (.float .f32 t195)).setCell ⟨go64, (x54_4 : Int).toNat * 3 + 2, none⟩ (.int .i64 x59_5))) ?hg ?ho ?hn ?hr ?_; (case ho => rfl); (case hg => rfl); (case hn => rfl); (case hr => first | (go_simp; done) | (go_simp; rfl)); intro w68 hw; have hg : wc.grownBy w68 (some go64) := (by rw [hw]; exact HP67.2); have hp_ : Kd.R k60 60 w68 w.heap.size (fun k_ => some k_ ≠ (.slice (some ad194) x7_3.length co66 : Value).ownBlock) (.slice (some ⟨go64, 0, none⟩) x12_5.length co32) y199 := (by rw [hw, Ny199.out]; exact HP67.1); clear HP67; have n0_ := Aside0.mk (Kd.R_after (v := (.slice (some ⟨go64, 0, none⟩) x12_5.length co32)) (v1 := (.slice (some ⟨go64, 0, none⟩) x12_5.length co32)) (ok := (fun _ => True)) (by (with_reducible repeat (first | apply Kd.R_alloc | apply Kd.R_drewN | apply Kd.R_drew)); exact Kd.R_mono HO_7.out (fun _ hk => ⟨trivial, hk⟩)) hg (.inl rfl)); have n1_ := Aside0.mk (Kd.S_after (v := (.slice (some ⟨go64, 0, none⟩) x12_5.length co32)) (v1 := (.slice (some ⟨go64, 0, none⟩) x12_5.length co32)) (ok := (fun _ => True)) (by (with_reducible repeat (first | apply Kd.S_alloc | apply Kd.S_drewN | apply Kd.S_drew)); exact Kd.S_mono HO_9.out (fun _ hk => ⟨trivial, hk⟩)) hg (.inl rfl)); have n2_ := Aside0.mk (hp_); have n3_ := Aside0.mk (blk_grown (g := gb192) (o := .cells #[.int .i64 ((rd_T34 (rd_L4 l0 x45_3) x59_5).f0), .float .f32 ((rd_T34 (rd_L4 l0 x45_3) x59_5).f1)] 34 (0, 0)) (by (with_reducible repeat (first | refine blk_drewN ?_ _ | refine blk_drew ?_ | refine blk_alloc ?_ _)); exact BK192.out) hg (Kd.R_ne HO_12.out BK192.out (by decide))); have n4_ := Aside0.mk ((by rw [hw]; exact below_set (below_set (below_set (HB.out) GB64.out) GB64.out) GB64.out : Below w.heap.size w w68)); clear HO_7; clear HO_9; clear HO_12; clear BK192; clear HB; have HO_7 := n0_; have HO_9 := n1_; have HO_12 := n2_; have BK192 := n3_; have HB := n4_; clear n0_ n1_ n2_ n3_ n4_; clear hg hw hp_))
  repeat (go_quiet (first | ((with_reducible refine gate_store (t := 60) (p := 110) rfl ?_); (try (rw [drewN_self wc]; generalize hq_ : World.drewN wc _ = wc; have n0_ := Aside0.mk (Kd.R_at hq_ HO_7.out); have n1_ := Aside0.mk (Kd.S_at hq_ HO_9.out); have n2_ := Aside0.mk (Kd.R_at hq_ HO_12.out); have n3_ := Aside0.mk (blk_at hq_ BK192.out); have n4_ := Aside0.mk (below_at hq_ HB.out); clear hq_ HO_7 HO_9 HO_12 BK192 HB; have HO_7 := n0_; have HO_9 := n1_; have HO_12 := n2_; have BK192 := n3_; have HB := n4_; clear n0_ n1_ n2_ n3_ n4_; (try (have HX67 := Aside0.mk (show Kd.R k60 60 wc w.heap.size (fun k_ => some k_ ≠ (.slice (some ad194) x7_3.length co66 : Value).ownBlock) (.slice (some ⟨go64, 0, none⟩) x12_5.length co32) x12_5 from (by (with_reducible repeat (first | apply Kd.R_alloc | apply Kd.R_drewN | apply Kd.R_drew)); exact HO_12.out)))); (try (obtain ⟨ce67, hcl67, hM67, hcc67, hfr67⟩ := Kd.R_elem HX67.out z60 (x54_4 : Int) (of_decide_eq_true (by first | (with_reducible assumption) | assumption)) (by have h_ : (x54_4 : Int) < ((x12_5.length : Int) : Int) := of_decide_eq_true (by first | (with_reducible assumption) | assumption); first | exact h_ | (have e_ := (Kd.R_reads' HO_12.out).1; omega) | simpa using h_))); (try (obtain rfl := k60_openM hM67)); (try (have HP67 := Kd.R_seg HX67.out (x54_4 : Int) (of_decide_eq_true (by first | (with_reducible assumption) | assumption)) (by have h_ : (x54_4 : Int) < ((x12_5.length : Int) : Int) := of_decide_eq_true (by first | (with_reducible assumption) | assumption); first | exact h_ | (have e_ := (Kd.R_reads' HO_12.out).1; omega) | simpa using h_) (seg := [.bool true, .float .f32 t195, .int .i64 x59_5]) (j := 0) hcl67 hcc67 (show 3 ≤ 3 from by decide) (x' := (⟨true, t195, x59_5⟩ : S60)) (k60_mkM _ _ _ (⟨true, t195, x59_5⟩ : S60) ) (fun _ hk => hk))); (try (have hx67_0 := hcc67 0 _ rfl)); (try (try simp only [show (k60).sz = 3 from rfl, Nat.mul_one, Nat.add_zero] at hx67_0)); (try (have hf67_0 := hfr67 0)); (try (try simp only [show (k60).sz = 3 from rfl, Nat.mul_one, Nat.add_zero] at hf67_0)); (try (have hx67_1 := hcc67 1 _ rfl)); (try (try simp only [show (k60).sz = 3 from rfl, Nat.mul_one, Nat.add_zero] at hx67_1)); (try (have hf67_1 := hfr67 1)); (try (try simp only [show (k60).sz = 3 from rfl, Nat.mul_one, Nat.add_zero] at hf67_1)); (try (have hx67_2 := hcc67 2 _ rfl)); (try (try simp only [show (k60).sz = 3 from rfl, Nat.mul_one, Nat.add_zero] at hx67_2)); (try (have hf67_2 := hfr67 2)); (try (try simp only [show (k60).sz = 3 from rfl, Nat.mul_one, Nat.add_zero] at hf67_2)); (try (clear hcl67 hcc67 hfr67; (try clear hM67))))); refine store_event (t := 60) (p := 110) (v := ?vo_w68) (w1 := (((wc.setCell ⟨go64, (x54_4 : Int).toNat * 3, none⟩ (.bool true)).setCell ⟨go64, (x54_4 : Int).toNat * 3 + 1, none⟩ (.float .f32 t195)).setCell ⟨go64, (x54_4 : Int).toNat * 3 + 2, none⟩ (.int .i64 x59_5))) ?hg ?ho ?hn ?hr ?_; (case ho => rfl); (case hg => rfl); (case hn => rfl); (case hr => first | (go_simp; done) | (go_simp; rfl)); intro w68 hw; have hg : wc.grownBy w68 (some go64) := (by rw [hw]; exact HP67.2); have hp_ : Kd.R k60 60 w68 w.heap.size (fun k_ => some k_ ≠ (.slice (some ad194) x7_3.length co66 : Value).ownBlock) (.slice (some ⟨go64, 0, none⟩) x12_5.length co32) y199 := (by rw [hw, Ny199.out]; exact HP67.1); clear HP67; have n0_ := Aside0.mk (Kd.R_after (v := (.slice (some ⟨go64, 0, none⟩) x12_5.length co32)) (v1 := (.slice (some ⟨go64, 0, none⟩) x12_5.length co32)) (ok := (fun _ => True)) (by (with_reducible repeat (first | apply Kd.R_alloc | apply Kd.R_drewN | apply Kd.R_drew)); exact Kd.R_mono HO_7.out (fun _ hk => ⟨trivial, hk⟩)) hg (.inl rfl)); have n1_ := Aside0.mk (Kd.S_after (v := (.slice (some ⟨go64, 0, none⟩) x12_5.length co32)) (v1 := (.slice (some ⟨go64, 0, none⟩) x12_5.length co32)) (ok := (fun _ => True)) (by (with_reducible repeat (first | apply Kd.S_alloc | apply Kd.S_drewN | apply Kd.S_drew)); exact Kd.S_mono HO_9.out (fun _ hk => ⟨trivial, hk⟩)) hg (.inl rfl)); have n2_ := Aside0.mk (hp_); have n3_ := Aside0.mk (blk_grown (g := gb192) (o := .cells #[.int .i64 ((rd_T34 (rd_L4 l0 x45_3) x59_5).f0), .float .f32 ((rd_T34 (rd_L4 l0 x45_3) x59_5).f1)] 34 (0, 0)) (by (with_reducible repeat (first | refine blk_drewN ?_ _ | refine blk_drew ?_ | refine blk_alloc ?_ _)); exact BK192.out) hg (Kd.R_ne HO_12.out BK192.out (by decide))); have n4_ := Aside0.mk ((by rw [hw]; exact below_set (below_set (below_set (HB.out) GB64.out) GB64.out) GB64.out : Below w.heap.size w w68)); clear HO_7; clear HO_9; clear HO_12; clear BK192; clear HB; have HO_7 := n0_; have HO_9 := n1_; have HO_12 := n2_; have BK192 := n3_; have HB := n4_; clear n0_ n1_ n2_ n3_ n4_; clear hg hw hp_)); try go_wp2_with (first | ((with_reducible refine gate_store (t := 60) (p := 110) rfl ?_); (try (rw [drewN_self wc]; generalize hq_ : World.drewN wc _ = wc; have n0_ := Aside0.mk (Kd.R_at hq_ HO_7.out); have n1_ := Aside0.mk (Kd.S_at hq_ HO_9.out); have n2_ := Aside0.mk (Kd.R_at hq_ HO_12.out); have n3_ := Aside0.mk (blk_at hq_ BK192.out); have n4_ := Aside0.mk (below_at hq_ HB.out); clear hq_ HO_7 HO_9 HO_12 BK192 HB; have HO_7 := n0_; have HO_9 := n1_; have HO_12 := n2_; have BK192 := n3_; have HB := n4_; clear n0_ n1_ n2_ n3_ n4_; (try (have HX67 := Aside0.mk (show Kd.R k60 60 wc w.heap.size (fun k_ => some k_ ≠ (.slice (some ad194) x7_3.length co66 : Value).ownBlock) (.slice (some ⟨go64, 0, none⟩) x12_5.length co32) x12_5 from (by (with_reducible repeat (first | apply Kd.R_alloc | apply Kd.R_drewN | apply Kd.R_drew)); exact HO_12.out)))); (try (obtain ⟨ce67, hcl67, hM67, hcc67, hfr67⟩ := Kd.R_elem HX67.out z60 (x54_4 : Int) (of_decide_eq_true (by first | (with_reducible assumption) | assumption)) (by have h_ : (x54_4 : Int) < ((x12_5.length : Int) : Int) := of_decide_eq_true (by first | (with_reducible assumption) | assumption); first | exact h_ | (have e_ := (Kd.R_reads' HO_12.out).1; omega) | simpa using h_))); (try (obtain rfl := k60_openM hM67)); (try (have HP67 := Kd.R_seg HX67.out (x54_4 : Int) (of_decide_eq_true (by first | (with_reducible assumption) | assumption)) (by have h_ : (x54_4 : Int) < ((x12_5.length : Int) : Int) := of_decide_eq_true (by first | (with_reducible assumption) | assumption); first | exact h_ | (have e_ := (Kd.R_reads' HO_12.out).1; omega) | simpa using h_) (seg := [.bool true, .float .f32 t195, .int .i64 x59_5]) (j := 0) hcl67 hcc67 (show 3 ≤ 3 from by decide) (x' := (⟨true, t195, x59_5⟩ : S60)) (k60_mkM _ _ _ (⟨true, t195, x59_5⟩ : S60) ) (fun _ hk => hk))); (try (have hx67_0 := hcc67 0 _ rfl)); (try (try simp only [show (k60).sz = 3 from rfl, Nat.mul_one, Nat.add_zero] at hx67_0)); (try (have hf67_0 := hfr67 0)); (try (try simp only [show (k60).sz = 3 from rfl, Nat.mul_one, Nat.add_zero] at hf67_0)); (try (have hx67_1 := hcc67 1 _ rfl)); (try (try simp only [show (k60).sz = 3 from rfl, Nat.mul_one, Nat.add_zero] at hx67_1)); (try (have hf67_1 := hfr67 1)); (try (try simp only [show (k60).sz = 3 from rfl, Nat.mul_one, Nat.add_zero] at hf67_1)); (try (have hx67_2 := hcc67 2 _ rfl)); (try (try simp only [show (k60).sz = 3 from rfl, Nat.mul_one, Nat.add_zero] at hx67_2)); (try (have hf67_2 := hfr67 2)); (try (try simp only [show (k60).sz = 3 from rfl, Nat.mul_one, Nat.add_zero] at hf67_2)); (try (clear hcl67 hcc67 hfr67; (try clear hM67))))); refine store_event (t := 60) (p := 110) (v := ?vo_w68) (w1 := (((wc.setCell ⟨go64, (x54_4 : Int).toNat * 3, none⟩ (.bool true)).setCell ⟨go64, (x54_4 : Int).toNat * 3 + 1, none⟩ (.float .f32 t195)).setCell ⟨go64, (x54_4 : Int).toNat * 3 + 2, none⟩ (.int .i64 x59_5))) ?hg ?ho ?hn ?hr ?_; (case ho => rfl); (case hg => rfl); (case hn => rfl); (case hr => first | (go_simp; done) | (go_simp; rfl)); intro w68 hw; have hg : wc.grownBy w68 (some go64) := (by rw [hw]; exact HP67.2); have hp_ : Kd.R k60 60 w68 w.heap.size (fun k_ => some k_ ≠ (.slice (some ad194) x7_3.length co66 : Value).ownBlock) (.slice (some ⟨go64, 0, none⟩) x12_5.length co32) y199 := (by rw [hw, Ny199.out]; exact HP67.1); clear HP67; have n0_ := Aside0.mk (Kd.R_after (v := (.slice (some ⟨go64, 0, none⟩) x12_5.length co32)) (v1 := (.slice (some ⟨go64, 0, none⟩) x12_5.length co32)) (ok := (fun _ => True)) (by (with_reducible repeat (first | apply Kd.R_alloc | apply Kd.R_drewN | apply Kd.R_drew)); exact Kd.R_mono HO_7.out (fun _ hk => ⟨trivial, hk⟩)) hg (.inl rfl)); have n1_ := Aside0.mk (Kd.S_after (v := (.slice (some ⟨go64, 0, none⟩) x12_5.length co32)) (v1 := (.slice (some ⟨go64, 0, none⟩) x12_5.length co32)) (ok := (fun _ => True)) (by (with_reducible repeat (first | apply Kd.S_alloc | apply Kd.S_drewN | apply Kd.S_drew)); exact Kd.S_mono HO_9.out (fun _ hk => ⟨trivial, hk⟩)) hg (.inl rfl)); have n2_ := Aside0.mk (hp_); have n3_ := Aside0.mk (blk_grown (g := gb192) (o := .cells #[.int .i64 ((rd_T34 (rd_L4 l0 x45_3) x59_5).f0), .float .f32 ((rd_T34 (rd_L4 l0 x45_3) x59_5).f1)] 34 (0, 0)) (by (with_reducible repeat (first | refine blk_drewN ?_ _ | refine blk_drew ?_ | refine blk_alloc ?_ _)); exact BK192.out) hg (Kd.R_ne HO_12.out BK192.out (by decide))); have n4_ := Aside0.mk ((by rw [hw]; exact below_set (below_set (below_set (HB.out) GB64.out) GB64.out) GB64.out : Below w.heap.size w w68)); clear HO_7; clear HO_9; clear HO_12; clear BK192; clear HB; have HO_7 := n0_; have HO_9 := n1_; have HO_12 := n2_; have BK192 := n3_; have HB := n4_; clear n0_ n1_ n2_ n3_ n4_; clear hg hw hp_)))
  (try simp only [← hl12_5])
  subst hji48
  subst hji27
  subst hji10
  go_roundg kj36
  case measure => have := HJ2.out; have := HK2.out; have := HK3.out; have := HK4.out; have := HK5.out; have := HJ36.out; omega
  case rel => exact ⟨(y199), (wrap64 (x59_5 + 1)), (by first|rfl|(simp; done)|(simp [*]; done)), H', ⟨by have := HJ2.out; have := HK2.out; have := HK3.out; have := HK4.out; have := HK5.out; have := HJ36.out; omega⟩, ⟨by (try simp only [hl7_2]); (try simp only [hl12_4]); (try simp only [hl12_5]); (with_reducible repeat (first | apply Kd.R_alloc | apply Kd.R_drewN | apply Kd.R_drew)); exact Kd.R_mono HO_7.out (fun _ hk => hk.2)⟩, ⟨by (try simp only [hl7_2]); (try simp only [hl12_4]); (try simp only [hl12_5]); (with_reducible repeat (first | apply Kd.S_alloc | apply Kd.S_drewN | apply Kd.S_drew)); exact Kd.S_mono HO_9.out (fun _ hk => hk.2)⟩, ⟨by (try simp only [hl7_2]); (try simp only [hl12_4]); (try simp only [hl12_5]); (with_reducible repeat (first | apply Kd.R_alloc | apply Kd.R_drewN | apply Kd.R_drew)); exact HO_12.out⟩, ⟨by repeat (first | (with_reducible first | exact HB.out | apply below_alloc | apply pw_below_drewN | apply below_drew1 | refine below_set ?_ GE192.out) | exact HB.out)⟩⟩
 subst c55
 have H1 : (if (flt .f32 t195 ((rd_T60 x12_5 x54_4).f1)) = true then (impl_BestCuts.l3 kj36 l0 a1 x7_3 x9_3 (rd_L4 l0 x45_3) (x12_5.set (x54_4 : Int).toNat (⟨true, t195, x59_5⟩ : S60)) x54_4 l0 (l0.length : Int) x45_3 (y185.length : Int) x54_4 (rd_L4 l0 x45_3) ((rd_L4 l0 x45_3).length : Int) (wrap64 (x59_5 + 1))) else (impl_BestCuts.l3 kj36 l0 a1 x7_3 x9_3 (rd_L4 l0 x45_3) x12_5 x54_4 l0 (l0.length : Int) x45_3 (y185.length : Int) x54_4 (rd_L4 l0 x45_3) ((rd_L4 l0 x45_3).length : Int) (wrap64 (x59_5 + 1)))) = some (r1, r2, r3) := by rw [if_pos rfl] at H; exact H
 clear H
 have H := H1
 clear H1
 by_cases c56 : (flt .f32 t195 ((rd_T60 x12_5 x54_4).f1)) = true
 rotate_left
 ·rw [if_neg c56] at H
  have c56b0 : (flt .f32 t195 ((rd_T60 x12_5 x54_4).f1)) = false := by simpa using c56
  clear c56
  have H' := Aside0.mk H
  clear H
  have hcz62_0 : wc.cell? ⟨gb192, 0, none⟩ = some (.int .i64 ((rd_T34 (rd_L4 l0 x45_3) x59_5).f0)) := (blk_cell BK192.out 0).trans rfl
  have hcz62_1 : wc.cell? ⟨gb192, 1, none⟩ = some (.float .f32 ((rd_T34 (rd_L4 l0 x45_3) x59_5).f1)) := (blk_cell BK192.out 1).trans rfl
  have hfz62_0 := blk_frozen BK192.out 0
  have hfz62_1 := blk_frozen BK192.out 1
  obtain ⟨Ao63, co63, eo63⟩ := Kd.R_slice HO_7.out
  subst eo63
  have p194 : 0 ≤ ((ji48) : Int) := of_decide_eq_true (by first | (with_reducible assumption) | assumption)
  have q194 : (ji48) < (x7_3.length : Int) := of_decide_eq_true (by first | (with_reducible assumption) | assumption)
  obtain ⟨ad194, e194, hx194_0, hx194_1, hx194_2⟩ := at_T60 (Kd.R_reads' HO_7.out).2.2 (ji48) p194 q194
  (try rw [← Nbq54.out] at hx194_0)
  cases e194
  replace p194 := eq_true p194
  replace q194 := eq_true q194
  have p196 : 0 ≤ (x54_4 : Int) := of_decide_eq_true (by first | (with_reducible assumption) | assumption)
  have q196 : x54_4 < (x12_5.length : Int) := of_decide_eq_true (by first | (with_reducible assumption) | assumption)
  obtain ⟨ad196, e196, hx196_0, hx196_1, hx196_2⟩ := at_T60 (Kd.R_reads' HO_12.out).2.2 x54_4 p196 q196
  (try rw [← Nbq54.out] at hx196_0)
  cases e196
  replace p196 := eq_true p196
  replace q196 := eq_true q196
  have p197 : 0 ≤ (x54_4 : Int) := of_decide_eq_true (by first | (with_reducible assumption) | assumption)
  have q197 : x54_4 < (x12_5.length : Int) := of_decide_eq_true (by first | (with_reducible assumption) | assumption)
  obtain ⟨ad197, e197, hx197_0, hx197_1, hx197_2⟩ := at_T60 (Kd.R_reads' HO_12.out).2.2 x54_4 p197 q197
  (try rw [← Nbq54.out] at hx197_0)
  obtain rfl : ad196 = ad197 := (by injection e197)
  replace p197 := eq_true p197
  replace q197 := eq_true q197
  go_wp2
  repeat (go_quiet (fail); try go_wp2)
  (try simp only [← hl12_5])
  subst hji48
  subst hji27
  subst hji10
  go_roundg kj36
  case measure => have := HJ2.out; have := HK2.out; have := HK3.out; have := HK4.out; have := HK5.out; have := HJ36.out; omega
  case rel => exact ⟨(x12_5), (wrap64 (x59_5 + 1)), (by first|rfl|(simp; done)|(simp [*]; done)), H', ⟨by have := HJ2.out; have := HK2.out; have := HK3.out; have := HK4.out; have := HK5.out; have := HJ36.out; omega⟩, ⟨by (try simp only [hl7_2]); (try simp only [hl12_4]); (try simp only [hl12_5]); (with_reducible repeat (first | apply Kd.R_alloc | apply Kd.R_drewN | apply Kd.R_drew)); exact HO_7.out⟩, ⟨by (try simp only [hl7_2]); (try simp only [hl12_4]); (try simp only [hl12_5]); (with_reducible repeat (first | apply Kd.S_alloc | apply Kd.S_drewN | apply Kd.S_drew)); exact HO_9.out⟩, ⟨by (try simp only [hl7_2]); (try simp only [hl12_4]); (try simp only [hl12_5]); (with_reducible repeat (first | apply Kd.R_alloc | apply Kd.R_drewN | apply Kd.R_drew)); exact HO_12.out⟩, ⟨by repeat (first | (with_reducible first | exact HB.out | apply below_alloc | apply pw_below_drewN | apply below_drew1 | refine below_set ?_ GE192.out) | exact HB.out)⟩⟩
 rw [if_pos c56] at H
 have c56b0 : (flt .f32 t195 ((rd_T60 x12_5 x54_4).f1)) = true := c56
 clear c56
 obtain ⟨y198, hy198⟩ : ∃ y_ : List (S60), y_ = (x12_5.set (x54_4 : Int).toNat (⟨true, t195, x59_5⟩ : S60)) := ⟨_, rfl⟩
 replace H : (impl_BestCuts.l3 kj36 l0 a1 x7_3 x9_3 (rd_L4 l0 x45_3) y198 x54_4 l0 (l0.length : Int) x45_3 (y185.length : Int) x54_4 (rd_L4 l0 x45_3) ((rd_L4 l0 x45_3).length : Int) (wrap64 (x59_5 + 1))) = some (r1, r2, r3) := by first | (rw [hy198]; with_reducible exact H) | (have H2_ := (Option.bind_some _ _).symm.trans H; rw [hy198]; with_reducible exact H2_) | (have H2_ := (Option.bind_some _ _).symm.trans H; with_reducible exact H2_) | with_reducible exact H | (rw [hy198]; exact H) | exact H
 have Ny198 := Aside0.mk hy198
 clear hy198
 have H' := Aside0.mk H
 clear H
 have hcz58_0 : wc.cell? ⟨gb192, 0, none⟩ = some (.int .i64 ((rd_T34 (rd_L4 l0 x45_3) x59_5).f0)) := (blk_cell BK192.out 0).trans rfl
 have hcz58_1 : wc.cell? ⟨gb192, 1, none⟩ = some (.float .f32 ((rd_T34 (rd_L4 l0 x45_3) x59_5).f1)) := (blk_cell BK192.out 1).trans rfl
 have hfz58_0 := blk_frozen BK192.out 0
 have hfz58_1 := blk_frozen BK192.out 1
 obtain ⟨Ao59, co59, eo59⟩ := Kd.R_slice HO_7.out
 subst eo59
 have p194 : 0 ≤ ((ji48) : Int) := of_decide_eq_true (by first | (with_reducible assumption) | assumption)
 have q194 : (ji48) < (x7_3.length : Int) := of_decide_eq_true (by first | (with_reducible assumption) | assumption)
 obtain ⟨ad194, e194, hx194_0, hx194_1, hx194_2⟩ := at_T60 (Kd.R_reads' HO_7.out).2.2 (ji48) p194 q194
 (try rw [← Nbq54.out] at hx194_0)
 cases e194
 replace p194 := eq_true p194
 replace q194 := eq_true q194
 have p196 : 0 ≤ (x54_4 : Int) := of_decide_eq_true (by first | (with_reducible assumption) | assumption)
 have q196 : x54_4 < (x12_5.length : Int) := of_decide_eq_true (by first | (with_reducible assumption) | assumption)
 obtain ⟨ad196, e196, hx196_0, hx196_1, hx196_2⟩ := at_T60 (Kd.R_reads' HO_12.out).2.2 x54_4 p196 q196
 (try rw [← Nbq54.out] at hx196_0)
 cases e196
 replace p196 := eq_true p196
 replace q196 := eq_true q196
 have p197 : 0 ≤ (x54_4 : Int) := of_decide_eq_true (by first | (with_reducible assumption) | assumption)
 have q197 : x54_4 < (x12_5.length : Int) := of_decide_eq_true (by first | (with_reducible assumption) | assumption)
 obtain ⟨ad197, e197, hx197_0, hx197_1, hx197_2⟩ := at_T60 (Kd.R_reads' HO_12.out).2.2 x54_4 p197 q197
 (try rw [← Nbq54.out] at hx197_0)
 obtain rfl : ad196 = ad197 := (by injection e197)
 replace p197 := eq_true p197
 replace q197 := eq_true q197
 have p57 : 0 ≤ (x54_4 : Int) := of_decide_eq_true (by first | (with_reducible assumption) | assumption)
 have q57 : (x54_4 : Int) < ((x12_5.length : Int) : Int) := of_decide_eq_true (by first | (with_reducible assumption) | assumption)
 obtain ⟨go57, co57, eo57, gb57, gl57, cl57, HG57⟩ := Kd.R_form HO_12.out (by omega)
 (first | cases eo57 | (injection eo57 with ea_ en_ ec_; (first | subst ea_ | (injection ea_ with ea_; subst ea_)); subst ec_; clear en_))
 have GB57 := Aside0.mk gb57
 have GG57 := Aside0.mk HG57
 clear gb57 gl57 HG57
 (first | simp only [add_plain] at hx196_0 | skip)
 (first | simp only [add_plain] at hx196_1 | skip)
 (first | simp only [add_plain] at hx196_2 | skip)
 (first | simp only [add_plain] at hx197_0 | skip)
 (first | simp only [add_plain] at hx197_1 | skip)
 (first | simp only [add_plain] at hx197_2 | skip)
 obtain ⟨ce57, hcl57, hM57, hcc57, hfr57⟩ := Kd.R_elem HO_12.out z60 (x54_4 : Int) p57 q57
 obtain rfl := k60_openM hM57
 have hx57_0 : wc.cell? ⟨go57, (x54_4 : Int).toNat * 3, none⟩ = some (.bool ((rd_T60 x12_5 x54_4).f0)) := hcc57 0 _ rfl
 have hx57_1 : wc.cell? ⟨go57, (x54_4 : Int).toNat * 3 + 1, none⟩ = some (.float .f32 ((rd_T60 x12_5 x54_4).f1)) := hcc57 1 _ rfl
 have hx57_2 : wc.cell? ⟨go57, (x54_4 : Int).toNat * 3 + 2, none⟩ = some (.int .i64 ((rd_T60 x12_5 x54_4).f2)) := hcc57 2 _ rfl
 have hf57_0 : wc.frozen? ⟨go57, (x54_4 : Int).toNat * 3, none⟩ = false := hfr57 0
 have hf57_1 : wc.frozen? ⟨go57, (x54_4 : Int).toNat * 3 + 1, none⟩ = false := hfr57 1
 have hf57_2 : wc.frozen? ⟨go57, (x54_4 : Int).toNat * 3 + 2, none⟩ = false := hfr57 2
 clear hcl57 hcc57 hfr57; (try clear hM57)
 replace p57 := eq_true p57
 replace q57 := eq_true q57
 have HX60 := Aside0.mk (show Kd.R k60 60 wc w.heap.size (fun k_ => some k_ ≠ (.slice (some ad194) x7_3.length co59 : Value).ownBlock) (.slice (some ⟨go57, 0, none⟩) x12_5.length co32) x12_5 from (by (with_reducible repeat (first | apply Kd.R_alloc | apply Kd.R_drewN | apply Kd.R_drew)); exact HO_12.out))
 obtain ⟨ce60, hcl60, hM60, hcc60, hfr60⟩ := Kd.R_elem HX60.out z60 (x54_4 : Int) (of_decide_eq_true (by first | (with_reducible assumption) | assumption)) (by have h_ : (x54_4 : Int) < ((x12_5.length : Int) : Int) := of_decide_eq_true (by first | (with_reducible assumption) | assumption); first | exact h_ | (have e_ := (Kd.R_reads' HO_12.out).1; omega) | simpa using h_)
 obtain rfl := k60_openM hM60
 have HP60 := Kd.R_seg HX60.out (x54_4 : Int) (of_decide_eq_true (by first | (with_reducible assumption) | assumption)) (by have h_ : (x54_4 : Int) < ((x12_5.length : Int) : Int) := of_decide_eq_true (by first | (with_reducible assumption) | assumption); first | exact h_ | (have e_ := (Kd.R_reads' HO_12.out).1; omega) | simpa using h_) (seg := [.bool true, .float .f32 t195, .int .i64 x59_5]) (j := 0) hcl60 hcc60 (show 3 ≤ 3 from by decide) (x' := (⟨true, t195, x59_5⟩ : S60)) (k60_mkM _ _ _ (⟨true, t195, x59_5⟩ : S60) ) (fun _ hk => hk)
 have hx60_0 := hcc60 0 _ rfl
 (try simp only [show (k60).sz = 3 from rfl, Nat.mul_one, Nat.add_zero] at hx60_0)
 have hf60_0 := hfr60 0
 (try simp only [show (k60).sz = 3 from rfl, Nat.mul_one, Nat.add_zero] at hf60_0)
 have hx60_1 := hcc60 1 _ rfl
 (try simp only [show (k60).sz = 3 from rfl, Nat.mul_one, Nat.add_zero] at hx60_1)
 have hf60_1 := hfr60 1
 (try simp only [show (k60).sz = 3 from rfl, Nat.mul_one, Nat.add_zero] at hf60_1)
 have hx60_2 := hcc60 2 _ rfl
 (try simp only [show (k60).sz = 3 from rfl, Nat.mul_one, Nat.add_zero] at hx60_2)
 have hf60_2 := hfr60 2
 (try simp only [show (k60).sz = 3 from rfl, Nat.mul_one, Nat.add_zero] at hf60_2)
 clear hcl60 hcc60 hfr60; (try clear hM60)
 go_wp2_with (first | ((with_reducible refine gate_store (t := 60) (p := 110) rfl ?_); (try (rw [drewN_self wc]; generalize hq_ : World.drewN wc _ = wc; have n0_ := Aside0.mk (Kd.R_at hq_ HO_7.out); have n1_ := Aside0.mk (Kd.S_at hq_ HO_9.out); have n2_ := Aside0.mk (Kd.R_at hq_ HO_12.out); have n3_ := Aside0.mk (blk_at hq_ BK192.out); have n4_ := Aside0.mk (below_at hq_ HB.out); clear hq_ HO_7 HO_9 HO_12 BK192 HB; have HO_7 := n0_; have HO_9 := n1_; have HO_12 := n2_; have BK192 := n3_; have HB := n4_; clear n0_ n1_ n2_ n3_ n4_; (try (have HX60 := Aside0.mk (show Kd.R k60 60 wc w.heap.size (fun k_ => some k_ ≠ (.slice (some ad194) x7_3.length co59 : Value).ownBlock) (.slice (some ⟨go57, 0, none⟩) x12_5.length co32) x12_5 from (by (with_reducible repeat (first | apply Kd.R_alloc | apply Kd.R_drewN | apply Kd.R_drew)); exact HO_12.out)))); (try (obtain ⟨ce60, hcl60, hM60, hcc60, hfr60⟩ := Kd.R_elem HX60.out z60 (x54_4 : Int) (of_decide_eq_true (by first | (with_reducible assumption) | assumption)) (by have h_ : (x54_4 : Int) < ((x12_5.length : Int) : Int) := of_decide_eq_true (by first | (with_reducible assumption) | assumption); first | exact h_ | (have e_ := (Kd.R_reads' HO_12.out).1; omega) | simpa using h_))); (try (obtain rfl := k60_openM hM60)); (try (have HP60 := Kd.R_seg HX60.out (x54_4 : Int) (of_decide_eq_true (by first | (with_reducible assumption) | assumption)) (by have h_ : (x54_4 : Int) < ((x12_5.length : Int) : Int) := of_decide_eq_true (by first | (with_reducible assumption) | assumption); first | exact h_ | (have e_ := (Kd.R_reads' HO_12.out).1; omega) | simpa using h_) (seg := [.bool true, .float .f32 t195, .int .i64 x59_5]) (j := 0) hcl60 hcc60 (show 3 ≤ 3 from by decide) (x' := (⟨true, t195, x59_5⟩ : S60)) (k60_mkM _ _ _ (⟨true, t195, x59_5⟩ : S60) ) (fun _ hk => hk))); (try (have hx60_0 := hcc60 0 _ rfl)); (try (try simp only [show (k60).sz = 3 from rfl, Nat.mul_one, Nat.add_zero] at hx60_0)); (try (have hf60_0 := hfr60 0)); (try (try simp only [show (k60).sz = 3 from rfl, Nat.mul_one, Nat.add_zero] at hf60_0)); (try (have hx60_1 := hcc60 1 _ rfl)); (try (try simp only [show (k60).sz = 3 from rfl, Nat.mul_one, Nat.add_zero] at hx60_1)); (try (have hf60_1 := hfr60 1)); (try (try simp only [show (k60).sz = 3 from rfl, Nat.mul_one, Nat.add_zero] at hf60_1)); (try (have hx60_2 := hcc60 2 _ rfl)); (try (try simp only [show (k60).sz = 3 from rfl, Nat.mul_one, Nat.add_zero] at hx60_2)); (try (have hf60_2 := hfr60 2)); (try (try simp only [show (k60).sz = 3 from rfl, Nat.mul_one, Nat.add_zero] at hf60_2)); (try (clear hcl60 hcc60 hfr60; (try clear hM60))))); refine store_event (t := 60) (p := 110) (v := ?vo_w61) (w1 := (((wc.setCell ⟨go57, (x54_4 : Int).toNat * 3, none⟩ (.bool true)).setCell ⟨go57, (x54_4 : Int).toNat * 3 + 1, none⟩ (.float .f32 t195)).setCell ⟨go57, (x54_4 : Int).toNat * 3 + 2, none⟩ (.int .i64 x59_5))) ?hg ?ho ?hn ?hr ?_; (case ho => rfl); (case hg => rfl); (case hn => rfl); (case hr => first | (go_simp; done) | (go_simp; rfl)); intro w61 hw; have hg : wc.grownBy w61 (some go57) := (by rw [hw]; exact HP60.2); have hp_ : Kd.R k60 60 w61 w.heap.size (fun k_ => some k_ ≠ (.slice (some ad194) x7_3.length co59 : Value).ownBlock) (.slice (some ⟨go57, 0, none⟩) x12_5.length co32) y198 := (by rw [hw, Ny198.out]; exact HP60.1); clear HP60; have n0_ := Aside0.mk (Kd.R_after (v := (.slice (some ⟨go57, 0, none⟩) x12_5.length co32)) (v1 := (.slice (some ⟨go57, 0, none⟩) x12_5.length co32)) (ok := (fun _ => True)) (by (with_reducible repeat (first | apply Kd.R_alloc | apply Kd.R_drewN | apply Kd.R_drew)); exact Kd.R_mono HO_7.out (fun _ hk => ⟨trivial, hk⟩)) hg (.inl rfl)); have n1_ := Aside0.mk (Kd.S_after (v := (.slice (some ⟨go57, 0, none⟩) x12_5.length co32)) (v1 := (.slice (some ⟨go57, 0, none⟩) x12_5.length co32)) (ok := (fun _ => True)) (by (with_reducible repeat (first | apply Kd.S_alloc | apply Kd.S_drewN | apply Kd.S_drew)); exact Kd.S_mono HO_9.out (fun _ hk => ⟨trivial, hk⟩)) hg (.inl rfl)); have n2_ := Aside0.mk (hp_); have n3_ := Aside0.mk (blk_grown (g := gb192) (o := .cells #[.int .i64 ((rd_T34 (rd_L4 l0 x45_3) x59_5).f0), .float .f32 ((rd_T34 (rd_L4 l0 x45_3) x59_5).f1)] 34 (0, 0)) (by (with_reducible repeat (first | refine blk_drewN ?_ _ | refine blk_drew ?_ | refine blk_alloc ?_ _)); exact BK192.out) hg (Kd.R_ne HO_12.out BK192.out (by decide))); have n4_ := Aside0.mk ((by rw [hw]; exact below_set (below_set (below_set (HB.out) GB57.out) GB57.out) GB57.out : Below w.heap.size w w61)); clear HO_7; clear HO_9; clear HO_12; clear BK192; clear HB; have HO_7 := n0_; have HO_9 := n1_; have HO_12 := n2_; have BK192 := n3_; have HB := n4_; clear n0_ n1_ n2_ n3_ n4_; clear hg hw hp_))
 repeat (go_quiet (first | ((with_reducible refine gate_store (t := 60) (p := 110) rfl ?_); (try (rw [drewN_self wc]; generalize hq_ : World.drewN wc _ = wc; have n0_ := Aside0.mk (Kd.R_at hq_ HO_7.out); have n1_ := Aside0.mk (Kd.S_at hq_ HO_9.out); have n2_ := Aside0.mk (Kd.R_at hq_ HO_12.out); have n3_ := Aside0.mk (blk_at hq_ BK192.out); have n4_ := Aside0.mk (below_at hq_ HB.out); clear hq_ HO_7 HO_9 HO_12 BK192 HB; have HO_7 := n0_; have HO_9 := n1_; have HO_12 := n2_; have BK192 := n3_; have HB := n4_; clear n0_ n1_ n2_ n3_ n4_; (try (have HX60 := Aside0.mk (show Kd.R k60 60 wc w.heap.size (fun k_ => some k_ ≠ (.slice (some ad194) x7_3.length co59 : Value).ownBlock) (.slice (some ⟨go57, 0, none⟩) x12_5.length co32) x12_5 from (by (with_reducible repeat (first | apply Kd.R_alloc | apply Kd.R_drewN | apply Kd.R_drew)); exact HO_12.out)))); (try (obtain ⟨ce60, hcl60, hM60, hcc60, hfr60⟩ := Kd.R_elem HX60.out z60 (x54_4 : Int) (of_decide_eq_true (by first | (with_reducible assumption) | assumption)) (by have h_ : (x54_4 : Int) < ((x12_5.length : Int) : Int) := of_decide_eq_true (by first | (with_reducible assumption) | assumption); first | exact h_ | (have e_ := (Kd.R_reads' HO_12.out).1; omega) | simpa using h_))); (try (obtain rfl := k60_openM hM60)); (try (have HP60 := Kd.R_seg HX60.out (x54_4 : Int) (of_decide_eq_true (by first | (with_reducible assumption) | assumption)) (by have h_ : (x54_4 : Int) < ((x12_5.length : Int) : Int) := of_decide_eq_true (by first | (with_reducible assumption) | assumption); first | exact h_ | (have e_ := (Kd.R_reads' HO_12.out).1; omega) | simpa using h_) (seg := [.bool true, .float .f32 t195, .int .i64 x59_5]) (j := 0) hcl60 hcc60 (show 3 ≤ 3 from by decide) (x' := (⟨true, t195, x59_5⟩ : S60)) (k60_mkM _ _ _ (⟨true, t195, x59_5⟩ : S60) ) (fun _ hk => hk))); (try (have hx60_0 := hcc60 0 _ rfl)); (try (try simp only [show (k60).sz = 3 from rfl, Nat.mul_one, Nat.add_zero] at hx60_0)); (try (have hf60_0 := hfr60 0)); (try (try simp only [show (k60).sz = 3 from rfl, Nat.mul_one, Nat.add_zero] at hf60_0)); (try (have hx60_1 := hcc60 1 _ rfl)); (try (try simp only [show (k60).sz = 3 from rfl, Nat.mul_one, Nat.add_zero] at hx60_1)); (try (have hf60_1 := hfr60 1)); (try (try simp only [show (k60).sz = 3 from rfl, Nat.mul_one, Nat.add_zero] at hf60_1)); (try (have hx60_2 := hcc60 2 _ rfl)); (try (try simp only [show (k60).sz = 3 from rfl, Nat.mul_one, Nat.add_zero] at hx60_2)); (try (have hf60_2 := hfr60 2)); (try (try simp only [show (k60).sz = 3 from rfl, Nat.mul_one, Nat.add_zero] at hf60_2)); (try (clear hcl60 hcc60 hfr60; (try clear hM60))))); refine store_event (t := 60) (p := 110) (v := ?vo_w61) (w1 := (((wc.setCell ⟨go57, (x54_4 : Int).toNat * 3, none⟩ (.bool true)).setCell ⟨go57, (x54_4 : Int).toNat * 3 + 1, none⟩ (.float .f32 t195)).setCell ⟨go57, (x54_4 : Int).toNat * 3 + 2, none⟩ (.int .i64 x59_5))) ?hg ?ho ?hn ?hr ?_; (case ho => rfl); (case hg => rfl); (case hn => rfl); (case hr => first | (go_simp; done) | (go_simp; rfl)); intro w61 hw; have hg : wc.grownBy w61 (some go57) := (by rw [hw]; exact HP60.2); have hp_ : Kd.R k60 60 w61 w.heap.size (fun k_ => some k_ ≠ (.slice (some ad194) x7_3.length co59 : Value).ownBlock) (.slice (some ⟨go57, 0, none⟩) x12_5.length co32) y198 := (by rw [hw, Ny198.out]; exact HP60.1); clear HP60; have n0_ := Aside0.mk (Kd.R_after (v := (.slice (some ⟨go57, 0, none⟩) x12_5.length co32)) (v1 := (.slice (some ⟨go57, 0, none⟩) x12_5.length co32)) (ok := (fun _ => True)) (by (with_reducible repeat (first | apply Kd.R_alloc | apply Kd.R_drewN | apply Kd.R_drew)); exact Kd.R_mono HO_7.out (fun _ hk => ⟨trivial, hk⟩)) hg (.inl rfl)); have n1_ := Aside0.mk (Kd.S_after (v := (.slice (some ⟨go57, 0, none⟩) x12_5.length co32)) (v1 := (.slice (some ⟨go57, 0, none⟩) x12_5.length co32)) (ok := (fun _ => True)) (by (with_reducible repeat (first | apply Kd.S_alloc | apply Kd.S_drewN | apply Kd.S_drew)); exact Kd.S_mono HO_9.out (fun _ hk => ⟨trivial, hk⟩)) hg (.inl rfl)); have n2_ := Aside0.mk (hp_); have n3_ := Aside0.mk (blk_grown (g := gb192) (o := .cells #[.int .i64 ((rd_T34 (rd_L4 l0 x45_3) x59_5).f0), .float .f32 ((rd_T34 (rd_L4 l0 x45_3) x59_5).f1)] 34 (0, 0)) (by (with_reducible repeat (first | refine blk_drewN ?_ _ | refine blk_drew ?_ | refine blk_alloc ?_ _)); exact BK192.out) hg (Kd.R_ne HO_12.out BK192.out (by decide))); have n4_ := Aside0.mk ((by rw [hw]; exact below_set (below_set (below_set (HB.out) GB57.out) GB57.out) GB57.out : Below w.heap.size w w61)); clear HO_7; clear HO_9; clear HO_12; clear BK192; clear HB; have HO_7 := n0_; have HO_9 := n1_; have HO_12 := n2_; have BK192 := n3_; have HB := n4_; clear n0_ n1_ n2_ n3_ n4_; clear hg hw hp_)); try go_wp2_with (first | ((with_reducible refine gate_store (t := 60) (p := 110) rfl ?_); (try (rw [drewN_self wc]; generalize hq_ : World.drewN wc _ = wc; have n0_ := Aside0.mk (Kd.R_at hq_ HO_7.out); have n1_ := Aside0.mk (Kd.S_at hq_ HO_9.out); have n2_ := Aside0.mk (Kd.R_at hq_ HO_12.out); have n3_ := Aside0.mk (blk_at hq_ BK192.out); have n4_ := Aside0.mk (below_at hq_ HB.out); clear hq_ HO_7 HO_9 HO_12 BK192 HB; have HO_7 := n0_; have HO_9 := n1_; have HO_12 := n2_; have BK192 := n3_; have HB := n4_; clear n0_ n1_ n2_ n3_ n4_; (try (have HX60 := Aside0.mk (show Kd.R k60 60 wc w.heap.size (fun k_ => some k_ ≠ (.slice (some ad194) x7_3.length co59 : Value).ownBlock) (.slice (some ⟨go57, 0, none⟩) x12_5.length co32) x12_5 from (by (with_reducible repeat (first | apply Kd.R_alloc | apply Kd.R_drewN | apply Kd.R_drew)); exact HO_12.out)))); (try (obtain ⟨ce60, hcl60, hM60, hcc60, hfr60⟩ := Kd.R_elem HX60.out z60 (x54_4 : Int) (of_decide_eq_true (by first | (with_reducible assumption) | assumption)) (by have h_ : (x54_4 : Int) < ((x12_5.length : Int) : Int) := of_decide_eq_true (by first | (with_reducible assumption) | assumption); first | exact h_ | (have e_ := (Kd.R_reads' HO_12.out).1; omega) | simpa using h_))); (try (obtain rfl := k60_openM hM60)); (try (have HP60 := Kd.R_seg HX60.out (x54_4 : Int) (of_decide_eq_true (by first | (with_reducible assumption) | assumption)) (by have h_ : (x54_4 : Int) < ((x12_5.length : Int) : Int) := of_decide_eq_true (by first | (with_reducible assumption) | assumption); first | exact h_ | (have e_ := (Kd.R_reads' HO_12.out).1; omega) | simpa using h_) (seg := [.bool true, .float .f32 t195, .int .i64 x59_5]) (j := 0) hcl60 hcc60 (show 3 ≤ 3 from by decide) (x' := (⟨true, t195, x59_5⟩ : S60)) (k60_mkM _ _ _ (⟨true, t195, x59_5⟩ : S60) ) (fun _ hk => hk))); (try (have hx60_0 := hcc60 0 _ rfl)); (try (try simp only [show (k60).sz = 3 from rfl, Nat.mul_one, Nat.add_zero] at hx60_0)); (try (have hf60_0 := hfr60 0)); (try (try simp only [show (k60).sz = 3 from rfl, Nat.mul_one, Nat.add_zero] at hf60_0)); (try (have hx60_1 := hcc60 1 _ rfl)); (try (try simp only [show (k60).sz = 3 from rfl, Nat.mul_one, Nat.add_zero] at hx60_1)); (try (have hf60_1 := hfr60 1)); (try (try simp only [show (k60).sz = 3 from rfl, Nat.mul_one, Nat.add_zero] at hf60_1)); (try (have hx60_2 := hcc60 2 _ rfl)); (try (try simp only [show (k60).sz = 3 from rfl, Nat.mul_one, Nat.add_zero] at hx60_2)); (try (have hf60_2 := hfr60 2)); (try (try simp only [show (k60).sz = 3 from rfl, Nat.mul_one, Nat.add_zero] at hf60_2)); (try (clear hcl60 hcc60 hfr60; (try clear hM60))))); refine store_event (t := 60) (p := 110) (v := ?vo_w61) (w1 := (((wc.setCell ⟨go57, (x54_4 : Int).toNat * 3, none⟩ (.bool true)).setCell ⟨go57, (x54_4 : Int).toNat * 3 + 1, none⟩ (.float .f32 t195)).setCell ⟨go57, (x54_4 : Int).toNat * 3 + 2, none⟩ (.int .i64 x59_5))) ?hg ?ho ?hn ?hr ?_; (case ho => rfl); (case hg => rfl); (case hn => rfl); (case hr => first | (go_simp; done) | (go_simp; rfl)); intro w61 hw; have hg : wc.grownBy w61 (some go57) := (by rw [hw]; exact HP60.2); have hp_ : Kd.R k60 60 w61 w.heap.size (fun k_ => some k_ ≠ (.slice (some ad194) x7_3.length co59 : Value).ownBlock) (.slice (some ⟨go57, 0, none⟩) x12_5.length co32) y198 := (by rw [hw, Ny198.out]; exact HP60.1); clear HP60; have n0_ := Aside0.mk (Kd.R_after (v := (.slice (some ⟨go57, 0, none⟩) x12_5.length co32)) (v1 := (.slice (some ⟨go57, 0, none⟩) x12_5.length co32)) (ok := (fun _ => True)) (by (with_reducible repeat (first | apply Kd.R_alloc | apply Kd.R_drewN | apply Kd.R_drew)); exact Kd.R_mono HO_7.out (fun _ hk => ⟨trivial, hk⟩)) hg (.inl rfl)); have n1_ := Aside0.mk (Kd.S_after (v := (.slice (some ⟨go57, 0, none⟩) x12_5.length co32)) (v1 := (.slice (some ⟨go57, 0, none⟩) x12_5.length co32)) (ok := (fun _ => True)) (by (with_reducible repeat (first | apply Kd.S_alloc | apply Kd.S_drewN | apply Kd.S_drew)); exact Kd.S_mono HO_9.out (fun _ hk => ⟨trivial, hk⟩)) hg (.inl rfl)); have n2_ := Aside0.mk (hp_); have n3_ := Aside0.mk (blk_grown (g := gb192) (o := .cells #[.int .i64 ((rd_T34 (rd_L4 l0 x45_3) x59_5).f0), .float .f32 ((rd_T34 (rd_L4 l0 x45_3) x59_5).f1)] 34 (0, 0)) (by (with_reducible repeat (first | refine blk_drewN ?_ _ | refine blk_drew ?_ | refine blk_alloc ?_ _)); exact BK192.out) hg (Kd.R_ne HO_12.out BK192.out (by decide))); have n4_ := Aside0.mk ((by rw [hw]; exact below_set (below_set (below_set (HB.out) GB57.out) GB57.out) GB57.out : Below w.heap.size w w61)); clear HO_7; clear HO_9; clear HO_12; clear BK192; clear HB; have HO_7 := n0_; have HO_9 := n1_; have HO_12 := n2_; have BK192 := n3_; have HB := n4_; clear n0_ n1_ n2_ n3_ n4_; clear hg hw hp_)))
 (try simp only [← hl12_5])
 subst hji48
 subst hji27
 subst hji10
 go_roundg kj36
 case measure => have := HJ2.out; have := HK2.out; have := HK3.out; have := HK4.out; have := HK5.out; have := HJ36.out; omega
 case rel => exact ⟨(y198), (wrap64 (x59_5 + 1)), (by first|rfl|(simp; done)|(simp [*]; done)), H', ⟨by have := HJ2.out; have := HK2.out; have := HK3.out; have := HK4.out; have := HK5.out; have := HJ36.out; omega⟩, ⟨by (try simp only [hl7_2]); (try simp only [hl12_4]); (try simp only [hl12_5]); (with_reducible repeat (first | apply Kd.R_alloc | apply Kd.R_drewN | apply Kd.R_drew)); exact Kd.R_mono HO_7.out (fun _ hk => hk.2)⟩, ⟨by (try simp only [hl7_2]); (try simp only [hl12_4]); (try simp only [hl12_5]); (with_reducible repeat (first | apply Kd.S_alloc | apply Kd.S_drewN | apply Kd.S_drew)); exact Kd.S_mono HO_9.out (fun _ hk => hk.2)⟩, ⟨by (try simp only [hl7_2]); (try simp only [hl12_4]); (try simp only [hl12_5]); (with_reducible repeat (first | apply Kd.R_alloc | apply Kd.R_drewN | apply Kd.R_drew)); exact HO_12.out⟩, ⟨by repeat (first | (with_reducible first | exact HB.out | apply below_alloc | apply pw_below_drewN | apply below_drew1 | refine below_set ?_ GE192.out) | exact HB.out)⟩⟩
end Go.Proofs.Ytpngjpiodhpbnaa.PFnCuts
