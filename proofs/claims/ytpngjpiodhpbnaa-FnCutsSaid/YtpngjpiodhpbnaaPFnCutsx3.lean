-- Written by a turned copy of the kit's printer (wip/pf).
import Derived.Test.YtpngjpiodhpbnaaPFnCutsx0
import Derived.Test.YtpngjpiodhpbnaaPFnCutsx1
import Derived.Test.YtpngjpiodhpbnaaPFnCutsx2
namespace Go.Proofs.Ytpngjpiodhpbnaa.PFnCuts
open Go.RowKit Go.Proofs.YtpngjpiodhpbnaaW.PrintWords Go.Proofs.YtpngjpiodhpbnaaW.PrintLast Go.Proofs.YtpngjpiodhpbnaaW.PrintMore
attribute [local go_sem] max2_int min2_int max_two min_two max_three min_three max_four min_four   -- for this text's walks alone
attribute [local go_sem high] feq_fold fne_fold flt_fold fle_fold fgt_fold fge_fold fneg_run fsame_run fstore_run
set_option linter.unusedVariables false
set_option linter.unusedSimpArgs false

/-! ### impl_SlopeCuts: function 8 -/
mutual
def impl_SlopeCuts.j0 : Nat → List (List (S34)) → Nat → Bool → Option (List Int × Int × Nat × Bool)
  | 0, _, _, _ => none
  | k + 1, x0, x3, x24 => if x24 = true then (some (([] : List Int), 0, 0, false)) else (impl_SlopeCuts.l0 k x3 (([] : List Int)) 0 0 x0 (x0.length : Int) 0)
def impl_SlopeCuts.l0 : Nat → Nat → List Int → Int → Nat → List (List (S34)) → Int → Int → Option (List Int × Int × Nat × Bool)
  | 0, _, _, _, _, _, _, _ => none
  | k + 1, x3, x8, x9, x10, x26, x27, x28 => if x28 < x27 then (if 0 ≤ x28 then (if x28 < (x26.length : Int) then (impl_SlopeCuts.l1 k x3 x8 x9 x10 (rd_L4 x26 x28) 0 x26 x27 x28 (rd_L4 x26 x28) ((rd_L4 x26 x28).length : Int) 0) else (none)) else (none)) else ((impl_IsFinite.f x10).bind fun t162 => (if t162 = true then (some (x8, x9, x10, true)) else (some (([] : List Int), 0, 0, false))))
def impl_SlopeCuts.l1 : Nat → Nat → List Int → Int → Nat → List (S34) → Int → List (List (S34)) → Int → Int → List (S34) → Int → Int → Option (List Int × Int × Nat × Bool)
  | 0, _, _, _, _, _, _, _, _, _, _, _, _ => none
  | k + 1, x3, x8, x9, x10, x12, x14, x26, x27, x28, x33, x34, x35 => if x35 < x34 then (if 0 ≤ x35 then (if x35 < (x33.length : Int) then ((impl_SlopeCuts_1.f ((rd_T34 x33 x35).f0) ((rd_T34 x33 x35).f1) x3).bind fun t172 => (if 0 ≤ x14 then (if x14 < (x12.length : Int) then ((impl_SlopeCuts_1.f ((rd_T34 x12 x14).f0) ((rd_T34 x12 x14).f1) x3).bind fun t174 => (if (flt .f32 t172 t174) = true then (impl_SlopeCuts.l1 k x3 x8 x9 x10 x12 x35 x26 x27 x28 x33 x34 (wrap64 (x35 + 1))) else (impl_SlopeCuts.l1 k x3 x8 x9 x10 x12 x14 x26 x27 x28 x33 x34 (wrap64 (x35 + 1))))) else (none)) else (none))) else (none)) else (none)) else (if x8.length < 17592186044416 then (if 0 ≤ x14 then (if x14 < (x12.length : Int) then ((floatBits .add .f32 x10 ((rd_T34 x12 x14).f1)).bind fun t169 => (impl_SlopeCuts.l0 k x3 (x8 ++ [x14]) (wrap64 (x9 + ((rd_T34 x12 x14).f0))) t169 x26 x27 (wrap64 (x28 + 1)))) else (none)) else (none)) else (none))
end
def impl_SlopeCuts.f (k : Nat) (l0 : List (List (S34))) (a1 : Nat) : Option (List Int × Int × Nat × Bool) := (impl_areBlocks.f k l0).bind fun t157 => (if t157 = true then ((impl_isLeast.f a1).bind fun t158 => (impl_SlopeCuts.j0 k l0 a1 (!t158))) else (impl_SlopeCuts.j0 k l0 a1 true))
theorem impl_SlopeCuts.mono_l : ∀ k, (∀ y0 y1 y2, LeO (impl_SlopeCuts.j0 k y0 y1 y2) (impl_SlopeCuts.j0 (k + 1) y0 y1 y2)) ∧ (∀ y0 y1 y2 y3 y4 y5 y6, LeO (impl_SlopeCuts.l0 k y0 y1 y2 y3 y4 y5 y6) (impl_SlopeCuts.l0 (k + 1) y0 y1 y2 y3 y4 y5 y6)) ∧ (∀ y0 y1 y2 y3 y4 y5 y6 y7 y8 y9 y10 y11, LeO (impl_SlopeCuts.l1 k y0 y1 y2 y3 y4 y5 y6 y7 y8 y9 y10 y11) (impl_SlopeCuts.l1 (k + 1) y0 y1 y2 y3 y4 y5 y6 y7 y8 y9 y10 y11))
  | 0 => ⟨fun _ _ _ r h => by simp [impl_SlopeCuts.j0] at h, fun _ _ _ _ _ _ _ r h => by simp [impl_SlopeCuts.l0] at h, fun _ _ _ _ _ _ _ _ _ _ _ _ r h => by simp [impl_SlopeCuts.l1] at h⟩
  | k + 1 => by
    obtain ⟨ih0, ih1, ih2⟩ := impl_SlopeCuts.mono_l k
    refine ⟨?_, ?_, ?_⟩
    · intro y0 y1 y2
      unfold impl_SlopeCuts.j0
      repeat' first
      | (with_reducible exact ih0 _ _ _)
      | (with_reducible exact ih1 _ _ _ _ _ _ _)
      | (with_reducible exact ih2 _ _ _ _ _ _ _ _ _ _ _ _)
      | (with_reducible exact impl_areBlocks.mono _ _)
      | (with_reducible exact LeO.refl _)
      | (with_reducible exact LeO.none _)
      | (with_reducible refine LeO.ite ?_ ?_)
      | (with_reducible refine LeO.bind ?_ (fun _ => ?_))
      | exact ih0 _ _ _
      | exact ih1 _ _ _ _ _ _ _
      | exact ih2 _ _ _ _ _ _ _ _ _ _ _ _
      | exact impl_areBlocks.mono _ _
      | exact LeO.none _
      | refine LeO.ite ?_ ?_
      | refine LeO.bind ?_ (fun _ => ?_)
    · intro y0 y1 y2 y3 y4 y5 y6
      unfold impl_SlopeCuts.l0
      repeat' first
      | (with_reducible exact ih0 _ _ _)
      | (with_reducible exact ih1 _ _ _ _ _ _ _)
      | (with_reducible exact ih2 _ _ _ _ _ _ _ _ _ _ _ _)
      | (with_reducible exact impl_areBlocks.mono _ _)
      | (with_reducible exact LeO.refl _)
      | (with_reducible exact LeO.none _)
      | (with_reducible refine LeO.ite ?_ ?_)
      | (with_reducible refine LeO.bind ?_ (fun _ => ?_))
      | exact ih0 _ _ _
      | exact ih1 _ _ _ _ _ _ _
      | exact ih2 _ _ _ _ _ _ _ _ _ _ _ _
      | exact impl_areBlocks.mono _ _
      | exact LeO.none _
      | refine LeO.ite ?_ ?_
      | refine LeO.bind ?_ (fun _ => ?_)
    · intro y0 y1 y2 y3 y4 y5 y6 y7 y8 y9 y10 y11
      unfold impl_SlopeCuts.l1
      repeat' first
      | (with_reducible exact ih0 _ _ _)
      | (with_reducible exact ih1 _ _ _ _ _ _ _)
      | (with_reducible exact ih2 _ _ _ _ _ _ _ _ _ _ _ _)
      | (with_reducible exact impl_areBlocks.mono _ _)
      | (with_reducible exact LeO.refl _)
      | (with_reducible exact LeO.none _)
      | (with_reducible refine LeO.ite ?_ ?_)
      | (with_reducible refine LeO.bind ?_ (fun _ => ?_))
      | exact ih0 _ _ _
      | exact ih1 _ _ _ _ _ _ _
      | exact ih2 _ _ _ _ _ _ _ _ _ _ _ _
      | exact impl_areBlocks.mono _ _
      | exact LeO.none _
      | refine LeO.ite ?_ ?_
      | refine LeO.bind ?_ (fun _ => ?_)
theorem impl_SlopeCuts.mono : ∀ a0 a1 k, LeO (impl_SlopeCuts.f k a0 a1) (impl_SlopeCuts.f (k + 1) a0 a1) := by
  intro a0 a1 k
  obtain ⟨ih0, ih1, ih2⟩ := impl_SlopeCuts.mono_l k
  unfold impl_SlopeCuts.f
  repeat' first
      | (with_reducible exact ih0 _ _ _)
      | (with_reducible exact ih1 _ _ _ _ _ _ _)
      | (with_reducible exact ih2 _ _ _ _ _ _ _ _ _ _ _ _)
      | (with_reducible exact impl_areBlocks.mono _ _)
      | (with_reducible exact LeO.refl _)
      | (with_reducible exact LeO.none _)
      | (with_reducible refine LeO.ite ?_ ?_)
      | (with_reducible refine LeO.bind ?_ (fun _ => ?_))
      | exact ih0 _ _ _
      | exact ih1 _ _ _ _ _ _ _
      | exact ih2 _ _ _ _ _ _ _ _ _ _ _ _
      | exact impl_areBlocks.mono _ _
      | exact LeO.none _
      | refine LeO.ite ?_ ?_
      | refine LeO.bind ?_ (fun _ => ?_)
def impl_SlopeCuts.T12 : Bool × List (List Nat × List Nat) := (true, [([], []), ([], []), ([0, 1], [0, 1]), ([], []), ([], []), ([], []), ([4, 5], [4, 5]), ([6], [6]), ([3, 7, 2], [3, 7]), ([2, 8], [2, 8])])
def impl_SlopeCuts.B12 : List Nat := [0, 0, 3, 0, 0, 0, 48, 112, 255, 511]
theorem impl_SlopeCuts.tab12 : rtab .any (opsOf Try.f8 12) = impl_SlopeCuts.T12 := by kernel_rfl
theorem impl_SlopeCuts.bits12 : waitsOk impl_SlopeCuts.T12.2 impl_SlopeCuts.B12 = true := by kernel_rfl
set_option maxHeartbeats 8000000 in
set_option maxRecDepth 100000 in
theorem impl_SlopeCuts.calls0 (k : Nat) (A0 : Option Addr) (c0 : Nat) (l0 : List (List (S34))) (a1 : Nat) (r1 : List Int) (r2 : Int) (r3 : Nat) (r4 : Bool) (w0 w : World) (hw0 : w0.alloc (Obj.cells #[.float .f32 a1] 26) = w) (hcap0 : w.cell? ⟨w0.heap.size, 0, none⟩ = some (.float .f32 a1)) (hr0 : Kd.C (Kd.slice 34 k34) w A0 l0.length l0) (hc0 : l0.length ≤ c0) (h : impl_SlopeCuts.f k l0 a1 = some (r1, r2, r3, r4)) :
    Calls Try.prog 8 #[.slice A0 l0.length c0, .float .f32 a1] w0 fun e w' => ∃ v0_ : Value, e = .returned (.tuple #[v0_, .int .i64 r2, .float .f32 r3, .bool r4]) ∧ Kd.R (Kd.int .i64) 2 w' w.heap.size (fun _ => True) v0_ r1 ∧ Below w.heap.size w w' := by
 have hu34 := Try.underlying34
 have HR0 := Aside0.mk hr0
 have HC0 := Aside0.mk hc0
 clear hr0 hc0
 have HB := Aside0.mk (Below.refl w.heap.size w)
 have HCAP0 := Aside0.mk hcap0
 have H : ((impl_areBlocks.f k l0).bind fun t157 => (if t157 = true then ((impl_isLeast.f a1).bind fun t158 => (impl_SlopeCuts.j0 k l0 a1 (!t158))) else (impl_SlopeCuts.j0 k l0 a1 true))) = some (r1, r2, r3, r4) := h
 clear h
 have HC3 := Aside0.mk H
 clear H
 go_enter Try.func8, Try.ntmps8
 go_upto_region 1 with (fail)
 try simp only [hw0]
 go_cut [24] (fun v24 wc => ∃ (kq : Nat) (x24_2 : Bool), v24 = .bool x24_2 ∧ Aside0 (impl_SlopeCuts.j0 kq l0 a1 x24_2 = some (r1, r2, r3, r4)) ∧ Aside0 (kq ≤ k) ∧ Aside0 (Below w.heap.size w wc))
 case first =>
  have H := HC3.out
  clear HC3
  replace H := Option.bind_eq_some_iff.mp H
  obtain ⟨t157, A40, H⟩ := H
  replace H : (if t157 = true then ((impl_isLeast.f a1).bind fun t158 => (impl_SlopeCuts.j0 k l0 a1 (!t158))) else (impl_SlopeCuts.j0 k l0 a1 true)) = some (r1, r2, r3, r4) := H
  have A4 := Aside0.mk A40
  clear A40
  by_cases c5 : t157 = true
  rotate_left
  ·replace c5 := Bool.eq_false_iff.mpr c5
   subst c5
   have H1 : (impl_SlopeCuts.j0 k l0 a1 true) = some (r1, r2, r3, r4) := by rw [if_neg (show ¬ (false = true) by decide)] at H; exact H
   clear H
   have H := H1
   clear H1
   have H' := Aside0.mk H
   clear H
   go_wp2_with (first | ((with_reducible refine gate_callee (f := 26) rfl ?_); refine goesL_ (some 18) rfl rfl Try.func26 (by kernel_rfl) rfl #[.slice A0 l0.length c0] rfl (by (try simp only [List.map_toArray, List.map_cons, List.map_nil]); first | done | rfl | (simp only [List.length_drop, List.length_take]; rfl)) ?_; (with_reducible refine (impl_areBlocks.calls k _ _ l0 false _ ?side1 ?side2 A4.out).mono ?_); (case side1 => repeat (first | exact (Kd.C_below HR0.out HB.out) | (with_reducible refine Kd.C_alloc ?_ _) | (with_reducible refine Kd.C_drewN ?_ _) | (with_reducible refine Kd.C_drew ?_))); (case side2 => exact HC0.out); rintro e w8 ⟨rfl, hb⟩; refine ⟨_, rfl, ?_⟩; have n0_ := Aside0.mk (below_step (by repeat (first | (with_reducible first | exact HB.out | apply below_alloc | apply pw_below_drewN | apply below_drew1) | exact HB.out)) hb); clear HB; have HB := n0_; clear n0_; have hcapn0 := ((HB.out.cell (World.block_lt_of_cell? w _ HCAP0.out)).trans HCAP0.out); (try clear hb); (try clear hb2); (try clear hk); (try clear hi)))
   go_meet
   case rel => exact ⟨_, (true), (by first|rfl|(simp; done)|(simp [*]; done)), H', ⟨by first | omega | exact Nat.le_refl _⟩, ⟨by repeat (first | (with_reducible first | exact HB.out | apply below_alloc | apply pw_below_drewN | apply below_drew1) | exact HB.out)⟩⟩
  subst c5
  have H1 : ((impl_isLeast.f a1).bind fun t158 => (impl_SlopeCuts.j0 k l0 a1 (!t158))) = some (r1, r2, r3, r4) := by rw [if_pos rfl] at H; exact H
  clear H
  have H := H1
  clear H1
  replace H := Option.bind_eq_some_iff.mp H
  obtain ⟨t158, A60, H⟩ := H
  replace H : (impl_SlopeCuts.j0 k l0 a1 (!t158)) = some (r1, r2, r3, r4) := H
  have A6 := Aside0.mk A60
  clear A60
  have H' := Aside0.mk H
  clear H
  go_wp2_with (first | ((with_reducible refine gate_callee (f := 26) rfl ?_); refine goesL_ (some 18) rfl rfl Try.func26 (by kernel_rfl) rfl #[.slice A0 l0.length c0] rfl (by (try simp only [List.map_toArray, List.map_cons, List.map_nil]); first | done | rfl | (simp only [List.length_drop, List.length_take]; rfl)) ?_; (with_reducible refine (impl_areBlocks.calls k _ _ l0 true _ ?side1 ?side2 A4.out).mono ?_); (case side1 => repeat (first | exact (Kd.C_below HR0.out HB.out) | (with_reducible refine Kd.C_alloc ?_ _) | (with_reducible refine Kd.C_drewN ?_ _) | (with_reducible refine Kd.C_drew ?_))); (case side2 => exact HC0.out); rintro e w7 ⟨rfl, hb⟩; refine ⟨_, rfl, ?_⟩; have n0_ := Aside0.mk (below_step (by repeat (first | (with_reducible first | exact HB.out | apply below_alloc | apply pw_below_drewN | apply below_drew1) | exact HB.out)) hb); clear HB; have HB := n0_; clear n0_; have hcapn0 := ((HB.out.cell (World.block_lt_of_cell? w _ HCAP0.out)).trans HCAP0.out); (try clear hb); (try clear hb2); (try clear hk); (try clear hi)) | (go_at_call 27; (with_reducible refine (impl_isLeast.calls a1 t158 _ A6.out).mono ?_); rintro e w' ⟨rfl, ⟨nd, rfl⟩⟩))
  go_meet
  case rel => exact ⟨_, (!t158), (by first|rfl|(simp; done)|(simp [*]; done)), H', ⟨by first | omega | exact Nat.le_refl _⟩, ⟨by repeat (first | (with_reducible first | exact HB.out | apply below_alloc | apply pw_below_drewN | apply below_drew1) | exact HB.out)⟩⟩
 clear HC3
 try clear c2
 try clear p2
 try clear c5
 try clear c8
 obtain ⟨kq, x24_2, rfl, HA, HJ2, HB⟩ := hcut
 cases kq with
 | zero => exact absurd HA.out (by simp [impl_SlopeCuts.j0])
 | succ kj2 => ?_
 have H := HA.out
 clear HA
 simp only [impl_SlopeCuts.j0] at H
 by_cases c9 : x24_2 = true
 ·subst c9
  have H1 : (some (([] : List Int), 0, 0, false)) = some (r1, r2, r3, r4) := by rw [if_pos rfl] at H; exact H
  clear H
  have H := H1
  clear H1
  simp only [Option.some.injEq, Prod.mk.injEq] at H
  obtain ⟨rfl, rfl, rfl, rfl⟩ := H
  go_wp2
  refine bodyPost_ret (results_list (rs := [.tmp 4, .tmp 5, .tmp 6, .tmp 7]) rfl (by simp) (.tmp (.tmp (.tmp (.tmp .nil))))) rfl ?_
  exact ⟨_, by first | rfl | (simp [errW_none, errW_some] <;> rfl) | (simp [*, errW_none, errW_some] <;> rfl), by first | exact Kd.R_nil _ _ _ _ _ | exact Kd.N_nil _ _ _ _ _ | exact Kd.V_nil _ _ _ _ _ | exact Kd.Q_nil _ _ _ _ _ | exact Kd.S_nil _ _ _ _ _, by repeat (first | (with_reducible first | exact HB.out | apply below_alloc | apply pw_below_drewN | apply below_drew1) | exact HB.out)⟩
 replace c9 := Bool.eq_false_iff.mpr c9
 subst c9
 have H1 : (impl_SlopeCuts.l0 kj2 a1 (([] : List Int)) 0 0 l0 (l0.length : Int) 0) = some (r1, r2, r3, r4) := by rw [if_neg (show ¬ (false = true) by decide)] at H; exact H
 clear H
 have H := H1
 clear H1
 obtain ⟨y159, hy159⟩ : ∃ y_ : List Int, y_ = (([] : List Int)) := ⟨_, rfl⟩
 replace H : (impl_SlopeCuts.l0 kj2 a1 y159 0 0 l0 (l0.length : Int) 0) = some (r1, r2, r3, r4) := by first | (rw [hy159]; with_reducible exact H) | (have H2_ := (Option.bind_some _ _).symm.trans H; rw [hy159]; with_reducible exact H2_) | (have H2_ := (Option.bind_some _ _).symm.trans H; with_reducible exact H2_) | with_reducible exact H | (rw [hy159]; exact H) | exact H
 have Ny159 := Aside0.mk hy159
 clear hy159
 have H' := Aside0.mk H
 clear H
 go_wp2_with (first | ((with_reducible refine gate_dst (N := 25) rfl ?_); refine Kd.R_lit (Kd.int .i64) _ 2 ?hg (N := 25) ?hd (xs := ([] : List Int)) (inner := []) (ok := fun _ => True) (okp := fun _ => True) ?hr ?hp (fun _ hk => hk) trivial (Below.refl _ _) (Nat.le_refl _) (by simp) ?_; (case hd => rfl); (case hg => rfl); (case hr => first | (go_simp; done) | (go_simp; rfl)); (case hp => exact (Reps.none _ _)); intro v160 w10 ho11 hb hg_ hnew_; clear hg_ hnew_; (first | rw [← Ny159.out] at ho11 | (simp only [Int.reduceToNat] at ho11; rw [← Ny159.out] at ho11)); have n0_ := Aside0.mk (Kd.R_lower ho11 (below_size (by repeat (first | (with_reducible first | exact HB.out | apply below_alloc | apply pw_below_drewN | apply below_drew1) | exact HB.out)))); have n1_ := Aside0.mk (below_step (by repeat (first | (with_reducible first | exact HB.out | apply below_alloc | apply pw_below_drewN | apply below_drew1) | exact HB.out)) hb); clear HB; have HO161 := n0_; have HB := n1_; clear n0_ n1_; have hcapn0 := ((HB.out.cell (World.block_lt_of_cell? w _ HCAP0.out)).trans HCAP0.out); clear hb ho11))
 go_loopg [8, 9, 10, 28] kj2 (fun kq v8 v9 v10 v28 w' => ∃ (x8_2 : List Int) (x9_2 : Int) (x10_2 : Nat) (x28_2 : Int), v9 = .int .i64 x9_2 ∧ v10 = .float .f32 x10_2 ∧ v28 = .int .i64 x28_2 ∧ Aside0 (impl_SlopeCuts.l0 kq a1 x8_2 x9_2 x10_2 l0 (l0.length : Int) x28_2 = some (r1, r2, r3, r4)) ∧ Aside0 (kq ≤ kj2) ∧ Aside0 (Kd.R (Kd.int .i64) 2 w' w.heap.size (fun _ => True) v8 x8_2) ∧ Aside0 (Below w.heap.size w w'))
 case atStart => exact ⟨(y159), (0), (0), (0), (by first|rfl|(simp; done)|(simp [*]; done)), (by first|rfl|(simp; done)|(simp [*]; done)), (by first|rfl|(simp; done)|(simp [*]; done)), H', ⟨Nat.le_refl _⟩, ⟨by (with_reducible repeat (first | apply Kd.R_alloc | apply Kd.R_drewN | apply Kd.R_drew)); exact HO161.out⟩, ⟨by repeat (first | (with_reducible first | exact HB.out | apply below_alloc | apply pw_below_drewN | apply below_drew1) | exact HB.out)⟩⟩
 clear H'
 try clear c2
 try clear p2
 try clear c5
 try clear c8
 try clear c9
 try clear p2
 obtain ⟨x8_2, x9_2, x10_2, x28_2, rfl, rfl, rfl, HA, HK2, HO_8, HB⟩ := hrel
 cases gk with
 | zero => exact absurd HA.out (by simp [impl_SlopeCuts.l0])
 | succ k2 => ?_
 have H := HA.out
 clear HA
 simp only [impl_SlopeCuts.l0] at H
 by_cases c12 : x28_2 < (l0.length : Int)
 rotate_left
 ·rw [if_neg c12] at H
  have c12b0 : decide (x28_2 < (l0.length : Int)) = false := decide_eq_false c12
  clear c12
  replace H := Option.bind_eq_some_iff.mp H
  obtain ⟨t162, A400, H⟩ := H
  replace H : (if t162 = true then (some (x8_2, x9_2, x10_2, true)) else (some (([] : List Int), 0, 0, false))) = some (r1, r2, r3, r4) := H
  have A40 := Aside0.mk A400
  clear A400
  by_cases c41 : t162 = true
  ·subst c41
   have H1 : (some (x8_2, x9_2, x10_2, true)) = some (r1, r2, r3, r4) := by rw [if_pos rfl] at H; exact H
   clear H
   have H := H1
   clear H1
   simp only [Option.some.injEq, Prod.mk.injEq] at H
   obtain ⟨rfl, rfl, rfl, rfl⟩ := H
   go_wp2_with (first | ((with_reducible refine gate_callee (f := 29) rfl ?_); refine goesL_ (some 72) rfl rfl Try.func29 (by kernel_rfl) rfl #[.float .f32 x10_2] rfl (by (try simp only [List.map_toArray, List.map_cons, List.map_nil]); first | done | rfl | (simp only [List.length_drop, List.length_take]; rfl)) ?_; (with_reducible refine (impl_IsFinite.calls x10_2 true _ A40.out).mono ?_); rintro e w' ⟨rfl, ⟨nd, rfl⟩⟩; refine ⟨_, rfl, ?_⟩))
   refine bodyPost_ret (results_list (rs := [.tmp 4, .tmp 5, .tmp 6, .tmp 7]) rfl (by simp) (.tmp (.tmp (.tmp (.tmp .nil))))) rfl ?_
   exact ⟨_, by first | rfl | (simp [errW_none, errW_some] <;> rfl) | (simp [*, errW_none, errW_some] <;> rfl), by (with_reducible repeat (first | apply Kd.R_alloc | apply Kd.R_drewN | apply Kd.R_drew)); exact HO_8.out, by repeat (first | (with_reducible first | exact HB.out | apply below_alloc | apply pw_below_drewN | apply below_drew1) | exact HB.out)⟩
  replace c41 := Bool.eq_false_iff.mpr c41
  subst c41
  have H1 : (some (([] : List Int), 0, 0, false)) = some (r1, r2, r3, r4) := by rw [if_neg (show ¬ (false = true) by decide)] at H; exact H
  clear H
  have H := H1
  clear H1
  simp only [Option.some.injEq, Prod.mk.injEq] at H
  obtain ⟨rfl, rfl, rfl, rfl⟩ := H
  go_wp2_with (first | ((with_reducible refine gate_callee (f := 29) rfl ?_); refine goesL_ (some 72) rfl rfl Try.func29 (by kernel_rfl) rfl #[.float .f32 x10_2] rfl (by (try simp only [List.map_toArray, List.map_cons, List.map_nil]); first | done | rfl | (simp only [List.length_drop, List.length_take]; rfl)) ?_; (with_reducible refine (impl_IsFinite.calls x10_2 false _ A40.out).mono ?_); rintro e w' ⟨rfl, ⟨nd, rfl⟩⟩; refine ⟨_, rfl, ?_⟩))
  refine bodyPost_ret (results_list (rs := [.tmp 4, .tmp 5, .tmp 6, .tmp 7]) rfl (by simp) (.tmp (.tmp (.tmp (.tmp .nil))))) rfl ?_
  exact ⟨_, by first | rfl | (simp [errW_none, errW_some] <;> rfl) | (simp [*, errW_none, errW_some] <;> rfl), by first | exact Kd.R_nil _ _ _ _ _ | exact Kd.N_nil _ _ _ _ _ | exact Kd.V_nil _ _ _ _ _ | exact Kd.Q_nil _ _ _ _ _ | exact Kd.S_nil _ _ _ _ _, by repeat (first | (with_reducible first | exact HB.out | apply below_alloc | apply pw_below_drewN | apply below_drew1) | exact HB.out)⟩
 rw [if_pos c12] at H
 have c12b0 : decide (x28_2 < (l0.length : Int)) = true := decide_eq_true c12
 clear c12
 by_cases c13 : 0 ≤ x28_2
 rotate_left
 ·rw [if_neg c13] at H
  exact absurd H (by simp)
 rw [if_pos c13] at H
 have c13b0 : decide (0 ≤ x28_2) = true := decide_eq_true c13
 clear c13
 by_cases c14 : x28_2 < (l0.length : Int)
 rotate_left
 ·rw [if_neg c14] at H
  exact absurd H (by simp)
 rw [if_pos c14] at H
 have c14b0 : decide (x28_2 < (l0.length : Int)) = true := decide_eq_true c14
 clear c14
 have H' := Aside0.mk H
 clear H
 have p163 : 0 ≤ (x28_2 : Int) := of_decide_eq_true (by first | (with_reducible assumption) | assumption)
 have q163 : x28_2 < (l0.length : Int) := of_decide_eq_true (by first | (with_reducible assumption) | assumption)
 obtain ⟨ad163, A163_0, c163_0, e163, hx163_0, hl163_0, hi163_0⟩ := at_L4 HR0.out x28_2 p163 q163
 cases e163
 replace hx163_0 := (HB.out.cell (World.block_lt_of_cell? w _ hx163_0)).trans hx163_0
 have HR163_0 := Aside0.mk hi163_0
 have HC163_0 := Aside0.mk hl163_0
 clear hi163_0 hl163_0
 replace p163 := eq_true p163
 replace q163 := eq_true q163
 go_wp2
 go_loopg [14, 35] k2 (fun kq v14 v35 w' => ∃ (x14_3 : Int) (x35_3 : Int), v14 = .int .i64 x14_3 ∧ v35 = .int .i64 x35_3 ∧ Aside0 (impl_SlopeCuts.l1 kq a1 x8_2 x9_2 x10_2 (rd_L4 l0 x28_2) x14_3 l0 (l0.length : Int) x28_2 (rd_L4 l0 x28_2) ((rd_L4 l0 x28_2).length : Int) x35_3 = some (r1, r2, r3, r4)) ∧ Aside0 (kq ≤ k2) ∧ Aside0 (Kd.R (Kd.int .i64) 2 w' w.heap.size (fun _ => True) u8 x8_2) ∧ Aside0 (Below w.heap.size w w'))
 case atStart => exact ⟨(0), (0), (by first|rfl|(simp; done)|(simp [*]; done)), (by first|rfl|(simp; done)|(simp [*]; done)), H', ⟨Nat.le_refl _⟩, ⟨by (with_reducible repeat (first | apply Kd.R_alloc | apply Kd.R_drewN | apply Kd.R_drew)); exact HO_8.out⟩, ⟨by repeat (first | (with_reducible first | exact HB.out | apply below_alloc | apply pw_below_drewN | apply below_drew1) | exact HB.out)⟩⟩
 clear H'
 try clear c1
 try clear p1
 try clear q1
 try clear hx1
 try clear c2
 try clear p2
 try clear c5
 try clear c8
 try clear c9
 try clear c12
 try clear c12b0
 try clear c13
 try clear c13b0
 try clear c14
 try clear c14b0
 try clear hx163_0
 try clear p163
 try clear p2
 try clear q163
 obtain ⟨x14_3, x35_3, rfl, rfl, HA, HK3, HO_8, HB⟩ := hrel
 cases gk with
 | zero => exact absurd HA.out (by simp [impl_SlopeCuts.l1])
 | succ k3 => ?_
 have H := HA.out
 clear HA
 simp only [impl_SlopeCuts.l1] at H
 by_cases c15 : x35_3 < ((rd_L4 l0 x28_2).length : Int)
 rotate_left
 ·rw [if_neg c15] at H
  have c15b0 : decide (x35_3 < ((rd_L4 l0 x28_2).length : Int)) = false := decide_eq_false c15
  clear c15
  by_cases c35 : x8_2.length < 17592186044416
  rotate_left
  ·rw [if_neg c35] at H
   exact absurd H (by simp)
  rw [if_pos c35] at H
  have LMc35 := Aside0.mk c35
  clear c35
  obtain ⟨y164, hy164⟩ : ∃ y_ : List Int, y_ = (x8_2 ++ [x14_3]) := ⟨_, rfl⟩
  replace H : (if 0 ≤ x14_3 then (if x14_3 < ((rd_L4 l0 x28_2).length : Int) then ((floatBits .add .f32 x10_2 ((rd_T34 (rd_L4 l0 x28_2) x14_3).f1)).bind fun t169 => (impl_SlopeCuts.l0 k3 a1 y164 (wrap64 (x9_2 + ((rd_T34 (rd_L4 l0 x28_2) x14_3).f0))) t169 l0 (l0.length : Int) (wrap64 (x28_2 + 1)))) else (none)) else (none)) = some (r1, r2, r3, r4) := by first | (rw [hy164]; with_reducible exact H) | (have H2_ := (Option.bind_some _ _).symm.trans H; rw [hy164]; with_reducible exact H2_) | (have H2_ := (Option.bind_some _ _).symm.trans H; with_reducible exact H2_) | with_reducible exact H | (rw [hy164]; exact H) | exact H
  have Ny164 := Aside0.mk hy164
  clear hy164
  by_cases c36 : 0 ≤ x14_3
  rotate_left
  ·rw [if_neg c36] at H
   exact absurd H (by simp)
  rw [if_pos c36] at H
  have c36b0 : decide (0 ≤ x14_3) = true := decide_eq_true c36
  clear c36
  by_cases c37 : x14_3 < ((rd_L4 l0 x28_2).length : Int)
  rotate_left
  ·rw [if_neg c37] at H
   exact absurd H (by simp)
  rw [if_pos c37] at H
  have c37b0 : decide (x14_3 < ((rd_L4 l0 x28_2).length : Int)) = true := decide_eq_true c37
  clear c37
  replace H := Option.bind_eq_some_iff.mp H
  obtain ⟨t169, F380, H⟩ := H
  replace H : (impl_SlopeCuts.l0 k3 a1 y164 (wrap64 (x9_2 + ((rd_T34 (rd_L4 l0 x28_2) x14_3).f0))) t169 l0 (l0.length : Int) (wrap64 (x28_2 + 1))) = some (r1, r2, r3, r4) := H
  have F38 := run_float_op (P := Try.prog) F380
  clear F380
  have H' := Aside0.mk H
  clear H
  go_wp2_with (first | ((with_reducible refine gate_builtin (b := .append) (xs := #[.tmp 52, .tmp 54]) rfl ?_); at_builtin; refine Kd.R_append (Kd.int .i64) (w0 := w) w.heap.size rfl (.tmp 52) (.tmp 54) 28 2 (.int .i64 0) 8 rfl Try.underlying28 info2 rfl (by decide) (by omega) u8 x8_2 x14_3 [.int .i64 x14_3] (fun _ => True) (fun _ => False) rfl rfl ?aP (fun _ hk => hk.elim) ?aF ?aO ?aB ?aS ?aL ?_; (case aP => exact rfl); (case aB => exact (by repeat (first | (with_reducible first | exact HB.out | apply below_alloc | apply pw_below_drewN | apply below_drew1) | exact HB.out))); (case aF => exact (fun _ _ => trivial)); (case aO => exact (by (with_reducible repeat (first | apply Kd.R_alloc | apply Kd.R_drewN | apply Kd.R_drew)); exact HO_8.out)); (case aS => exact (below_size (by repeat (first | (with_reducible first | exact HB.out | apply below_alloc | apply pw_below_drewN | apply below_drew1) | exact HB.out)))); (case aL => have := LMc35.out; omega); intro v165 w39 ho hb hg hat; rw [← Ny164.out] at ho; have n0_ := Aside0.mk (hb); have n1_ := Aside0.mk (ho); clear HB; clear HO_8; have HB := n0_; have HO166 := n1_; clear n0_ n1_; have hcapn0 := ((HB.out.cell (World.block_lt_of_cell? w _ HCAP0.out)).trans HCAP0.out); clear ho hb hg hat; have p167 : 0 ≤ (x14_3 : Int) := of_decide_eq_true (by first | (with_reducible assumption) | assumption); have q167 : x14_3 < ((rd_L4 l0 x28_2).length : Int) := of_decide_eq_true (by first | (with_reducible assumption) | assumption); obtain ⟨ad167, e167, hx167_0, hx167_1⟩ := at_T34 HR163_0.out x14_3 p167 q167; cases e167; replace hx167_0 := (HB.out.cell (World.block_lt_of_cell? w _ hx167_0)).trans hx167_0; replace hx167_1 := (HB.out.cell (World.block_lt_of_cell? w _ hx167_1)).trans hx167_1; replace p167 := eq_true p167; replace q167 := eq_true q167; have p168 : 0 ≤ (x14_3 : Int) := of_decide_eq_true (by first | (with_reducible assumption) | assumption); have q168 : x14_3 < ((rd_L4 l0 x28_2).length : Int) := of_decide_eq_true (by first | (with_reducible assumption) | assumption); obtain ⟨ad168, e168, hx168_0, hx168_1⟩ := at_T34 HR163_0.out x14_3 p168 q168; obtain rfl : ad167 = ad168 := (by injection e168); replace hx168_0 := (HB.out.cell (World.block_lt_of_cell? w _ hx168_0)).trans hx168_0; replace hx168_1 := (HB.out.cell (World.block_lt_of_cell? w _ hx168_1)).trans hx168_1; replace p168 := eq_true p168; replace q168 := eq_true q168))
  go_roundg k3
  case measure => have := HJ2.out; have := HK2.out; have := HK3.out; omega
  case rel => exact ⟨(y164), (wrap64 (x9_2 + ((rd_T34 (rd_L4 l0 x28_2) x14_3).f0))), (t169), (wrap64 (x28_2 + 1)), (by first|rfl|(simp; done)|(simp [*]; done)), (by first|rfl|(simp; done)|(simp [*]; done)), (by first|rfl|(simp; done)|(simp [*]; done)), H', ⟨by have := HJ2.out; have := HK2.out; have := HK3.out; omega⟩, ⟨by (with_reducible repeat (first | apply Kd.R_alloc | apply Kd.R_drewN | apply Kd.R_drew)); exact HO166.out⟩, ⟨by repeat (first | (with_reducible first | exact HB.out | apply below_alloc | apply pw_below_drewN | apply below_drew1) | exact HB.out)⟩⟩
 rw [if_pos c15] at H
 have c15b0 : decide (x35_3 < ((rd_L4 l0 x28_2).length : Int)) = true := decide_eq_true c15
 clear c15
 by_cases c16 : 0 ≤ x35_3
 rotate_left
 ·rw [if_neg c16] at H
  exact absurd H (by simp)
 rw [if_pos c16] at H
 have c16b0 : decide (0 ≤ x35_3) = true := decide_eq_true c16
 clear c16
 by_cases c17 : x35_3 < ((rd_L4 l0 x28_2).length : Int)
 rotate_left
 ·rw [if_neg c17] at H
  exact absurd H (by simp)
 rw [if_pos c17] at H
 have c17b0 : decide (x35_3 < ((rd_L4 l0 x28_2).length : Int)) = true := decide_eq_true c17
 clear c17
 replace H := Option.bind_eq_some_iff.mp H
 obtain ⟨t172, A180, H⟩ := H
 replace H : (if 0 ≤ x14_3 then (if x14_3 < ((rd_L4 l0 x28_2).length : Int) then ((impl_SlopeCuts_1.f ((rd_T34 (rd_L4 l0 x28_2) x14_3).f0) ((rd_T34 (rd_L4 l0 x28_2) x14_3).f1) a1).bind fun t174 => (if (flt .f32 t172 t174) = true then (impl_SlopeCuts.l1 k3 a1 x8_2 x9_2 x10_2 (rd_L4 l0 x28_2) x35_3 l0 (l0.length : Int) x28_2 (rd_L4 l0 x28_2) ((rd_L4 l0 x28_2).length : Int) (wrap64 (x35_3 + 1))) else (impl_SlopeCuts.l1 k3 a1 x8_2 x9_2 x10_2 (rd_L4 l0 x28_2) x14_3 l0 (l0.length : Int) x28_2 (rd_L4 l0 x28_2) ((rd_L4 l0 x28_2).length : Int) (wrap64 (x35_3 + 1))))) else (none)) else (none)) = some (r1, r2, r3, r4) := H
 have A18 := Aside0.mk A180
 clear A180
 by_cases c19 : 0 ≤ x14_3
 rotate_left
 ·rw [if_neg c19] at H
  exact absurd H (by simp)
 rw [if_pos c19] at H
 have c19b0 : decide (0 ≤ x14_3) = true := decide_eq_true c19
 clear c19
 by_cases c20 : x14_3 < ((rd_L4 l0 x28_2).length : Int)
 rotate_left
 ·rw [if_neg c20] at H
  exact absurd H (by simp)
 rw [if_pos c20] at H
 have c20b0 : decide (x14_3 < ((rd_L4 l0 x28_2).length : Int)) = true := decide_eq_true c20
 clear c20
 replace H := Option.bind_eq_some_iff.mp H
 obtain ⟨t174, A210, H⟩ := H
 replace H : (if (flt .f32 t172 t174) = true then (impl_SlopeCuts.l1 k3 a1 x8_2 x9_2 x10_2 (rd_L4 l0 x28_2) x35_3 l0 (l0.length : Int) x28_2 (rd_L4 l0 x28_2) ((rd_L4 l0 x28_2).length : Int) (wrap64 (x35_3 + 1))) else (impl_SlopeCuts.l1 k3 a1 x8_2 x9_2 x10_2 (rd_L4 l0 x28_2) x14_3 l0 (l0.length : Int) x28_2 (rd_L4 l0 x28_2) ((rd_L4 l0 x28_2).length : Int) (wrap64 (x35_3 + 1)))) = some (r1, r2, r3, r4) := H
 have A21 := Aside0.mk A210
 clear A210
 by_cases c22 : (flt .f32 t172 t174) = true
 ·rw [if_pos c22] at H
  have c22b0 : (flt .f32 t172 t174) = true := c22
  clear c22
  have H' := Aside0.mk H
  clear H
  have p170 : 0 ≤ (x35_3 : Int) := of_decide_eq_true (by first | (with_reducible assumption) | assumption)
  have q170 : x35_3 < ((rd_L4 l0 x28_2).length : Int) := of_decide_eq_true (by first | (with_reducible assumption) | assumption)
  obtain ⟨ad170, e170, hx170_0, hx170_1⟩ := at_T34 HR163_0.out x35_3 p170 q170
  cases e170
  replace hx170_0 := (HB.out.cell (World.block_lt_of_cell? w _ hx170_0)).trans hx170_0
  replace hx170_1 := (HB.out.cell (World.block_lt_of_cell? w _ hx170_1)).trans hx170_1
  replace p170 := eq_true p170
  replace q170 := eq_true q170
  try go_wp2_with (first | ((with_reducible refine gate_dst (N := 16) rfl ?_); refine box_event ?hg (N := 16) ?hd (cs := #[.int .i64 0, .float .f32 0]) (t := 34) ?hr ?_; (case hd => rfl); (case hg => rfl); (case hr => first | (go_simp; done) | (go_simp; rfl)); intro gb171 hg w23 hbox hb; have n0_ := Aside0.mk (Kd.R_below (by (with_reducible repeat (first | apply Kd.R_alloc | apply Kd.R_drewN | apply Kd.R_drew)); exact HO_8.out) hb); have n1_ := Aside0.mk (below_step (by repeat (first | (with_reducible first | exact HB.out | apply below_alloc | apply pw_below_drewN | apply below_drew1) | exact HB.out)) hb); have n2_ := Aside0.mk (hbox); have n3_ := Aside0.mk ((by rw [hg]; exact (below_size (by repeat (first | (with_reducible first | exact HB.out | apply below_alloc | apply pw_below_drewN | apply below_drew1) | exact HB.out))) : w.heap.size ≤ gb171)); have n4_ := Aside0.mk ((by rw [hg]; exact (below_size (by repeat (first | (with_reducible first | exact HB.out | apply below_alloc | apply pw_below_drewN | apply below_drew1) | exact HB.out))) : w.heap.size ≤ gb171)); clear HO_8; clear HB; have HO_8 := n0_; have HB := n1_; have BK171 := n2_; have GW171 := n3_; have GE171 := n4_; clear n0_ n1_ n2_ n3_ n4_; have hcapn0 := ((HB.out.cell (World.block_lt_of_cell? w _ HCAP0.out)).trans HCAP0.out); clear hb hbox hg; have hcz24_0 : w23.cell? ⟨gb171, 0, none⟩ = some (.int .i64 0) := (blk_cell BK171.out 0).trans rfl; have hcz24_1 : w23.cell? ⟨gb171, 1, none⟩ = some (.float .f32 0) := (blk_cell BK171.out 1).trans rfl; have hfz24_0 := blk_frozen BK171.out 0; have hfz24_1 := blk_frozen BK171.out 1))
  have n0_ : Aside0 (Kd.R (Kd.int .i64) 2 ((w23.setCell ⟨gb171, 0, none⟩ (.int .i64 ((rd_T34 (rd_L4 l0 x28_2) x35_3).f0))).setCell ⟨gb171, 1, none⟩ (.float .f32 ((rd_T34 (rd_L4 l0 x28_2) x35_3).f1))) w.heap.size (fun _ => True) u8 x8_2) := ⟨by (with_reducible repeat (first | apply Kd.R_alloc | apply Kd.R_drewN | apply Kd.R_drew)); exact Kd.R_mono (Kd.R_far (p := ⟨gb171, 1, none⟩) (Kd.R_far (p := ⟨gb171, 0, none⟩) (Kd.R_types HO_8.out BK171.out (by decide)) (fun _ hk => hk.2) (.int .i64 ((rd_T34 (rd_L4 l0 x28_2) x35_3).f0))) (fun _ hk => hk.2) (.float .f32 ((rd_T34 (rd_L4 l0 x28_2) x35_3).f1))) (fun _ hk => trivial)⟩
  have n1_ : Aside0 (((w23.setCell ⟨gb171, 0, none⟩ (.int .i64 ((rd_T34 (rd_L4 l0 x28_2) x35_3).f0))).setCell ⟨gb171, 1, none⟩ (.float .f32 ((rd_T34 (rd_L4 l0 x28_2) x35_3).f1))).heap[gb171]? = some (.cells #[.int .i64 ((rd_T34 (rd_L4 l0 x28_2) x35_3).f0), .float .f32 ((rd_T34 (rd_L4 l0 x28_2) x35_3).f1)] 34 (0, 0))) := ⟨by (with_reducible repeat (first | refine blk_drewN ?_ _ | refine blk_drew ?_ | refine blk_alloc ?_ _)); refine blk_put (cs := #[.int .i64 ((rd_T34 (rd_L4 l0 x28_2) x35_3).f0), .float .f32 0]) ?_ 1 _ rfl; (with_reducible repeat (first | refine blk_drewN ?_ _ | refine blk_drew ?_ | refine blk_alloc ?_ _)); refine blk_put (cs := #[.int .i64 0, .float .f32 0]) ?_ 0 _ rfl; (with_reducible repeat (first | refine blk_drewN ?_ _ | refine blk_drew ?_ | refine blk_alloc ?_ _)); exact BK171.out⟩
  have n2_ : Aside0 (Below w.heap.size w ((w23.setCell ⟨gb171, 0, none⟩ (.int .i64 ((rd_T34 (rd_L4 l0 x28_2) x35_3).f0))).setCell ⟨gb171, 1, none⟩ (.float .f32 ((rd_T34 (rd_L4 l0 x28_2) x35_3).f1)))) := ⟨by repeat (first | (with_reducible first | exact HB.out | apply below_alloc | apply pw_below_drewN | apply below_drew1 | refine below_set ?_ GE171.out) | exact HB.out)⟩
  (try clear HO_8)
  (try clear BK171)
  (try clear HB)
  generalize ((w23.setCell ⟨gb171, 0, none⟩ (.int .i64 ((rd_T34 (rd_L4 l0 x28_2) x35_3).f0))).setCell ⟨gb171, 1, none⟩ (.float .f32 ((rd_T34 (rd_L4 l0 x28_2) x35_3).f1))) = w25 at n0_ n1_ n2_ ⊢
  have HO_8 := n0_
  have BK171 := n1_
  have HB := n2_
  clear n0_ n1_ n2_
  have n0_ := Aside0.mk (Kd.R_drew HO_8.out)
  have n1_ := Aside0.mk (blk_drew BK171.out)
  have n2_ := Aside0.mk (below_drew1 HB.out)
  clear HO_8
  clear BK171
  clear HB
  have HO_8 := n0_
  have BK171 := n1_
  have HB := n2_
  clear n0_ n1_ n2_
  have p173 : 0 ≤ (x14_3 : Int) := of_decide_eq_true (by first | (with_reducible assumption) | assumption)
  have q173 : x14_3 < ((rd_L4 l0 x28_2).length : Int) := of_decide_eq_true (by first | (with_reducible assumption) | assumption)
  obtain ⟨ad173, e173, hx173_0, hx173_1⟩ := at_T34 HR163_0.out x14_3 p173 q173
  have hw173_1 := hx173_1
  have hw173_0 := hx173_0
  obtain rfl : ad170 = ad173 := (by injection e173)
  replace hx173_0 := (HB.out.cell (World.block_lt_of_cell? w _ hx173_0)).trans hx173_0
  replace hx173_1 := (HB.out.cell (World.block_lt_of_cell? w _ hx173_1)).trans hx173_1
  replace p173 := eq_true p173
  replace q173 := eq_true q173
  refine start_ (n := 10) (S := fun w' => w'.cell? ⟨gb171, 0, none⟩ = some (.int .i64 ((rd_T34 (rd_L4 l0 x28_2) x35_3).f0)) ∧ w'.cell? ⟨gb171, 1, none⟩ = some (.float .f32 ((rd_T34 (rd_L4 l0 x28_2) x35_3).f1)) ∧ w'.cell? (ad170.add ((x14_3).toNat * 2)) = some (.int .i64 ((rd_T34 (rd_L4 l0 x28_2) x14_3).f0)) ∧ w'.cell? ⟨(ad170.add ((x14_3).toNat * 2)).block, (ad170.add ((x14_3).toNat * 2)).off + 1, none⟩ = some (.float .f32 ((rd_T34 (rd_L4 l0 x28_2) x14_3).f1))) (ds := []) #[false,false,false,false,false,false,false,false,false,false] (by kernel_rfl) rfl rfl ⟨(blk_cell BK171.out 0).trans rfl, (blk_cell BK171.out 1).trans rfl, ((HB.out.cell (World.block_lt_of_cell? w _ hw173_0)).trans hw173_0), ((HB.out.cell (World.block_lt_of_cell? w _ hw173_1)).trans hw173_1)⟩ (fun hHeld => ?_); refine with_tabW impl_SlopeCuts.tab12 impl_SlopeCuts.bits12 (fun HT_ HW_ => ?_)
  generalize w25.drew = w26 at HO_8 BK171 HB hx173_0 hx173_1 hHeld ⊢
  refine pure_ (i := 0) (N := some 40) (v := ?_) (a' := ?_) #[true,false,false,false,false,false,false,false,false,false] rfl rfl (any_of HT_.out (by kernel_rfl)) (fun _ _ _ h => h) (Or.inl ⟨by rfl, ?_⟩) ?_ ?_
  rotate_left
  ·intro w'
   go_simp
   with_reducible rfl
  rotate_left
  ·simp only [Act.put,List.setIfInBounds_toArray,List.set_cons_zero,List.set_cons_succ,i64_w,i32_w]
   rfl
  refine pure_ (i := 3) (N := some 43) (v := ?_) (a' := ?_) #[true,false,false,true,false,false,false,false,false,false] rfl rfl (any_of HT_.out (by kernel_rfl)) (fun _ _ _ h => h) (Or.inl ⟨by rfl, ?_⟩) ?_ ?_
  rotate_left
  ·intro w'
   go_simp
   with_reducible rfl
  rotate_left
  ·simp only [Act.put,List.setIfInBounds_toArray,List.set_cons_zero,List.set_cons_succ,i64_w,i32_w]
   rfl
  refine pure_ (i := 4) (N := some 44) (v := ?_) (a' := ?_) #[true,false,false,true,true,false,false,false,false,false] rfl rfl (any_of HT_.out (by kernel_rfl)) (fun _ _ _ h => h) (Or.inl ⟨by rfl, ?_⟩) ?_ ?_
  rotate_left
  ·intro w'
   go_simp
   with_reducible rfl
  rotate_left
  ·simp only [Act.put,List.setIfInBounds_toArray,List.set_cons_zero,List.set_cons_succ,i64_w,i32_w]
   rfl
  refine pure_ (i := 5) (N := some 45) (v := ?_) (a' := ?_) #[true,false,false,true,true,true,false,false,false,false] rfl rfl (any_of HT_.out (by kernel_rfl)) (fun _ _ _ h => h) (Or.inl ⟨by rfl, ?_⟩) ?_ ?_
  rotate_left
  ·intro w'
   go_simp
   with_reducible rfl
  rotate_left
  ·simp only [Act.put,List.setIfInBounds_toArray,List.set_cons_zero,List.set_cons_succ,i64_w,i32_w]
   rfl
  refine pure_ (i := 6) (N := some 46) (v := ?_) (a' := ?_) #[true,false,false,true,true,true,true,false,false,false] rfl rfl (any_of HT_.out (by kernel_rfl)) (fun _ _ _ h => h) (Or.inl ⟨by rfl, ?_⟩) ?_ ?_
  rotate_left
  ·intro w'
   go_simp
   with_reducible rfl
  rotate_left
  ·simp only [Act.put,List.setIfInBounds_toArray,List.set_cons_zero,List.set_cons_succ,i64_w,i32_w]
   rfl
  refine take_ (i := 1) (N := some 41) (v := ?_) (a' := ?_) #[true,true,false,true,true,true,true,false,false,false] rfl rfl (take_ofW HT_.out HW_.out (by kernel_rfl)) (fun _ _ _ h => h) (Or.inl ⟨by rfl, ?_⟩) hHeld ?_ ?_
  rotate_left
  ·rintro w' ⟨s0, s1, s2, s3⟩
   go_simp
   with_reducible rfl
  rotate_left
  ·simp only [Act.put,List.setIfInBounds_toArray,List.set_cons_zero,List.set_cons_succ,i64_w,i32_w]
   rfl
  refine take_ (i := 7) (N := some 47) (v := ?_) (a' := ?_) #[true,true,false,true,true,true,true,true,false,false] rfl rfl (take_ofW HT_.out HW_.out (by kernel_rfl)) (fun _ _ _ h => h) (Or.inl ⟨by rfl, ?_⟩) hHeld ?_ ?_
  rotate_left
  ·rintro w' ⟨s0, s1, s2, s3⟩
   go_simp
   with_reducible rfl
  rotate_left
  ·simp only [Act.put,List.setIfInBounds_toArray,List.set_cons_zero,List.set_cons_succ,i64_w,i32_w]
   rfl
  refine one_ (i := 2) (N := some 42) #[true,true,true,true,true,true,true,true,false,false] rfl rfl (one_of HT_.out (by kernel_rfl)) (by decide) (fun K hK => ?_)
  refine goesC_ 28 Try.func28 (by kernel_rfl) rfl #[.agg #[.int .i64 ((rd_T34 (rd_L4 l0 x28_2) x35_3).f0), .float .f32 ((rd_T34 (rd_L4 l0 x28_2) x35_3).f1)], .pointer (some ⟨w0.heap.size, 0, none⟩)] #[.pointer (some ⟨w0.heap.size, 0, none⟩)] (by rfl) rfl rfl (by rfl) (by (try simp only [List.map_toArray, List.map_cons, List.map_nil]); first | done | rfl | (simp only [List.length_drop, List.length_take]; rfl)) ?_
  with_reducible refine (impl_SlopeCuts_1.calls ((rd_T34 (rd_L4 l0 x28_2) x35_3).f0) ((rd_T34 (rd_L4 l0 x28_2) x35_3).f1) a1 t172 _ A18.out (w0.heap.size) ((HB.out.cell (World.block_lt_of_cell? w _ HCAP0.out)).trans HCAP0.out)).mono ?_
  rintro e w27 ⟨rfl, hb⟩
  refine ⟨_, rfl, ?_⟩
  have n0_ := Aside0.mk (Kd.R_below (by (with_reducible repeat (first | apply Kd.R_alloc | apply Kd.R_drewN | apply Kd.R_drew)); exact HO_8.out) hb)
  have n1_ := Aside0.mk (blk_below (g := gb171) (o := .cells #[.int .i64 ((rd_T34 (rd_L4 l0 x28_2) x35_3).f0), .float .f32 ((rd_T34 (rd_L4 l0 x28_2) x35_3).f1)] 34 (0, 0)) (by (with_reducible repeat (first | refine blk_drewN ?_ _ | refine blk_drew ?_ | refine blk_alloc ?_ _)); exact BK171.out) hb)
  have n2_ := Aside0.mk (below_step (by repeat (first | (with_reducible first | exact HB.out | apply below_alloc | apply pw_below_drewN | apply below_drew1 | refine below_set ?_ GE171.out) | exact HB.out)) hb)
  clear HO_8
  clear BK171
  clear HB
  have HO_8 := n0_
  have BK171 := n1_
  have HB := n2_
  clear n0_ n1_ n2_
  (try clear hb)
  (try clear hb2)
  (try clear hk)
  (try clear hi)
  refine hK.out _ _ ⟨(blk_cell BK171.out 0).trans rfl, (blk_cell BK171.out 1).trans rfl, ((HB.out.cell (World.block_lt_of_cell? w _ hw173_0)).trans hw173_0), ((HB.out.cell (World.block_lt_of_cell? w _ hw173_1)).trans hw173_1)⟩ (fun hHeld => ?_)
  clear hK K
  refine norm_ (a' := ?_) ?_ ?_
  rotate_left
  ·show Act.put _ (some 42) _ = _
   simp only [Act.put,List.setIfInBounds_toArray,List.set_cons_zero,List.set_cons_succ,i64_w,i32_w]
   rfl
  refine one_ (i := 8) (N := some 48) #[true,true,true,true,true,true,true,true,true,false] rfl rfl (one_of HT_.out (by kernel_rfl)) (by decide) (fun K hK => ?_)
  refine goesC_ 28 Try.func28 (by kernel_rfl) rfl #[.agg #[.int .i64 ((rd_T34 (rd_L4 l0 x28_2) x14_3).f0), .float .f32 ((rd_T34 (rd_L4 l0 x28_2) x14_3).f1)], .pointer (some ⟨w0.heap.size, 0, none⟩)] #[.pointer (some ⟨w0.heap.size, 0, none⟩)] (by rfl) rfl rfl (by rfl) (by (try simp only [List.map_toArray, List.map_cons, List.map_nil]); first | done | rfl | (simp only [List.length_drop, List.length_take]; rfl)) ?_
  with_reducible refine (impl_SlopeCuts_1.calls ((rd_T34 (rd_L4 l0 x28_2) x14_3).f0) ((rd_T34 (rd_L4 l0 x28_2) x14_3).f1) a1 t174 _ A21.out (w0.heap.size) ((HB.out.cell (World.block_lt_of_cell? w _ HCAP0.out)).trans HCAP0.out)).mono ?_
  rintro e w28 ⟨rfl, hb⟩
  refine ⟨_, rfl, ?_⟩
  have n0_ := Aside0.mk (Kd.R_below (by (with_reducible repeat (first | apply Kd.R_alloc | apply Kd.R_drewN | apply Kd.R_drew)); exact HO_8.out) hb)
  have n1_ := Aside0.mk (blk_below (g := gb171) (o := .cells #[.int .i64 ((rd_T34 (rd_L4 l0 x28_2) x35_3).f0), .float .f32 ((rd_T34 (rd_L4 l0 x28_2) x35_3).f1)] 34 (0, 0)) (by (with_reducible repeat (first | refine blk_drewN ?_ _ | refine blk_drew ?_ | refine blk_alloc ?_ _)); exact BK171.out) hb)
  have n2_ := Aside0.mk (below_step (by repeat (first | (with_reducible first | exact HB.out | apply below_alloc | apply pw_below_drewN | apply below_drew1 | refine below_set ?_ GE171.out) | exact HB.out)) hb)
  clear HO_8
  clear BK171
  clear HB
  have HO_8 := n0_
  have BK171 := n1_
  have HB := n2_
  clear n0_ n1_ n2_
  (try clear hb)
  (try clear hb2)
  (try clear hk)
  (try clear hi)
  refine hK.out _ _ ⟨(blk_cell BK171.out 0).trans rfl, (blk_cell BK171.out 1).trans rfl, ((HB.out.cell (World.block_lt_of_cell? w _ hw173_0)).trans hw173_0), ((HB.out.cell (World.block_lt_of_cell? w _ hw173_1)).trans hw173_1)⟩ (fun hHeld => ?_)
  clear hK K
  refine norm_ (a' := ?_) ?_ ?_
  rotate_left
  ·show Act.put _ (some 48) _ = _
   simp only [Act.put,List.setIfInBounds_toArray,List.set_cons_zero,List.set_cons_succ,i64_w,i32_w]
   rfl
  refine pure_ (i := 9) (N := some 49) (v := ?_) (a' := ?_) #[true,true,true,true,true,true,true,true,true,true] rfl rfl (any_of HT_.out (by kernel_rfl)) (fun _ _ _ h => h) (Or.inl ⟨by rfl, ?_⟩) ?_ ?_
  rotate_left
  ·intro w'
   go_simp
   with_reducible rfl
  rotate_left
  ·simp only [Act.put,List.setIfInBounds_toArray,List.set_cons_zero,List.set_cons_succ,i64_w,i32_w]
   rfl
  refine done_ (done_of HT_.out (by kernel_rfl)) ?_
  try go_wp2
  go_roundg k3
  case measure => have := HJ2.out; have := HK2.out; have := HK3.out; omega
  case rel => exact ⟨(x35_3), (wrap64 (x35_3 + 1)), (by first|rfl|(simp; done)|(simp [*]; done)), (by first|rfl|(simp; done)|(simp [*]; done)), H', ⟨by have := HJ2.out; have := HK2.out; have := HK3.out; omega⟩, ⟨by (with_reducible repeat (first | apply Kd.R_alloc | apply Kd.R_drewN | apply Kd.R_drew)); exact HO_8.out⟩, ⟨by repeat (first | (with_reducible first | exact HB.out | apply below_alloc | apply pw_below_drewN | apply below_drew1 | refine below_set ?_ GE171.out) | exact HB.out)⟩⟩
 rw [if_neg c22] at H
 have c22b0 : (flt .f32 t172 t174) = false := by simpa using c22
 clear c22
 have H' := Aside0.mk H
 clear H
 have p170 : 0 ≤ (x35_3 : Int) := of_decide_eq_true (by first | (with_reducible assumption) | assumption)
 have q170 : x35_3 < ((rd_L4 l0 x28_2).length : Int) := of_decide_eq_true (by first | (with_reducible assumption) | assumption)
 obtain ⟨ad170, e170, hx170_0, hx170_1⟩ := at_T34 HR163_0.out x35_3 p170 q170
 cases e170
 replace hx170_0 := (HB.out.cell (World.block_lt_of_cell? w _ hx170_0)).trans hx170_0
 replace hx170_1 := (HB.out.cell (World.block_lt_of_cell? w _ hx170_1)).trans hx170_1
 replace p170 := eq_true p170
 replace q170 := eq_true q170
 try go_wp2_with (first | ((with_reducible refine gate_dst (N := 16) rfl ?_); refine box_event ?hg (N := 16) ?hd (cs := #[.int .i64 0, .float .f32 0]) (t := 34) ?hr ?_; (case hd => rfl); (case hg => rfl); (case hr => first | (go_simp; done) | (go_simp; rfl)); intro gb171 hg w29 hbox hb; have n0_ := Aside0.mk (Kd.R_below (by (with_reducible repeat (first | apply Kd.R_alloc | apply Kd.R_drewN | apply Kd.R_drew)); exact HO_8.out) hb); have n1_ := Aside0.mk (below_step (by repeat (first | (with_reducible first | exact HB.out | apply below_alloc | apply pw_below_drewN | apply below_drew1) | exact HB.out)) hb); have n2_ := Aside0.mk (hbox); have n3_ := Aside0.mk ((by rw [hg]; exact (below_size (by repeat (first | (with_reducible first | exact HB.out | apply below_alloc | apply pw_below_drewN | apply below_drew1) | exact HB.out))) : w.heap.size ≤ gb171)); have n4_ := Aside0.mk ((by rw [hg]; exact (below_size (by repeat (first | (with_reducible first | exact HB.out | apply below_alloc | apply pw_below_drewN | apply below_drew1) | exact HB.out))) : w.heap.size ≤ gb171)); clear HO_8; clear HB; have HO_8 := n0_; have HB := n1_; have BK171 := n2_; have GW171 := n3_; have GE171 := n4_; clear n0_ n1_ n2_ n3_ n4_; have hcapn0 := ((HB.out.cell (World.block_lt_of_cell? w _ HCAP0.out)).trans HCAP0.out); clear hb hbox hg; have hcz30_0 : w29.cell? ⟨gb171, 0, none⟩ = some (.int .i64 0) := (blk_cell BK171.out 0).trans rfl; have hcz30_1 : w29.cell? ⟨gb171, 1, none⟩ = some (.float .f32 0) := (blk_cell BK171.out 1).trans rfl; have hfz30_0 := blk_frozen BK171.out 0; have hfz30_1 := blk_frozen BK171.out 1))
 have n0_ : Aside0 (Kd.R (Kd.int .i64) 2 ((w29.setCell ⟨gb171, 0, none⟩ (.int .i64 ((rd_T34 (rd_L4 l0 x28_2) x35_3).f0))).setCell ⟨gb171, 1, none⟩ (.float .f32 ((rd_T34 (rd_L4 l0 x28_2) x35_3).f1))) w.heap.size (fun _ => True) u8 x8_2) := ⟨by (with_reducible repeat (first | apply Kd.R_alloc | apply Kd.R_drewN | apply Kd.R_drew)); exact Kd.R_mono (Kd.R_far (p := ⟨gb171, 1, none⟩) (Kd.R_far (p := ⟨gb171, 0, none⟩) (Kd.R_types HO_8.out BK171.out (by decide)) (fun _ hk => hk.2) (.int .i64 ((rd_T34 (rd_L4 l0 x28_2) x35_3).f0))) (fun _ hk => hk.2) (.float .f32 ((rd_T34 (rd_L4 l0 x28_2) x35_3).f1))) (fun _ hk => trivial)⟩
 have n1_ : Aside0 (((w29.setCell ⟨gb171, 0, none⟩ (.int .i64 ((rd_T34 (rd_L4 l0 x28_2) x35_3).f0))).setCell ⟨gb171, 1, none⟩ (.float .f32 ((rd_T34 (rd_L4 l0 x28_2) x35_3).f1))).heap[gb171]? = some (.cells #[.int .i64 ((rd_T34 (rd_L4 l0 x28_2) x35_3).f0), .float .f32 ((rd_T34 (rd_L4 l0 x28_2) x35_3).f1)] 34 (0, 0))) := ⟨by (with_reducible repeat (first | refine blk_drewN ?_ _ | refine blk_drew ?_ | refine blk_alloc ?_ _)); refine blk_put (cs := #[.int .i64 ((rd_T34 (rd_L4 l0 x28_2) x35_3).f0), .float .f32 0]) ?_ 1 _ rfl; (with_reducible repeat (first | refine blk_drewN ?_ _ | refine blk_drew ?_ | refine blk_alloc ?_ _)); refine blk_put (cs := #[.int .i64 0, .float .f32 0]) ?_ 0 _ rfl; (with_reducible repeat (first | refine blk_drewN ?_ _ | refine blk_drew ?_ | refine blk_alloc ?_ _)); exact BK171.out⟩
 have n2_ : Aside0 (Below w.heap.size w ((w29.setCell ⟨gb171, 0, none⟩ (.int .i64 ((rd_T34 (rd_L4 l0 x28_2) x35_3).f0))).setCell ⟨gb171, 1, none⟩ (.float .f32 ((rd_T34 (rd_L4 l0 x28_2) x35_3).f1)))) := ⟨by repeat (first | (with_reducible first | exact HB.out | apply below_alloc | apply pw_below_drewN | apply below_drew1 | refine below_set ?_ GE171.out) | exact HB.out)⟩
 (try clear HO_8)
 (try clear BK171)
 (try clear HB)
 generalize ((w29.setCell ⟨gb171, 0, none⟩ (.int .i64 ((rd_T34 (rd_L4 l0 x28_2) x35_3).f0))).setCell ⟨gb171, 1, none⟩ (.float .f32 ((rd_T34 (rd_L4 l0 x28_2) x35_3).f1))) = w31 at n0_ n1_ n2_ ⊢
 have HO_8 := n0_
 have BK171 := n1_
 have HB := n2_
 clear n0_ n1_ n2_
 have n0_ := Aside0.mk (Kd.R_drew HO_8.out)
 have n1_ := Aside0.mk (blk_drew BK171.out)
 have n2_ := Aside0.mk (below_drew1 HB.out)
 clear HO_8
 clear BK171
 clear HB
 have HO_8 := n0_
 have BK171 := n1_
 have HB := n2_
 clear n0_ n1_ n2_
 have p173 : 0 ≤ (x14_3 : Int) := of_decide_eq_true (by first | (with_reducible assumption) | assumption)
 have q173 : x14_3 < ((rd_L4 l0 x28_2).length : Int) := of_decide_eq_true (by first | (with_reducible assumption) | assumption)
 obtain ⟨ad173, e173, hx173_0, hx173_1⟩ := at_T34 HR163_0.out x14_3 p173 q173
 have hw173_1 := hx173_1
 have hw173_0 := hx173_0
 obtain rfl : ad170 = ad173 := (by injection e173)
 replace hx173_0 := (HB.out.cell (World.block_lt_of_cell? w _ hx173_0)).trans hx173_0
 replace hx173_1 := (HB.out.cell (World.block_lt_of_cell? w _ hx173_1)).trans hx173_1
 replace p173 := eq_true p173
 replace q173 := eq_true q173
 refine start_ (n := 10) (S := fun w' => w'.cell? ⟨gb171, 0, none⟩ = some (.int .i64 ((rd_T34 (rd_L4 l0 x28_2) x35_3).f0)) ∧ w'.cell? ⟨gb171, 1, none⟩ = some (.float .f32 ((rd_T34 (rd_L4 l0 x28_2) x35_3).f1)) ∧ w'.cell? (ad170.add ((x14_3).toNat * 2)) = some (.int .i64 ((rd_T34 (rd_L4 l0 x28_2) x14_3).f0)) ∧ w'.cell? ⟨(ad170.add ((x14_3).toNat * 2)).block, (ad170.add ((x14_3).toNat * 2)).off + 1, none⟩ = some (.float .f32 ((rd_T34 (rd_L4 l0 x28_2) x14_3).f1))) (ds := []) #[false,false,false,false,false,false,false,false,false,false] (by kernel_rfl) rfl rfl ⟨(blk_cell BK171.out 0).trans rfl, (blk_cell BK171.out 1).trans rfl, ((HB.out.cell (World.block_lt_of_cell? w _ hw173_0)).trans hw173_0), ((HB.out.cell (World.block_lt_of_cell? w _ hw173_1)).trans hw173_1)⟩ (fun hHeld => ?_); refine with_tabW impl_SlopeCuts.tab12 impl_SlopeCuts.bits12 (fun HT_ HW_ => ?_)
 generalize w31.drew = w32 at HO_8 BK171 HB hx173_0 hx173_1 hHeld ⊢
 refine pure_ (i := 0) (N := some 40) (v := ?_) (a' := ?_) #[true,false,false,false,false,false,false,false,false,false] rfl rfl (any_of HT_.out (by kernel_rfl)) (fun _ _ _ h => h) (Or.inl ⟨by rfl, ?_⟩) ?_ ?_
 rotate_left
 ·intro w'
  go_simp
  with_reducible rfl
 rotate_left
 ·simp only [Act.put,List.setIfInBounds_toArray,List.set_cons_zero,List.set_cons_succ,i64_w,i32_w]
  rfl
 refine pure_ (i := 3) (N := some 43) (v := ?_) (a' := ?_) #[true,false,false,true,false,false,false,false,false,false] rfl rfl (any_of HT_.out (by kernel_rfl)) (fun _ _ _ h => h) (Or.inl ⟨by rfl, ?_⟩) ?_ ?_
 rotate_left
 ·intro w'
  go_simp
  with_reducible rfl
 rotate_left
 ·simp only [Act.put,List.setIfInBounds_toArray,List.set_cons_zero,List.set_cons_succ,i64_w,i32_w]
  rfl
 refine pure_ (i := 4) (N := some 44) (v := ?_) (a' := ?_) #[true,false,false,true,true,false,false,false,false,false] rfl rfl (any_of HT_.out (by kernel_rfl)) (fun _ _ _ h => h) (Or.inl ⟨by rfl, ?_⟩) ?_ ?_
 rotate_left
 ·intro w'
  go_simp
  with_reducible rfl
 rotate_left
 ·simp only [Act.put,List.setIfInBounds_toArray,List.set_cons_zero,List.set_cons_succ,i64_w,i32_w]
  rfl
 refine pure_ (i := 5) (N := some 45) (v := ?_) (a' := ?_) #[true,false,false,true,true,true,false,false,false,false] rfl rfl (any_of HT_.out (by kernel_rfl)) (fun _ _ _ h => h) (Or.inl ⟨by rfl, ?_⟩) ?_ ?_
 rotate_left
 ·intro w'
  go_simp
  with_reducible rfl
 rotate_left
 ·simp only [Act.put,List.setIfInBounds_toArray,List.set_cons_zero,List.set_cons_succ,i64_w,i32_w]
  rfl
 refine pure_ (i := 6) (N := some 46) (v := ?_) (a' := ?_) #[true,false,false,true,true,true,true,false,false,false] rfl rfl (any_of HT_.out (by kernel_rfl)) (fun _ _ _ h => h) (Or.inl ⟨by rfl, ?_⟩) ?_ ?_
 rotate_left
 ·intro w'
  go_simp
  with_reducible rfl
 rotate_left
 ·simp only [Act.put,List.setIfInBounds_toArray,List.set_cons_zero,List.set_cons_succ,i64_w,i32_w]
  rfl
 refine take_ (i := 1) (N := some 41) (v := ?_) (a' := ?_) #[true,true,false,true,true,true,true,false,false,false] rfl rfl (take_ofW HT_.out HW_.out (by kernel_rfl)) (fun _ _ _ h => h) (Or.inl ⟨by rfl, ?_⟩) hHeld ?_ ?_
 rotate_left
 ·rintro w' ⟨s0, s1, s2, s3⟩
  go_simp
  with_reducible rfl
 rotate_left
 ·simp only [Act.put,List.setIfInBounds_toArray,List.set_cons_zero,List.set_cons_succ,i64_w,i32_w]
  rfl
 refine take_ (i := 7) (N := some 47) (v := ?_) (a' := ?_) #[true,true,false,true,true,true,true,true,false,false] rfl rfl (take_ofW HT_.out HW_.out (by kernel_rfl)) (fun _ _ _ h => h) (Or.inl ⟨by rfl, ?_⟩) hHeld ?_ ?_
 rotate_left
 ·rintro w' ⟨s0, s1, s2, s3⟩
  go_simp
  with_reducible rfl
 rotate_left
 ·simp only [Act.put,List.setIfInBounds_toArray,List.set_cons_zero,List.set_cons_succ,i64_w,i32_w]
  rfl
 refine one_ (i := 2) (N := some 42) #[true,true,true,true,true,true,true,true,false,false] rfl rfl (one_of HT_.out (by kernel_rfl)) (by decide) (fun K hK => ?_)
 refine goesC_ 28 Try.func28 (by kernel_rfl) rfl #[.agg #[.int .i64 ((rd_T34 (rd_L4 l0 x28_2) x35_3).f0), .float .f32 ((rd_T34 (rd_L4 l0 x28_2) x35_3).f1)], .pointer (some ⟨w0.heap.size, 0, none⟩)] #[.pointer (some ⟨w0.heap.size, 0, none⟩)] (by rfl) rfl rfl (by rfl) (by (try simp only [List.map_toArray, List.map_cons, List.map_nil]); first | done | rfl | (simp only [List.length_drop, List.length_take]; rfl)) ?_
 with_reducible refine (impl_SlopeCuts_1.calls ((rd_T34 (rd_L4 l0 x28_2) x35_3).f0) ((rd_T34 (rd_L4 l0 x28_2) x35_3).f1) a1 t172 _ A18.out (w0.heap.size) ((HB.out.cell (World.block_lt_of_cell? w _ HCAP0.out)).trans HCAP0.out)).mono ?_
 rintro e w33 ⟨rfl, hb⟩
 refine ⟨_, rfl, ?_⟩
 have n0_ := Aside0.mk (Kd.R_below (by (with_reducible repeat (first | apply Kd.R_alloc | apply Kd.R_drewN | apply Kd.R_drew)); exact HO_8.out) hb)
 have n1_ := Aside0.mk (blk_below (g := gb171) (o := .cells #[.int .i64 ((rd_T34 (rd_L4 l0 x28_2) x35_3).f0), .float .f32 ((rd_T34 (rd_L4 l0 x28_2) x35_3).f1)] 34 (0, 0)) (by (with_reducible repeat (first | refine blk_drewN ?_ _ | refine blk_drew ?_ | refine blk_alloc ?_ _)); exact BK171.out) hb)
 have n2_ := Aside0.mk (below_step (by repeat (first | (with_reducible first | exact HB.out | apply below_alloc | apply pw_below_drewN | apply below_drew1 | refine below_set ?_ GE171.out) | exact HB.out)) hb)
 clear HO_8
 clear BK171
 clear HB
 have HO_8 := n0_
 have BK171 := n1_
 have HB := n2_
 clear n0_ n1_ n2_
 (try clear hb)
 (try clear hb2)
 (try clear hk)
 (try clear hi)
 refine hK.out _ _ ⟨(blk_cell BK171.out 0).trans rfl, (blk_cell BK171.out 1).trans rfl, ((HB.out.cell (World.block_lt_of_cell? w _ hw173_0)).trans hw173_0), ((HB.out.cell (World.block_lt_of_cell? w _ hw173_1)).trans hw173_1)⟩ (fun hHeld => ?_)
 clear hK K
 refine norm_ (a' := ?_) ?_ ?_
 rotate_left
 ·show Act.put _ (some 42) _ = _
  simp only [Act.put,List.setIfInBounds_toArray,List.set_cons_zero,List.set_cons_succ,i64_w,i32_w]
  rfl
 refine one_ (i := 8) (N := some 48) #[true,true,true,true,true,true,true,true,true,false] rfl rfl (one_of HT_.out (by kernel_rfl)) (by decide) (fun K hK => ?_)
 refine goesC_ 28 Try.func28 (by kernel_rfl) rfl #[.agg #[.int .i64 ((rd_T34 (rd_L4 l0 x28_2) x14_3).f0), .float .f32 ((rd_T34 (rd_L4 l0 x28_2) x14_3).f1)], .pointer (some ⟨w0.heap.size, 0, none⟩)] #[.pointer (some ⟨w0.heap.size, 0, none⟩)] (by rfl) rfl rfl (by rfl) (by (try simp only [List.map_toArray, List.map_cons, List.map_nil]); first | done | rfl | (simp only [List.length_drop, List.length_take]; rfl)) ?_
 with_reducible refine (impl_SlopeCuts_1.calls ((rd_T34 (rd_L4 l0 x28_2) x14_3).f0) ((rd_T34 (rd_L4 l0 x28_2) x14_3).f1) a1 t174 _ A21.out (w0.heap.size) ((HB.out.cell (World.block_lt_of_cell? w _ HCAP0.out)).trans HCAP0.out)).mono ?_
 rintro e w34 ⟨rfl, hb⟩
 refine ⟨_, rfl, ?_⟩
 have n0_ := Aside0.mk (Kd.R_below (by (with_reducible repeat (first | apply Kd.R_alloc | apply Kd.R_drewN | apply Kd.R_drew)); exact HO_8.out) hb)
 have n1_ := Aside0.mk (blk_below (g := gb171) (o := .cells #[.int .i64 ((rd_T34 (rd_L4 l0 x28_2) x35_3).f0), .float .f32 ((rd_T34 (rd_L4 l0 x28_2) x35_3).f1)] 34 (0, 0)) (by (with_reducible repeat (first | refine blk_drewN ?_ _ | refine blk_drew ?_ | refine blk_alloc ?_ _)); exact BK171.out) hb)
 have n2_ := Aside0.mk (below_step (by repeat (first | (with_reducible first | exact HB.out | apply below_alloc | apply pw_below_drewN | apply below_drew1 | refine below_set ?_ GE171.out) | exact HB.out)) hb)
 clear HO_8
 clear BK171
 clear HB
 have HO_8 := n0_
 have BK171 := n1_
 have HB := n2_
 clear n0_ n1_ n2_
 (try clear hb)
 (try clear hb2)
 (try clear hk)
 (try clear hi)
 refine hK.out _ _ ⟨(blk_cell BK171.out 0).trans rfl, (blk_cell BK171.out 1).trans rfl, ((HB.out.cell (World.block_lt_of_cell? w _ hw173_0)).trans hw173_0), ((HB.out.cell (World.block_lt_of_cell? w _ hw173_1)).trans hw173_1)⟩ (fun hHeld => ?_)
 clear hK K
 refine norm_ (a' := ?_) ?_ ?_
 rotate_left
 ·show Act.put _ (some 48) _ = _
  simp only [Act.put,List.setIfInBounds_toArray,List.set_cons_zero,List.set_cons_succ,i64_w,i32_w]
  rfl
 refine pure_ (i := 9) (N := some 49) (v := ?_) (a' := ?_) #[true,true,true,true,true,true,true,true,true,true] rfl rfl (any_of HT_.out (by kernel_rfl)) (fun _ _ _ h => h) (Or.inl ⟨by rfl, ?_⟩) ?_ ?_
 rotate_left
 ·intro w'
  go_simp
  with_reducible rfl
 rotate_left
 ·simp only [Act.put,List.setIfInBounds_toArray,List.set_cons_zero,List.set_cons_succ,i64_w,i32_w]
  rfl
 refine done_ (done_of HT_.out (by kernel_rfl)) ?_
 try go_wp2
 go_roundg k3
 case measure => have := HJ2.out; have := HK2.out; have := HK3.out; omega
 case rel => exact ⟨(x14_3), (wrap64 (x35_3 + 1)), (by first|rfl|(simp; done)|(simp [*]; done)), (by first|rfl|(simp; done)|(simp [*]; done)), H', ⟨by have := HJ2.out; have := HK2.out; have := HK3.out; omega⟩, ⟨by (with_reducible repeat (first | apply Kd.R_alloc | apply Kd.R_drewN | apply Kd.R_drew)); exact HO_8.out⟩, ⟨by repeat (first | (with_reducible first | exact HB.out | apply below_alloc | apply pw_below_drewN | apply below_drew1 | refine below_set ?_ GE171.out) | exact HB.out)⟩⟩
theorem impl_SlopeCuts.calls (k : Nat) (A0 : Option Addr) (c0 : Nat) (l0 : List (List (S34))) (a1 : Nat) (r1 : List Int) (r2 : Int) (r3 : Nat) (r4 : Bool) (w : World) (hr0 : Kd.C (Kd.slice 34 k34) w A0 l0.length l0) (hc0 : l0.length ≤ c0) (h : impl_SlopeCuts.f k l0 a1 = some (r1, r2, r3, r4)) :
    Calls Try.prog 8 #[.slice A0 l0.length c0, .float .f32 a1] w fun e w' => ∃ v0_ : Value, e = .returned (.tuple #[v0_, .int .i64 r2, .float .f32 r3, .bool r4]) ∧ Kd.R (Kd.int .i64) 2 w' w.heap.size (fun _ => True) v0_ r1 ∧ Below w.heap.size w w' := by
  have hbel : Below w.heap.size w (w.alloc (Obj.cells #[.float .f32 a1] 26)) := by repeat (first | exact Below.refl _ _ | apply below_alloc)
  refine (impl_SlopeCuts.calls0 k A0 c0 l0 a1 r1 r2 r3 r4 w _ rfl (by simp) (Kd.C_below hr0 hbel) hc0 h).mono ?_
  rintro e w' ⟨v0_, rfl, ho, hb⟩
  exact ⟨v0_, rfl, Kd.R_lower ho (below_size hbel), below_step hbel hb⟩

end Go.Proofs.Ytpngjpiodhpbnaa.PFnCuts
