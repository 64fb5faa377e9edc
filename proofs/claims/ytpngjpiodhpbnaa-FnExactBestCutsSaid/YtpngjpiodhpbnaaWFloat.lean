-- Written by a turned copy of the kit's printer (wip/pf).
/- Floats for printed texts: a float is its bits. A kind, the comparisons as named Bools, and what the walk's operations give where they give no NaN. -/
import Derived.Test.YtpngjpiodhpbnaaWMore
import Derived.Laws.Cover2
import Derived.Laws.FloatArith
namespace Go.Proofs.YtpngjpiodhpbnaaW.PrintWords
open Go.RowKit
namespace Kd
def float (k : FloatKind) : Kd Nat := scalar (Value.float k) (fun _ => rfl)
theorem heap_float (k : FloatKind) : Heap (Kd.float k) := ⟨fun _ h => h⟩
section
variable {w W : World} {A : Option Addr} {n : Nat}
theorem at_float {k : FloatKind} {xs : List Nat} (h : (Kd.float k).C w A n xs) (i : Int) (h0 : 0 ≤ i) (h1 : i < n) : ∃ ad, A = some ad ∧ w.cell? (ad.add i.toNat) = some (.float k (rdOf (0 : Nat) xs i)) :=
  ReadsOf.at_ (reads_of_C (enc := Value.float k) (d := (0 : Nat)) (h1 := fun _ => rfl) h) i h0 h1
theorem foot_float {k : FloatKind} {ad : Addr} {l : List Nat} (h : (Kd.float k).C w (some ad) n l) (i : Int) (h0 : 0 ≤ i) (h1 : i < n) : w.cell? (ad.add i.toNat) = some (.float k (rdOf (0 : Nat) l i)) := by
  obtain ⟨ad', he, hc⟩ := at_float h i h0 h1
  injection he with he
  subst he
  exact hc
theorem K_slice_mk {α : Type} {d : Kd α} {e : Nat} {w : World} {A : Option Addr} {c : Nat} {xs : List α} (hl : xs.length ≤ c) (h : d.C w A xs.length xs) : (Kd.slice e d).K w xs [.slice A xs.length c] := ⟨A, c, rfl, hl, h⟩
end
section
variable {P : Program} {ops : Array Oper} {rest : List Oper} {o : Oper} {a : Act} {Q : Exit → Act → World → Prop} {α : Type}
/-- A literal whose elements lead to what is only read: what it reads as. -/
theorem view_lit (d : Kd α) (e : Nat) {W : World} (hgd : o.guard = none) {N' : Tmp} (_hd : o.dst = some N') {xs : List α} {inner : List Value}
    (hrun : (execOp a.eval o).run P W = .ok (.value (.slice (some ⟨W.heap.size, 0, none⟩) xs.length xs.length)) (W.alloc (.cells inner.toArray e)))
    (hrep : Reps (d.K W) d.sz xs inner) (hm : xs.length ≤ 9223372036854775807)
    (h : ∀ (g : Nat) (w1 : World), d.C w1 (some ⟨g, 0, none⟩) xs.length xs → Below W.heap.size W w1 → wpList P ops Q rest (a.put o.dst (.slice (some ⟨g, 0, none⟩) xs.length xs.length)) w1) : wpList P ops Q (o :: rest) a W := by
  have hb : Below W.heap.size W (W.alloc (.cells inner.toArray e)) := below_alloc (Below.refl _ _) _
  refine event_run hgd hrun (h W.heap.size _ ?_ hb)
  have h2 := World.ownsRow_lit (base := W.heap.size) (e := e) (size := d.sz) W inner.toArray xs.length (Nat.le_refl _) (by simpa [maxLen] using hm) (by simpa using hrep.1)
  have ho : OwnRow (d.K (W.alloc (.cells inner.toArray e))) e d.sz (W.alloc (.cells inner.toArray e)) W.heap.size (.slice (some ⟨W.heap.size, 0, none⟩) xs.length xs.length) xs :=
    ⟨inner, by simpa using h2, hrep.imp_ (fun _ _ hp => d.K_below hb hp)⟩
  obtain ⟨A, c, he, _, hr⟩ := OwnRow.reads ho
  injection he with h1 _ _
  rw [h1]
  exact hr
end
end Kd
def feq (k : FloatKind) (x y : Nat) : Bool := k.format.order x y == some .eq
def fne (k : FloatKind) (x y : Nat) : Bool := k.format.order x y != some .eq
def flt (k : FloatKind) (x y : Nat) : Bool := k.format.order x y == some .lt
def fle (k : FloatKind) (x y : Nat) : Bool := k.format.order x y == some .lt || k.format.order x y == some .eq
def fgt (k : FloatKind) (x y : Nat) : Bool := k.format.order x y == some .gt
def fge (k : FloatKind) (x y : Nat) : Bool := k.format.order x y == some .gt || k.format.order x y == some .eq
theorem feq_fold (t : TypeId) (k : FloatKind) (a b : Nat) : binOp .eql t (.float k a) (.float k b) = pure (.bool (feq k a b)) := binOp_float_cmp_eql t k a b
theorem fne_fold (t : TypeId) (k : FloatKind) (a b : Nat) : binOp .neq t (.float k a) (.float k b) = pure (.bool (fne k a b)) := binOp_float_cmp_neq t k a b
theorem flt_fold (t : TypeId) (k : FloatKind) (a b : Nat) : binOp .lss t (.float k a) (.float k b) = pure (.bool (flt k a b)) := binOp_float_cmp_lss t k a b
theorem fle_fold (t : TypeId) (k : FloatKind) (a b : Nat) : binOp .leq t (.float k a) (.float k b) = pure (.bool (fle k a b)) := binOp_float_cmp_leq t k a b
theorem fgt_fold (t : TypeId) (k : FloatKind) (a b : Nat) : binOp .gtr t (.float k a) (.float k b) = pure (.bool (fgt k a b)) := binOp_float_cmp_gtr t k a b
theorem fge_fold (t : TypeId) (k : FloatKind) (a b : Nat) : binOp .geq t (.float k a) (.float k b) = pure (.bool (fge k a b)) := binOp_float_cmp_geq t k a b
theorem fneg_run (k : FloatKind) (b : Nat) : Op.unary .neg (.float k b) = pure (.float k (Op.negFloat k b)) := rfl
theorem fsame_run {P : Program} (w : World) (src dst : TypeId) (k : FloatKind) (b : Nat) (hs : (P.underlying src).isSome = true) (hd : P.underlying dst = some (.float k)) :
    (convert src dst (.float k b)).run P w = .ok (.float k b) w := run_convert_float_float w src dst k k b b hs hd (by simp [floatToFloatBits])
theorem fstore_run {P : Program} {w : World} {a : Addr} {m : Mode} (k : FloatKind) (b : Nat) : (store a (.float k b) m).run P w = stored P w a (.float k b) m := run_store P w a _ m rfl
theorem run_float_op {P : Program} {op : BinOp} {k : FloatKind} {x y r : Nat} (h : floatBits op k x y = some r) : ∀ (t : TypeId) (w : World), (binOp op t (.float k x) (.float k y)).run P w = .ok (.float k r) w :=
  fun t w => run_float_arith w op t k x y r h
theorem run_float_float {P : Program} {s k : FloatKind} {b r : Nat} (h : floatToFloatBits s b k = some r) (src dst : TypeId) (hs : (P.underlying src).isSome = true) (hd : P.underlying dst = some (.float k)) :
    ∀ w : World, (convert src dst (.float s b)).run P w = .ok (.float k r) w := fun w => run_convert_float_float w src dst s k b r hs hd h
theorem run_float_int {P : Program} {s : FloatKind} {k : IntKind} {b : Nat} {n : Int} (h : floatToIntVal s b k = some n) (src dst : TypeId) (hs : (P.underlying src).isSome = true) (hd : P.underlying dst = some (.int k)) :
    ∀ w : World, (convert src dst (.float s b)).run P w = .ok (.int k n) w := fun w => run_convert_float_int w src dst s k b n hs hd h
section
variable {P : Program} (f : FuncId) {fn : Func} (hf : P.funcs[f]? = some fn) (hname : (fn.name == "runtime.NumGoroutine") = false) (hb : fn.body.isNone = true) (hn : Extern.findNext fn = none)
def f32bits (x : Nat) : Option Int := some (x : Int)
def f64bits (x : Nat) : Option Int := some (x : Int)
def f32of (x : Int) : Option Nat := some x.toNat
def f64of (x : Int) : Option Nat := some x.toNat
def fsqrt (x : Nat) : Option Nat := FloatKind.f64.format.sqrt x
include hf hname hb hn in
theorem run_bodyless {args : Array Value} {v : Value} {e : Array Value → Sem Value} (he : Extern.find fn = some e) (hv : ∀ w, (e args).run P w = .ok v w) : ∀ w, (callFunc f args).run P w = .ok (.value v) w := by
  intro w
  have h1 : fn.name ≠ "runtime.NumGoroutine" := by simpa using hname
  have h2 : fn.body = none := by simpa using hb
  simp [callFunc, hf, h1, h2, hn, he, mark, Sem.run, hv]
end
theorem run_f32bits {P : Program} {x : Nat} {r : Int} (h : f32bits x = some r) (f : FuncId) {fn : Func} (hf : P.funcs[f]? = some fn) (hname : (fn.name == "runtime.NumGoroutine") = false) (hb : fn.body.isNone = true) (hn : Extern.findNext fn = none)
    (he : Extern.find fn = some Extern.MathFloatBits.float32bits) : ∀ w : World, (callFunc f #[.float .f32 x]).run P w = .ok (.value (.int .u32 r)) w := by
  cases h
  exact run_bodyless f hf hname hb hn he (fun w => rfl)
theorem run_f64bits {P : Program} {x : Nat} {r : Int} (h : f64bits x = some r) (f : FuncId) {fn : Func} (hf : P.funcs[f]? = some fn) (hname : (fn.name == "runtime.NumGoroutine") = false) (hb : fn.body.isNone = true) (hn : Extern.findNext fn = none)
    (he : Extern.find fn = some Extern.MathFloatBits.float64bits) : ∀ w : World, (callFunc f #[.float .f64 x]).run P w = .ok (.value (.int .u64 r)) w := by
  cases h
  exact run_bodyless f hf hname hb hn he (fun w => rfl)
theorem run_f32of {P : Program} {x : Int} {r : Nat} (h : f32of x = some r) (f : FuncId) {fn : Func} (hf : P.funcs[f]? = some fn) (hname : (fn.name == "runtime.NumGoroutine") = false) (hb : fn.body.isNone = true) (hn : Extern.findNext fn = none)
    (he : Extern.find fn = some Extern.MathFloatBits.float32frombits) : ∀ w : World, (callFunc f #[.int .u32 x]).run P w = .ok (.value (.float .f32 r)) w := by
  cases h
  exact run_bodyless f hf hname hb hn he (fun w => rfl)
theorem run_f64of {P : Program} {x : Int} {r : Nat} (h : f64of x = some r) (f : FuncId) {fn : Func} (hf : P.funcs[f]? = some fn) (hname : (fn.name == "runtime.NumGoroutine") = false) (hb : fn.body.isNone = true) (hn : Extern.findNext fn = none)
    (he : Extern.find fn = some Extern.MathFloatBits.float64frombits) : ∀ w : World, (callFunc f #[.int .u64 x]).run P w = .ok (.value (.float .f64 r)) w := by
  cases h
  exact run_bodyless f hf hname hb hn he (fun w => rfl)
theorem run_fsqrt {P : Program} {x : Nat} {r : Nat} (h : fsqrt x = some r) (f : FuncId) {fn : Func} (hf : P.funcs[f]? = some fn) (hname : (fn.name == "runtime.NumGoroutine") = false) (hb : fn.body.isNone = true) (hn : Extern.findNext fn = none)
    (he : Extern.find fn = some Extern.MathSqrt.sqrt) : ∀ w : World, (callFunc f #[.float .f64 x]).run P w = .ok (.value (.float .f64 r)) w := by
  refine run_bodyless f hf hname hb hn he (fun w => ?_)
  have h' : FloatKind.f64.format.sqrt x = some r := h
  change Sem.run P (match FloatKind.f64.format.sqrt x with
    | some r => (pure (Value.float .f64 r) : Sem Value)
    | none => (do pure (Value.float .f64 (← choose (.nanBits .f64 x x))))) w = _
  rw [h']
  rfl
theorem bsz_mk (a : Array UInt8) : (⟨a⟩ : ByteArray).size = a.size := rfl
/-! ### A call of a closure that a variable holds -/
section
variable {P : Program} {md : Region.Mode} {ops : Array Oper} {Q : Exit → Act → World → Prop}
theorem goesC_ {oi : Oper} {N : Option Tmp} {a : Act} {w : World} {K : Act → World → Prop} (f : FuncId) {fn : Func} {s : Tmp} {as : Array Operand} {ts : Array TypeId} (hf : P.funcs[f]? = some fn) (hname : (fn.name == "runtime.NumGoroutine") = false) (hb : fn.body.isSome = true) (args caps : Array Value)
    (hw : Region.wanted oi (yielded ops a.tmps) = true) (hN : oi.dst = N) (hop : oi.op = .call { callee := .value (.tmp s), args := as, argTypes := ts }) (hfv : a.eval (.tmp s) = .func (.func f) #[] caps) (hargs : as.map a.eval ++ caps = args)
    (h : Calls P f args w fun e w' => ∃ v, e = .returned v ∧ K (a.put N v) w') : if Region.wanted oi (yielded ops a.tmps) = true then Oper.wp P oi a w K Q else K (a.put N undef) w := by
  refine PrintLast.call_ f args hw hN ?_ h
  have he := PrintLast.enters_ hf hname hb args w
  unfold execOp
  simp [hop, resolve, Deferred.ofValue, invoke, hfv, hargs, he]
end
/-- max and min of two floats, none of them a NaN. -/
def fmax (k : FloatKind) (x y : Nat) : Option Nat :=
  match k.format.order x y with
  | none => none
  | some .lt => some y
  | some .gt => some x
  | some .eq => some (if (k.decode x).neg then y else x)
/-- The walk's own step on a max of two floats. -/
theorem run_fmax {P : Program} {k : FloatKind} {x y r : Nat} (h : fmax k x y = some r) : ∀ w : World, (Builtin.max2 (.float k x) (.float k y)).run P w = .ok (.float k r) w := by
  intro w
  change Sem.run P (match k.format.order x y with
    | none => (do pure (Value.float k (← choose (.nanMinMax k true x y))))
    | some .lt => (pure (Value.float k y) : Sem Value)
    | some .gt => pure (Value.float k x)
    | some .eq => pure (Value.float k (if (k.decode x).neg then y else x))) w = _
  unfold fmax at h
  cases ho : k.format.order x y with
  | none => rw [ho] at h; cases h
  | some o => rw [ho] at h; cases o <;> (cases h; rfl)
end Go.Proofs.YtpngjpiodhpbnaaW.PrintWords
