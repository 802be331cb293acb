/-
  One operation's run, by the equation on its instruction.
-/
import Derived.WalkKit
import Derived.Deep.MidRow
import Derived.Deep.WholeRow
namespace Go.Ex
open Go
variable {P : Program} {o : Oper} {ρ : Operand → Value} {w w' : World}

theorem load {t : TypeId} {x : Operand} {v : Value} (ho : o.op = .load t x) (hr : (Instr.loadAt t (ρ x)).run P w = .ok v w') : (execOp ρ o).run P w = .ok (.value v) w' := by
  unfold execOp; simp only [ho, Sem.run_bind, hr, Result.andThen_ok]; rfl
theorem store {t : TypeId} {x y : Operand} (ho : o.op = .store t x y) (hr : (Instr.storeAt t (ρ x) (ρ y)).run P w = .ok () w') : (execOp ρ o).run P w = .ok .skip w' := by
  unfold execOp; simp only [ho, Sem.run_bind, hr, Result.andThen_ok]; rfl
theorem pairs (ρ : Operand → Value) (l : List (Nat × Operand)) : (l.toArray.map fun (i, x) => (i, ρ x)) = (l.map fun p => (p.1, ρ p.2)).toArray := by
  rw [List.map_toArray]
theorem build {t : TypeId} {l : List (Nat × Operand)} {v : Value} (ho : o.op = .build t l.toArray) (hr : (Instr.build t (l.map fun p => (p.1, ρ p.2)).toArray).run P w = .ok v w') : (execOp ρ o).run P w = .ok (.value v) w' := by
  unfold execOp; simp only [ho, Sem.run_bind, pairs, hr, Result.andThen_ok]; rfl
theorem buildSlice {t : TypeId} {n : Nat} {l : List (Nat × Operand)} {v : Value} (ho : o.op = .buildSlice t n l.toArray) (hr : (Instr.buildSlice t n (l.map fun p => (p.1, ρ p.2)).toArray).run P w = .ok v w') : (execOp ρ o).run P w = .ok (.value v) w' := by
  unfold execOp; simp only [ho, Sem.run_bind, pairs, hr, Result.andThen_ok]; rfl
theorem box {t : TypeId} {x : Operand} {v : Value} (ho : o.op = .box t x) (hr : (Instr.box t (ρ x)).run P w = .ok v w') : (execOp ρ o).run P w = .ok (.value v) w' := by
  unfold execOp; simp only [ho, Sem.run_bind, hr, Result.andThen_ok]; rfl
theorem alloc {t : TypeId} {v : Value} (ho : o.op = .alloc t) (hr : (Instr.alloc t true (.tuple #[])).run P w = .ok v w') : (execOp ρ o).run P w = .ok (.value v) w' := by
  unfold execOp; simp only [ho, Sem.run_bind, hr, Result.andThen_ok]; rfl
theorem slice {t : TypeId} {x : Operand} {lo hi mx : Option Operand} {v : Value} (ho : o.op = .slice t x lo hi mx) (hr : (Instr.sliceAt t (ρ x) (lo.map ρ) (hi.map ρ) (mx.map ρ)).run P w = .ok v w') : (execOp ρ o).run P w = .ok (.value v) w' := by
  unfold execOp; simp only [ho, Sem.run_bind, hr, Result.andThen_ok]; rfl
theorem indexAddr {t : TypeId} {x i : Operand} {v : Value} (ho : o.op = .indexAddr t x i) (hr : (Instr.indexAt t (ρ x) (ρ i)).run P w = .ok v w') : (execOp ρ o).run P w = .ok (.value v) w' := by
  unfold execOp; simp only [ho, Sem.run_bind, hr, Result.andThen_ok]; rfl
theorem fieldAddr {t : TypeId} {x : Operand} {i : Nat} {v : Value} (ho : o.op = .fieldAddr t x i) (hr : (Instr.fieldAt t (ρ x) i).run P w = .ok v w') : (execOp ρ o).run P w = .ok (.value v) w' := by
  unfold execOp; simp only [ho, Sem.run_bind, hr, Result.andThen_ok]; rfl
theorem lookup {t : TypeId} {x i : Operand} {b : Bool} {v : Value} (ho : o.op = .lookup t x i b) (hr : (Instr.lookup t (ρ x) (ρ i) b).run P w = .ok v w') : (execOp ρ o).run P w = .ok (.value v) w' := by
  unfold execOp; simp only [ho, Sem.run_bind, hr, Result.andThen_ok]; rfl
theorem mapUpdate {t : TypeId} {m k x : Operand} (ho : o.op = .mapUpdate t m k x) (hr : (Instr.mapUpdate t (ρ m) (ρ k) (ρ x)).run P w = .ok () w') : (execOp ρ o).run P w = .ok .skip w' := by
  unfold execOp; simp only [ho, Sem.run_bind, hr, Result.andThen_ok]; rfl
theorem append {t : TypeId} {s x : Operand} {v : Value} (ho : o.op = .call { callee := .builtin .append, args := #[s, x], argTypes := #[t, t] }) (hr : (Builtin.append_ #[t, t] o.type #[ρ s, ρ x]).run P w = .ok v w') : (execOp ρ o).run P w = .ok (.value v) w' := by
  unfold execOp
  simp only [ho, resolve, invoke, builtin, Sem.run_bind, Sem.run_pure, Result.andThen_ok, List.map_toArray, List.map_cons, List.map_nil, hr]
/-- a cell of a type of one cell -/
theorem load1 {t : TypeId} {d : TypeDesc} (hu : P.underlying t = some d) (hd : d.isRow = false) {a : Addr} {v : Value} (hc : w.cell? a = some v) : (Instr.loadAt t (.pointer (some a))).run P w = .ok v w := by
  have hagg : (isAgg t).run P w = .ok false w := by
    unfold isAgg
    rw [Sem.run_bind, run_underlying hu w]
    cases d <;> simp_all
  simp [Instr.loadAt, Instr.sureAddr, loadVar, Sem.run_bind, hagg, Result.andThen_ok, Go.load, Sem.run, hc]
theorem store1 {t : TypeId} (hi : (P.info? t).map (·.size) = some 1) {a : Addr} {u v : Value} (hv : v.oneCell' = true) (hvc : v.cells = #[v]) (hc : w.cell? a = some u) (hf : w.frozen? a = false) :
    (Instr.storeAt t (.pointer (some a)) v).run P w = .ok () (w.setCell a v) := by
  have ha : a.add 0 = a := by unfold Addr.add; simp
  cases hq : P.info? t with
  | none => simp [hq] at hi
  | some i =>
    have hs : i.size = 1 := by simpa [hq] using hi
    simp [Instr.storeAt, Instr.sureAddr, storeVar, sizeOf, typeInfo, hq, hvc, hs, storeCells, ha, run_store P w a v _ hv, hc, hf, Result.andThen_ok]
theorem build1 {t : TypeId} {i0 : Nat} {x0 : Operand} {v : Value} (ho : o.op = .build t #[(i0, x0)]) (hr : (Instr.build t #[(i0, ρ x0)]).run P w = .ok v w') : (execOp ρ o).run P w = .ok (.value v) w' := build ho hr
theorem buildSlice1 {t n : Nat} {i0 : Nat} {x0 : Operand} {v : Value} (ho : o.op = .buildSlice t n #[(i0, x0)]) (hr : (Instr.buildSlice t n #[(i0, ρ x0)]).run P w = .ok v w') : (execOp ρ o).run P w = .ok (.value v) w' := buildSlice ho hr
theorem build2 {t : TypeId} {i0 i1 : Nat} {x0 x1 : Operand} {v : Value} (ho : o.op = .build t #[(i0, x0), (i1, x1)]) (hr : (Instr.build t #[(i0, ρ x0), (i1, ρ x1)]).run P w = .ok v w') : (execOp ρ o).run P w = .ok (.value v) w' := build ho hr
theorem buildSlice2 {t n : Nat} {i0 i1 : Nat} {x0 x1 : Operand} {v : Value} (ho : o.op = .buildSlice t n #[(i0, x0), (i1, x1)]) (hr : (Instr.buildSlice t n #[(i0, ρ x0), (i1, ρ x1)]).run P w = .ok v w') : (execOp ρ o).run P w = .ok (.value v) w' := buildSlice ho hr
theorem build3 {t : TypeId} {i0 i1 i2 : Nat} {x0 x1 x2 : Operand} {v : Value} (ho : o.op = .build t #[(i0, x0), (i1, x1), (i2, x2)]) (hr : (Instr.build t #[(i0, ρ x0), (i1, ρ x1), (i2, ρ x2)]).run P w = .ok v w') : (execOp ρ o).run P w = .ok (.value v) w' := build ho hr
theorem buildSlice3 {t n : Nat} {i0 i1 i2 : Nat} {x0 x1 x2 : Operand} {v : Value} (ho : o.op = .buildSlice t n #[(i0, x0), (i1, x1), (i2, x2)]) (hr : (Instr.buildSlice t n #[(i0, ρ x0), (i1, ρ x1), (i2, ρ x2)]).run P w = .ok v w') : (execOp ρ o).run P w = .ok (.value v) w' := buildSlice ho hr
theorem build4 {t : TypeId} {i0 i1 i2 i3 : Nat} {x0 x1 x2 x3 : Operand} {v : Value} (ho : o.op = .build t #[(i0, x0), (i1, x1), (i2, x2), (i3, x3)]) (hr : (Instr.build t #[(i0, ρ x0), (i1, ρ x1), (i2, ρ x2), (i3, ρ x3)]).run P w = .ok v w') : (execOp ρ o).run P w = .ok (.value v) w' := build ho hr
theorem buildSlice4 {t n : Nat} {i0 i1 i2 i3 : Nat} {x0 x1 x2 x3 : Operand} {v : Value} (ho : o.op = .buildSlice t n #[(i0, x0), (i1, x1), (i2, x2), (i3, x3)]) (hr : (Instr.buildSlice t n #[(i0, ρ x0), (i1, ρ x1), (i2, ρ x2), (i3, ρ x3)]).run P w = .ok v w') : (execOp ρ o).run P w = .ok (.value v) w' := buildSlice ho hr
theorem build5 {t : TypeId} {i0 i1 i2 i3 i4 : Nat} {x0 x1 x2 x3 x4 : Operand} {v : Value} (ho : o.op = .build t #[(i0, x0), (i1, x1), (i2, x2), (i3, x3), (i4, x4)]) (hr : (Instr.build t #[(i0, ρ x0), (i1, ρ x1), (i2, ρ x2), (i3, ρ x3), (i4, ρ x4)]).run P w = .ok v w') : (execOp ρ o).run P w = .ok (.value v) w' := build ho hr
theorem buildSlice5 {t n : Nat} {i0 i1 i2 i3 i4 : Nat} {x0 x1 x2 x3 x4 : Operand} {v : Value} (ho : o.op = .buildSlice t n #[(i0, x0), (i1, x1), (i2, x2), (i3, x3), (i4, x4)]) (hr : (Instr.buildSlice t n #[(i0, ρ x0), (i1, ρ x1), (i2, ρ x2), (i3, ρ x3), (i4, ρ x4)]).run P w = .ok v w') : (execOp ρ o).run P w = .ok (.value v) w' := buildSlice ho hr
theorem build6 {t : TypeId} {i0 i1 i2 i3 i4 i5 : Nat} {x0 x1 x2 x3 x4 x5 : Operand} {v : Value} (ho : o.op = .build t #[(i0, x0), (i1, x1), (i2, x2), (i3, x3), (i4, x4), (i5, x5)]) (hr : (Instr.build t #[(i0, ρ x0), (i1, ρ x1), (i2, ρ x2), (i3, ρ x3), (i4, ρ x4), (i5, ρ x5)]).run P w = .ok v w') : (execOp ρ o).run P w = .ok (.value v) w' := build ho hr
theorem buildSlice6 {t n : Nat} {i0 i1 i2 i3 i4 i5 : Nat} {x0 x1 x2 x3 x4 x5 : Operand} {v : Value} (ho : o.op = .buildSlice t n #[(i0, x0), (i1, x1), (i2, x2), (i3, x3), (i4, x4), (i5, x5)]) (hr : (Instr.buildSlice t n #[(i0, ρ x0), (i1, ρ x1), (i2, ρ x2), (i3, ρ x3), (i4, ρ x4), (i5, ρ x5)]).run P w = .ok v w') : (execOp ρ o).run P w = .ok (.value v) w' := buildSlice ho hr
theorem build7 {t : TypeId} {i0 i1 i2 i3 i4 i5 i6 : Nat} {x0 x1 x2 x3 x4 x5 x6 : Operand} {v : Value} (ho : o.op = .build t #[(i0, x0), (i1, x1), (i2, x2), (i3, x3), (i4, x4), (i5, x5), (i6, x6)]) (hr : (Instr.build t #[(i0, ρ x0), (i1, ρ x1), (i2, ρ x2), (i3, ρ x3), (i4, ρ x4), (i5, ρ x5), (i6, ρ x6)]).run P w = .ok v w') : (execOp ρ o).run P w = .ok (.value v) w' := build ho hr
theorem buildSlice7 {t n : Nat} {i0 i1 i2 i3 i4 i5 i6 : Nat} {x0 x1 x2 x3 x4 x5 x6 : Operand} {v : Value} (ho : o.op = .buildSlice t n #[(i0, x0), (i1, x1), (i2, x2), (i3, x3), (i4, x4), (i5, x5), (i6, x6)]) (hr : (Instr.buildSlice t n #[(i0, ρ x0), (i1, ρ x1), (i2, ρ x2), (i3, ρ x3), (i4, ρ x4), (i5, ρ x5), (i6, ρ x6)]).run P w = .ok v w') : (execOp ρ o).run P w = .ok (.value v) w' := buildSlice ho hr
theorem build8 {t : TypeId} {i0 i1 i2 i3 i4 i5 i6 i7 : Nat} {x0 x1 x2 x3 x4 x5 x6 x7 : Operand} {v : Value} (ho : o.op = .build t #[(i0, x0), (i1, x1), (i2, x2), (i3, x3), (i4, x4), (i5, x5), (i6, x6), (i7, x7)]) (hr : (Instr.build t #[(i0, ρ x0), (i1, ρ x1), (i2, ρ x2), (i3, ρ x3), (i4, ρ x4), (i5, ρ x5), (i6, ρ x6), (i7, ρ x7)]).run P w = .ok v w') : (execOp ρ o).run P w = .ok (.value v) w' := build ho hr
theorem buildSlice8 {t n : Nat} {i0 i1 i2 i3 i4 i5 i6 i7 : Nat} {x0 x1 x2 x3 x4 x5 x6 x7 : Operand} {v : Value} (ho : o.op = .buildSlice t n #[(i0, x0), (i1, x1), (i2, x2), (i3, x3), (i4, x4), (i5, x5), (i6, x6), (i7, x7)]) (hr : (Instr.buildSlice t n #[(i0, ρ x0), (i1, ρ x1), (i2, ρ x2), (i3, ρ x3), (i4, ρ x4), (i5, ρ x5), (i6, ρ x6), (i7, ρ x7)]).run P w = .ok v w') : (execOp ρ o).run P w = .ok (.value v) w' := buildSlice ho hr
theorem binAgg {op : BinOp} {t t' : TypeId} {x y : Operand} {xs ys : Array Value} {v : Value} (ho : o.op = .binOp op t x y t') (hx : ρ x = .agg xs) (hy : ρ y = .agg ys) (hm : P.eqGuardType P.depth t = false) (hr : (binOp op t (.agg xs) (.agg ys)).run P w = .ok v w') :
    (execOp ρ o).run P w = .ok (.value v) w' := by
  unfold execOp
  simp only [ho, hx, hy, Sem.run_bind, run_eqGuard_agg w op t x y xs ys hm, hr, Result.andThen_ok]; rfl
theorem elem_of {t e : TypeId} (hu : P.underlying t = some (.slice e)) : P.elem t = e := by unfold Program.elem; rw [hu]
theorem index_sl {t e : TypeId} {i : TypeInfo} {sz : Nat} (hu : P.underlying t = some (.slice e)) (hi : P.info? e = some i) (hz : i.size = sz) (w : World) (g o n c j : Nat) (k : IntKind) (h : j < n) :
    (Instr.indexAt t (.slice (some ⟨g, o, none⟩) n c) (.int k j)).run P w = .ok (.pointer (some ⟨g, o + j * sz, none⟩)) w := by
  have hs : (sizeOf e).run P w = .ok sz w := by simp [sizeOf, typeInfo, hi, hz]
  have he := elem_of hu
  rw [run_indexAt_slice (h := by rw [he]; exact hu), if_pos (by omega), he, hs]
  simp [Result.andThen, Addr.add_mid]
theorem slice_l {t e : TypeId} {i : TypeInfo} {sz : Nat} (hu : P.underlying t = some (.slice e)) (hi : P.info? e = some i) (hz : i.size = sz) (w : World) (a : Option Addr) (l n c : Nat) (k : IntKind) (h : l ≤ n) :
    (Instr.sliceAt t (.slice a n c) (some (.int k l)) none none).run P w = .ok (Go.sliced a l n c sz) w := by
  have hs : (sizeOf e).run P w = .ok sz w := by simp [sizeOf, typeInfo, hi, hz]
  have he := elem_of hu
  have hu' : P.underlying t = some (.slice (P.elem t)) := by rw [he]; exact hu
  rw [run_sliceAt_slice w t _ _ _ _ hu', run_slice_l w t a n c hu' k (l : Int) (by omega) (by omega), he, hs]
  simp [Result.andThen]
theorem slice_h {t e : TypeId} {i : TypeInfo} {sz : Nat} (hu : P.underlying t = some (.slice e)) (hi : P.info? e = some i) (hz : i.size = sz) (w : World) (a : Option Addr) (l n c : Nat) (k : IntKind) (h : l ≤ c) :
    (Instr.sliceAt t (.slice a n c) none (some (.int k l)) none).run P w = .ok (Go.sliced a 0 l c sz) w := by
  have hs : (sizeOf e).run P w = .ok sz w := by simp [sizeOf, typeInfo, hi, hz]
  have he := elem_of hu
  have hu' : P.underlying t = some (.slice (P.elem t)) := by rw [he]; exact hu
  rw [run_sliceAt_slice w t _ _ _ _ hu', run_slice_h w t a n c hu' k (l : Int) (by omega) (by omega), he, hs]
  simp [Result.andThen]
theorem guard_int (op : BinOp) (t : TypeId) (x y : Operand) (k k' : IntKind) (a b : Int) : (eqGuard op t x y (.int k a) (.int k' b)).run P w = .ok () w := by cases op <;> rfl
theorem bin_int {op : BinOp} {t t' : TypeId} {x y : Operand} {k : IntKind} {a b : Int} {v : Value} (ho : o.op = .binOp op t x y t') (hx : ρ x = .int k a) (hy : ρ y = .int k b) (hr : (binOp op t (.int k a) (.int k b)).run P w = .ok v w) :
    (execOp ρ o).run P w = .ok (.value v) w := by
  unfold execOp
  simp only [ho, hx, hy, Sem.run_bind, guard_int, hr, Result.andThen_ok]; rfl
theorem add_int {t t' : TypeId} {x y : Operand} {k : IntKind} {a b c : Int} (ho : o.op = .binOp .add t x y t') (hx : ρ x = .int k a) (hy : ρ y = .int k b) (hc : k.wrap (a + b) = c) : (execOp ρ o).run P w = .ok (.value (.int k c)) w :=
  bin_int ho hx hy (by subst hc; simp [binOp, Op.intArith])
theorem sub_int {t t' : TypeId} {x y : Operand} {k : IntKind} {a b c : Int} (ho : o.op = .binOp .sub t x y t') (hx : ρ x = .int k a) (hy : ρ y = .int k b) (hc : k.wrap (a - b) = c) : (execOp ρ o).run P w = .ok (.value (.int k c)) w :=
  bin_int ho hx hy (by subst hc; simp [binOp, Op.intArith])
theorem lss_int {t t' : TypeId} {x y : Operand} {k : IntKind} {a b : Int} {c : Bool} (ho : o.op = .binOp .lss t x y t') (hx : ρ x = .int k a) (hy : ρ y = .int k b) (hc : decide (a < b) = c) : (execOp ρ o).run P w = .ok (.value (.bool c)) w :=
  bin_int ho hx hy (by subst hc; simp [binOp, Op.intCmp])
theorem gtr_int {t t' : TypeId} {x y : Operand} {k : IntKind} {a b : Int} {c : Bool} (ho : o.op = .binOp .gtr t x y t') (hx : ρ x = .int k a) (hy : ρ y = .int k b) (hc : decide (b < a) = c) : (execOp ρ o).run P w = .ok (.value (.bool c)) w :=
  bin_int ho hx hy (by subst hc; simp [binOp, Op.intCmp])
end Go.Ex
