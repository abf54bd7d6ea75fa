/- InlineTurns: the three statements that write the new log's elements, walked by hand; the whole call. -/
import Derived.Test.YtlpfeikoniepiaaRRK7
import Derived.Test.YtlpfeikoniepiaaRROkA
set_option linter.all false
namespace Go.Mir.A
open Go.Proofs
set_option linter.unusedVariables false
set_option linter.unusedSectionVars false
set_option linter.unusedSimpArgs false
set_option maxRecDepth 100000

def hdC : Code → Code
  | .seq a _ => a
  | c => c
def tlC : Code → Code
  | .seq _ b => b
  | c => c
def opsC : Code → Array Oper
  | .region _ ops _ => ops
  | _ => #[]
noncomputable def b7 (i : Nat) : Code := Nat.rec (Try.f7.body.getD .skip) (fun _ c => tlC c) i
noncomputable def c7 : List Code := [hdC (b7 0), hdC (b7 1), hdC (b7 2), hdC (b7 3), hdC (b7 4), hdC (b7 5), hdC (b7 6)]
noncomputable def o10 : Array Oper := opsC (hdC (b7 7))
noncomputable def o11 : Array Oper := opsC (hdC (b7 8))
noncomputable def o12 : Array Oper := opsC (hdC (b7 9))
theorem body7 : Try.f7.body = some (c7.foldr Code.seq (.seq (.region 10 o10 false) (.seq (.region 11 o11 false) (.seq (.region 12 o12 false) (b7 10))))) := by kernel_rfl
theorem ntmps7 : Try.f7.ntmps = 112 := by kernel_rfl
theorem res7 : Try.f7.results.toList.mapM (resOf Try.prog) = some m7.res := by kernel_rfl
theorem name7 : (Try.f7.name == "runtime.NumGoroutine") = false := by kernel_rfl

theorem code_ok {c : Code} {m : MCode} (h1 : (codeOf Try.prog 112 c).map MCode.bare = some m.bare) (h2 : drawsOk c m = true) : ∃ m0, codeOf Try.prog 112 c = some m0 ∧ m.bare = m0.bare ∧ drawsOk c m = true := by
  obtain ⟨m0, k1, k2⟩ := Option.map_eq_some_iff.1 h1
  exact ⟨m0, k1, k2.symm, h2⟩
theorem codes7 : CodesOk Try.prog 112 c7 ms7 := by
  refine ⟨rfl, fun i c m hc hm => ?_⟩
  match i, hc, hm with
  | 0, hc, hm => injection hc with hc; injection hm with hm; subst hc hm; exact code_ok (by kernel_rfl) (by kernel_rfl)
  | 1, hc, hm => injection hc with hc; injection hm with hm; subst hc hm; exact code_ok (by kernel_rfl) (by kernel_rfl)
  | 2, hc, hm => injection hc with hc; injection hm with hm; subst hc hm; exact code_ok (by kernel_rfl) (by kernel_rfl)
  | 3, hc, hm => injection hc with hc; injection hm with hm; subst hc hm; exact code_ok (by kernel_rfl) (by kernel_rfl)
  | 4, hc, hm => injection hc with hc; injection hm with hm; subst hc hm; exact code_ok (by kernel_rfl) (by kernel_rfl)
  | 5, hc, hm => injection hc with hc; injection hm with hm; subst hc hm; exact code_ok (by kernel_rfl) (by kernel_rfl)
  | 6, hc, hm => injection hc with hc; injection hm with hm; subst hc hm; exact code_ok (by kernel_rfl) (by kernel_rfl)
  | i + 7, hc, hm => simp [c7] at hc
theorem codeR : ∃ m0, codeOf Try.prog 112 (b7 10) = some m0 ∧ rest7.bare = m0.bare ∧ drawsOk (b7 10) rest7 = true := code_ok (by kernel_rfl) (by kernel_rfl)

theorem sz10 : o10.size = 4 := by kernel_rfl
theorem sz11 : o11.size = 5 := by kernel_rfl
theorem sz12 : o12.size = 6 := by kernel_rfl
theorem p10_0 : opIs o10 0 (some 85) (.buildSlice 48 0 #[]) := opIs_of (by kernel_rfl)
theorem p10_1 : opIs o10 1 (some 86) (.move (.tmp 0)) := opIs_of (by kernel_rfl)
theorem p10_2 : opIs o10 2 (some 87) (.call { callee := .builtin .append, args := #[.tmp 85, .tmp 86], argTypes := #[48, 48] }) := opIs_of (by kernel_rfl)
theorem p10_3 : opIs o10 3 (some 10) (.assign (.tmp 87)) := opIs_of (by kernel_rfl)
theorem p11_0 : opIs o11 0 (some 88) (.move (.tmp 10)) := opIs_of (by kernel_rfl)
theorem p11_1 : opIs o11 1 (some 89) (.move (.tmp 5)) := opIs_of (by kernel_rfl)
theorem p11_2 : opIs o11 2 (some 90) (.load 60 (.tmp 7)) := opIs_of (by kernel_rfl)
theorem p11_3 : opIs o11 3 (some 91) (.indexAddr 48 (.tmp 88) (.tmp 89)) := opIs_of (by kernel_rfl)
theorem p11_4 : opIs o11 4 none (.store 60 (.tmp 91) (.tmp 90)) := opIs_of (by kernel_rfl)
theorem p12_0 : opIs o12 0 (some 92) (.move (.tmp 10)) := opIs_of (by kernel_rfl)
theorem p12_1 : opIs o12 1 (some 93) (.move (.tmp 5)) := opIs_of (by kernel_rfl)
theorem p12_3 : opIs o12 3 (some 95) (.load 60 (.tmp 6)) := opIs_of (by kernel_rfl)
theorem p12_4 : opIs o12 4 (some 96) (.indexAddr 48 (.tmp 92) (.tmp 94)) := opIs_of (by kernel_rfl)
theorem p12_5 : opIs o12 5 none (.store 60 (.tmp 96) (.tmp 95)) := opIs_of (by kernel_rfl)
theorem u48 : Try.prog.underlying 48 = some (.slice 60) := by kernel_rfl
theorem s60 : sizeP Try.prog 60 = some 18 := by kernel_rfl
theorem a60 : aggP Try.prog 60 = some true := by kernel_rfl
theorem z60 : zeroSize Try.prog 60 = some 18 := by kernel_rfl
theorem y60 : (Try.prog.info? 60).map (·.bytes) = some 192 := by kernel_rfl
theorem p12_2 : opIs o12 2 (some 94) (.binOp .add 3 (.tmp 93) (.const (.int .i64 1)) 3) := opIs_of (by kernel_rfl)

section
variable {P : Program} {a : Act} {w w' : World} {o : Oper}
theorem ex_move {x : Operand} (ho : o.op = .move x) : (execOp a.eval o).run P w = .ok (.value (a.eval x)) w := by simp [execOp, ho]
theorem ex_assign {x : Operand} (ho : o.op = .assign x) : (execOp a.eval o).run P w = .ok (.value (a.eval x)) w := by simp [execOp, ho]
theorem ex_load {t : TypeId} {x : Operand} {u : Value} (ho : o.op = .load t x) (h : (Instr.loadAt t (a.eval x)).run P w = .ok u w') : (execOp a.eval o).run P w = .ok (.value u) w' := by simp [execOp, ho, h]
theorem ex_index {t : TypeId} {x i : Operand} {u : Value} (ho : o.op = .indexAddr t x i) (h : (Instr.indexAt t (a.eval x) (a.eval i)).run P w = .ok u w') : (execOp a.eval o).run P w = .ok (.value u) w' := by simp [execOp, ho, h]
theorem ex_store {t : TypeId} {x y : Operand} (ho : o.op = .store t x y) (h : (Instr.storeAt t (a.eval x) (a.eval y)).run P w = .ok () w') : (execOp a.eval o).run P w = .ok .skip w' := by simp [execOp, ho, h]
theorem ex_append {t u : TypeId} {x y : Operand} {v : Value} (ho : o.op = .call { callee := .builtin .append, args := #[x, y], argTypes := #[t, u] }) (h : (Builtin.append_ #[t, u] o.type #[a.eval x, a.eval y]).run P w = .ok v w') : (execOp a.eval o).run P w = .ok (.value v) w' := by
  simp [execOp, ho, resolve, invoke, builtin, h, Result.andThen]
theorem ex_build0 {t el : TypeId} {inf : TypeInfo} (ht : P.underlying t = some (.slice el)) (hi : P.info? el = some inf) (ho : o.op = .buildSlice t 0 #[]) : (execOp a.eval o).run P w = .ok (.value (.slice (some ⟨w.heap.size, 0, none⟩) 0 0)) (w.alloc (.cells #[] el)) := by
  simp [execOp, ho, Instr.buildSlice, run_underlying ht, sizeOf, typeInfo, hi, newRow, Instr.fill]
  have hz0 : (Array.map (fun _ => (default : Value)) (Array.range 0)) = #[] := Array.eq_empty_of_size_eq_zero (by simp)
  rw [hz0]
theorem ex_add {t u : TypeId} {x : Operand} {m n : Int} (ho : o.op = .binOp .add t x (.const (.int .i64 n)) u) (hx : a.eval x = .int .i64 m) : (execOp a.eval o).run P w = .ok (.value (.int .i64 (IntKind.wrap .i64 (m + n)))) w := by
  obtain ⟨h, -⟩ := run_int (P := P) (w := w) (t := t) (x := x) (y := .const (.int .i64 n)) (k := .i64) (k' := .i64) (m := m) (n := n) (op := .add) (d := .int .i64 (IntKind.wrap .i64 (m + n))) rfl
  have h' : Sem.run P (do eqGuard BinOp.add t x (Operand.const (Value.int IntKind.i64 n)) (a.eval x) (a.eval (Operand.const (Value.int IntKind.i64 n))); binOp BinOp.add t (a.eval x) (a.eval (Operand.const (Value.int IntKind.i64 n)))) w = .ok (.int .i64 (IntKind.wrap .i64 (m + n))) w := by rw [hx]; exact h
  simp only [execOp, ho]
  simp only [Sem.run_bind] at h' ⊢
  rw [h']
  rfl
end
end Go.Mir.A
