import Derived.Test.YtlpfeikoniepiaaRRMirTabA
import Derived.Test.YtlpfeikoniepiaaRRMirSim
import Derived.KernelRfl
set_option linter.all false
namespace Go.Mir.A
attribute [local congr] bind_head
attribute [local simp] exec stepOps stepOp wantedD evalOp MArg.ev MArg.evs Env.get Env.put Env.keep putD gc Dat.strip Dat.strip1 MArg.take binD intBin loadD ofCells bindArgs leave resD packD Dat.noTup encPs encP encB encS encR Dat.cells? Dat.safe St.get St.set Dat.underL Dat.underLL Dat.under
set_option linter.unusedSimpArgs false
set_option maxHeartbeats 400000

theorem t32 (b : Batch) : run tab 32 [.agg (encB b)] [] = some (.int .i64 (IntKind.wrap .i64 (b.seq + b.recs.length)), []) := by
  rw [run_eq, tab_32]
  simp [m32, x32_0, q32_0_0, x32_1, q32_1_0, q32_1_1]
theorem t36 (b : Batch) : run tab 36 [.agg (encB b)] [] = some (.int .i64 (IntKind.wrap .i64 (b.seq + b.recs.length)), []) := by
  rw [run_eq, tab_36]
  simp [m36, x36_0, q36_0_0, x36_1, q36_1_0, q36_1_1]
theorem t58 (a b c : Int) : run tab 58 [.int .i64 a, .int .i64 b, .int .i64 c] [] = some (.bool (decide (b ≤ a) && decide (a ≤ c)), []) := by
  rw [run_eq, tab_58]
  by_cases h : b ≤ a <;> simp [m58, x58_0, q58_0_0, x58_1, q58_1_0, q58_1_1, h]
theorem t81 (a b c : Int) : run tab 81 [.int .i64 a, .int .i64 b, .int .i64 c] [] = some (.bool (decide (b ≤ a) && decide (a ≤ c)), []) := by
  rw [run_eq, tab_81]
  by_cases h : b ≤ a <;> simp [m81, x81_0, q81_0_0, x81_1, q81_1_0, q81_1_1, h]
theorem t80 (a b : Int) : run tab 80 [.int .i64 a, .int .i64 b] [] = some (.bool (decide (1 ≤ a) && decide (a ≤ 8) && decide (0 ≤ b) && decide (b ≤ 100)), []) := by
  rw [run_eq, tab_80]
  by_cases h : 1 ≤ a <;> by_cases h2 : a ≤ 8 <;> by_cases h3 : 0 ≤ b <;> simp [m80, x80_0, q80_0_0, x80_1, q80_1_0, q80_1_1, q80_1_2, h, h2, h3]
theorem t57 (a b : Int) : run tab 57 [.int .i64 a, .int .i64 b] [] = some (.bool (decide (1 ≤ a) && decide (a ≤ 8) && decide (0 ≤ b) && decide (b ≤ 100)), []) := by
  rw [run_eq, tab_57]
  by_cases h : 1 ≤ a <;> by_cases h2 : a ≤ 8 <;> simp [m57, x57_0, q57_0_0, x57_1, q57_1_0, q57_1_1, h, h2, callD, esc_58, t58, Dat.norm]
theorem t11 : run tab 11 [] [] = some (.bool true, []) := run_of_runF (k := 60) (by kernel_rfl)
theorem t43 (p : Prod) (pid : Int) (id : Nat) (σ : St) (h : St.get σ id = some [.int .i64 pid]) (hid : id < σ.length) : run tab 43 [.agg (encP p), .ptr id 0] σ = some (.bool (decide (p.pid = pid)), σ) := by
  rw [run_eq, tab_43]
  simp [m43, x43_0, q43_0_0, x43_1, q43_1_0, h, hid, gc_self, show id ≠ σ.length by omega, show (id == σ.length) = false by simp; omega]
theorem t68 (p : Prod) (pid : Int) (id : Nat) (σ : St) (h : St.get σ id = some [.int .i64 pid]) (hid : id < σ.length) : run tab 68 [.agg (encP p), .ptr id 0] σ = some (.bool (decide (pid ≤ p.pid)), σ) := by
  rw [run_eq, tab_68]
  simp [m68, x68_0, q68_0_0, x68_1, q68_1_0, h, hid, gc_self, show id ≠ σ.length by omega, show (id == σ.length) = false by simp; omega]
theorem t40 (s : Seen) (b : Batch) (id : Nat) (σ : St) (h : St.get σ id = some (encB b)) (hid : id < σ.length) : run tab 40 [.agg (encS s), .ptr id 0] σ = some (.bool (decide (s.seq = b.seq) && decide (s.count = b.recs.length)), σ) := by
  simp at h
  rw [run_eq, tab_40]
  by_cases h2 : s.seq = b.seq <;>
  simp [m40, x40_0, q40_0_0, x40_1, q40_1_0, q40_1_1, q40_1_2, h, h2, hid, gc_self, show id ≠ σ.length by omega, show (id == σ.length) = false by simp; omega]
end Go.Mir.A
