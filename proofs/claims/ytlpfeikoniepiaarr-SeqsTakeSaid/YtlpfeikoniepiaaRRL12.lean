import Derived.Test.YtlpfeikoniepiaaRRL11
set_option linter.all false
namespace Go.Mir.A
attribute [local congr] bind_head
attribute [local simp] exec stepOps stepOp wantedD evalOp MArg.ev MArg.evs Env.get Env.put Env.keep putD gc Dat.strip Dat.strip1 MArg.take binD intBin loadD ofCells bindArgs leave resD packD Dat.noTup encPs encP encB encS encR Dat.cells? Dat.safe St.get St.set Dat.underL Dat.underLL Dat.under Dat.norm callD under_encP under_encS under_encR gc_self fillD
set_option linter.unusedSimpArgs false
set_option linter.unusedVariables false
set_option maxHeartbeats 1000000


theorem t53 (l : List Prod) (pid : Int) (hl : l.length ≤ 9223372036854775807) : run tab 53 [encPs l, .int .i64 pid] [] = some (.tup [.int .i64 (place l pid : Nat), .bool (there l pid)], []) := by
  have h42 := t42 l 68 0 pid (fun p => decide (pid ≤ p.pid)) [[.int .i64 pid]] hl (fun p σ' h hid => t68 p pid 0 σ' h hid) (by simp)
  simp at h42
  rw [run_eq, tab_53]
  by_cases h : l.findIdx (fun p => decide (pid ≤ p.pid)) < l.length
  · simp [m53, x53_0, q53_0_0, x53_1, q53_1_0, x53_2, q53_2_0, q53_2_1, q53_2_2, h42, esc_42, place, there, h]
    exact decide_eq_decide.2 Iff.rfl
  · simp [m53, x53_0, q53_0_0, x53_1, q53_1_0, x53_2, q53_2_0, q53_2_1, q53_2_2, h42, esc_42, place, there, h]
end Go.Mir.A
