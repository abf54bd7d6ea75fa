import Derived.Test.YtlpfeikoniepiaaRRL3
set_option linter.all false
namespace Go.Mir.A
attribute [local congr] bind_head
attribute [local simp] exec stepOps stepOp wantedD evalOp MArg.ev MArg.evs Env.get Env.put Env.keep putD gc Dat.strip Dat.strip1 MArg.take binD intBin loadD ofCells bindArgs leave resD packD Dat.noTup encPs encP encB encS encR Dat.cells? Dat.safe St.get St.set Dat.underL Dat.underLL Dat.under Dat.norm callD under_encP under_encS under_encR gc_self fillD
set_option linter.unusedSimpArgs false
set_option linter.unusedVariables false
set_option maxHeartbeats 400000

def zeroP : Prod := ⟨0, 0, 0, []⟩
def findP (l : List Prod) (pid : Int) : Prod × Bool := if h : l.findIdx (fun p => decide (p.pid = pid)) < l.length then (l[l.findIdx (fun p => decide (p.pid = pid))], true) else (zeroP, false)

theorem t20 (l : List Prod) (pid : Int) (hl : l.length ≤ 9223372036854775807) : run tab 20 [encPs l, .int .i64 pid] [] = some (.tup [.agg (encP (findP l pid).1), .bool (findP l pid).2], []) := by
  have h42 := t42 l 43 0 pid (fun p => decide (p.pid = pid)) [[.int .i64 0, .int .i64 0, .int .i64 0, .slice true []], [.int .i64 pid]] hl (fun p σ' h hid => t43 p pid 0 σ' h hid) (by simp)
  simp at h42
  have hle : l.findIdx (fun p => decide (p.pid = pid)) ≤ l.length := List.findIdx_le_length
  rw [run_eq, tab_20]
  by_cases h : l.findIdx (fun p => decide (p.pid = pid)) < l.length
  · have h' : ¬ ((l.findIdx (fun p => decide (p.pid = pid)) : Int) = l.length) := by omega
    have h'' : ¬ (l.findIdx (fun p => decide (p.pid = pid)) = l.length) := by omega
    simp [m20, x20_0, q20_0_0, x20_1, q20_1_0, x20_2, q20_2_0, x20_3, q20_3_0, x20_4, q20_4_0, h42, esc_42, findP, h, h', h'']
  · have h' : ((l.findIdx (fun p => decide (p.pid = pid)) : Int) = l.length) := by omega
    have h'' : (l.findIdx (fun p => decide (p.pid = pid)) = l.length) := by omega
    simp [m20, x20_0, q20_0_0, x20_1, q20_1_0, x20_2, q20_2_0, x20_3, q20_3_0, x20_4, q20_4_0, h42, esc_42, findP, h, h', h'', zeroP]

def e35 (l : List Prod) (pid : Int) (i : Nat) : Env := [(0, encPs l), (1, .int .i64 pid), (4, .ptr 0 0), (6, .int .i64 i)]
def z35 : St := [[.int .i64 0, .int .i64 0, .int .i64 0, .slice true []]]
theorem body35 (l : List Prod) (pid : Int) (hl : l.length ≤ 9223372036854775807) (i : Nat) : exec (run tab) tab.esc loopW 0 l35_0 (e35 l pid i) z35 = if h : i < l.length then (if (l[i]'h).pid = pid then some (Ex.ret, [(4, Dat.ptr 0 0), (5, Dat.bool true)], [encP (l[i]'h)]) else some (Ex.normal, e35 l pid (i + 1), z35)) else
      some (Ex.exit 0, [(0, encPs l), (1, .int .i64 pid), (4, .ptr 0 0), (6, .int .i64 i), (10, Dat.bool false)], z35) := by
  by_cases h1 : i < l.length
  · have hw : IntKind.wrap .i64 ((i : Int) + 1) = i + 1 := wrap64 (by omega) (by omega)
    by_cases h2 : (l[i]).pid = pid <;>
    simp [l35_0, x35_2, q35_2_0, x35_3, q35_3_0, x35_4, q35_4_0, q35_4_1, x35_5, q35_5_0, e35, z35, h1, h2, hw]
  · simp [l35_0, x35_2, q35_2_0, x35_3, q35_3_0, x35_4, q35_4_0, q35_4_1, x35_5, q35_5_0, e35, z35, h1]
theorem t35 (l : List Prod) (pid : Int) (hl : l.length ≤ 9223372036854775807) : run tab 35 [encPs l, .int .i64 pid] [] = some (.tup [.agg (encP (findP l pid).1), .bool (findP l pid).2], []) := by
  obtain ⟨o, h1, h2, h3⟩ := loop_rounds (b := exec (run tab) tab.esc loopW 0 l35_0) (E := e35 l pid) (σ := z35) l.length
    (fun i o => (∃ h : i + (l.drop i).findIdx (fun p => decide (p.pid = pid)) < l.length, o = (Ex.ret, [(4, Dat.ptr 0 0), (5, Dat.bool true)], [encP (l[i + (l.drop i).findIdx (fun p => decide (p.pid = pid))])])) ∨ (i + (l.drop i).findIdx (fun p => decide (p.pid = pid)) = l.length ∧ o = (Ex.exit 0, [(0, encPs l), (1, .int .i64 pid), (4, .ptr 0 0), (6, .int .i64 l.length), (10, Dat.bool false)], z35)))
    ⟨_, by rw [body35 l pid hl, dif_neg (by omega)], by simp, .inr ⟨by simp, rfl⟩⟩ (fun i hi => by
      rw [body35 l pid hl, dif_pos hi]
      have hd : l.drop i = l[i] :: l.drop (i + 1) := List.drop_eq_getElem_cons hi
      by_cases hqi : (l[i]).pid = pid
      · refine .inr ⟨_, if_pos hqi, by simp, .inl ?_⟩
        have h0 : (l.drop i).findIdx (fun p => decide (p.pid = pid)) = 0 := by rw [hd, List.findIdx_cons]; simp [hqi]
        simp only [h0, Nat.add_zero]
        exact ⟨hi, trivial⟩
      · refine .inl ⟨by simp [hqi], fun o ho => ?_⟩
        have h0 : i + (l.drop i).findIdx (fun p => decide (p.pid = pid)) = i + 1 + (l.drop (i + 1)).findIdx (fun p => decide (p.pid = pid)) := by rw [hd, List.findIdx_cons]; simp [hqi]; omega
        simp only [h0]
        exact ho)
  simp only [List.drop_zero, Nat.zero_add] at h3
  simp [e35, z35] at h1
  rw [run_eq, tab_35]
  rcases h3 with ⟨h3, rfl⟩ | ⟨h3, rfl⟩
  · simp [m35, x35_0, q35_0_0, x35_1, q35_1_0, x35_6, q35_6_0, h1, findP, h3]
  · simp [m35, x35_0, q35_0_0, x35_1, q35_1_0, x35_6, q35_6_0, h1, findP, h3, z35, zeroP]
end Go.Mir.A
