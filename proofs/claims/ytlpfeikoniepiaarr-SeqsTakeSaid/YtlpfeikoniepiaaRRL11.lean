import Derived.Test.YtlpfeikoniepiaaRRL9
set_option linter.all false
namespace Go.Mir.A
attribute [local congr] bind_head
attribute [local simp] exec stepOps stepOp wantedD evalOp MArg.ev MArg.evs Env.get Env.put Env.keep putD gc Dat.strip Dat.strip1 MArg.take binD intBin loadD ofCells bindArgs leave resD packD Dat.noTup encPs encP encB encS encR Dat.cells? Dat.safe St.get St.set Dat.underL Dat.underLL Dat.under Dat.norm callD under_encP under_encS under_encR gc_self fillD
set_option linter.unusedSimpArgs false
set_option linter.unusedVariables false
set_option maxHeartbeats 1000000


def e55 (l : List Prod) (pid : Int) (i : Nat) : Env := [(0, encPs l), (1, .int .i64 pid), (6, .int .i64 i)]
theorem body55 (l : List Prod) (pid : Int) (hl : l.length ≤ 9223372036854775807) (i : Nat) : exec (run tab) tab.esc loopW 0 l55_0 (e55 l pid i) [] = if h : i < l.length then (if (l[i]'h).pid < pid then some (Ex.normal, e55 l pid (i + 1), []) else some (Ex.exit 0, [(0, encPs l), (1, .int .i64 pid), (6, .int .i64 i), (19, Dat.bool false)], [])) else
      some (Ex.exit 0, [(0, encPs l), (1, .int .i64 pid), (6, .int .i64 i), (19, Dat.bool false)], []) := by
  by_cases h1 : i < l.length
  · have hw : IntKind.wrap .i64 ((i : Int) + 1) = i + 1 := wrap64 (by omega) (by omega)
    by_cases h2 : (l[i]).pid < pid <;>
    simp [l55_0, x55_2, q55_2_0, q55_2_1, q55_2_2, x55_3, q55_3_0, e55, h1, h2, hw]
  · simp [l55_0, x55_2, q55_2_0, q55_2_1, q55_2_2, x55_3, q55_3_0, e55, h1]

def place (l : List Prod) (pid : Int) : Nat := l.findIdx fun p => decide (pid ≤ p.pid)
def there (l : List Prod) (pid : Int) : Bool := if h : place l pid < l.length then decide ((l[place l pid]).pid = pid) else false
theorem t55 (l : List Prod) (pid : Int) (hl : l.length ≤ 9223372036854775807) : run tab 55 [encPs l, .int .i64 pid] [] = some (.tup [.int .i64 (place l pid : Nat), .bool (there l pid)], []) := by
  obtain ⟨o, k1, k2, k3⟩ := loop_rounds (b := exec (run tab) tab.esc loopW 0 l55_0) (E := e55 l pid) (σ := []) l.length
    (fun i o => o = (Ex.exit 0, [(0, encPs l), (1, .int .i64 pid), (6, .int .i64 (i + (l.drop i).findIdx fun p => decide (pid ≤ p.pid) : Nat)), (19, Dat.bool false)], []))
    ⟨_, by rw [body55 l pid hl, dif_neg (by omega)], by simp, by simp⟩ (fun i hi => by
      rw [body55 l pid hl, dif_pos hi]
      have hd : l.drop i = l[i] :: l.drop (i + 1) := List.drop_eq_getElem_cons hi
      by_cases h2 : (l[i]).pid < pid
      · refine .inl ⟨if_pos h2, fun o ho => ?_⟩
        have h0 : i + (l.drop i).findIdx (fun p => decide (pid ≤ p.pid)) = i + 1 + (l.drop (i + 1)).findIdx (fun p => decide (pid ≤ p.pid)) := by
          rw [hd, List.findIdx_cons]
          simp [show ¬ pid ≤ (l[i]).pid by omega]
          omega
        simp only [h0]
        exact ho
      · refine .inr ⟨_, if_neg h2, by simp, ?_⟩
        have h0 : (l.drop i).findIdx (fun p => decide (pid ≤ p.pid)) = 0 := by rw [hd, List.findIdx_cons]; simp [show pid ≤ (l[i]).pid by omega]
        simp only [h0, Nat.add_zero])
  simp only [List.drop_zero, Nat.zero_add] at k3
  subst k3
  simp [e55] at k1
  rw [run_eq, tab_55]
  by_cases h : l.findIdx (fun p => decide (pid ≤ p.pid)) < l.length
  · simp [m55, x55_0, q55_0_0, x55_1, q55_1_0, x55_4, q55_4_0, q55_4_1, q55_4_2, k1, place, there, h]
    exact decide_eq_decide.2 Iff.rfl
  · simp [m55, x55_0, q55_0_0, x55_1, q55_1_0, x55_4, q55_4_0, q55_4_1, q55_4_2, k1, place, there, h]
end Go.Mir.A
