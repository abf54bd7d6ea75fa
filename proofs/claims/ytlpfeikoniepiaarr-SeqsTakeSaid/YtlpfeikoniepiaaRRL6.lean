import Derived.Test.YtlpfeikoniepiaaRRL5
set_option linter.all false
namespace Go.Mir.A
attribute [local congr] bind_head
attribute [local simp] exec stepOps stepOp wantedD evalOp MArg.ev MArg.evs Env.get Env.put Env.keep putD gc Dat.strip Dat.strip1 MArg.take binD intBin loadD ofCells bindArgs leave resD packD Dat.noTup encPs encP encB encS encR Dat.cells? Dat.safe St.get St.set Dat.underL Dat.underLL Dat.under Dat.norm callD under_encP under_encS under_encR gc_self fillD
set_option linter.unusedSimpArgs false
set_option linter.unusedVariables false
set_option maxHeartbeats 1000000


def okAll : List Seen → Int → Int → Bool
  | [], least, next => decide (least ≤ next)
  | s :: r, least, next => okS least next s && okAll r (s.seq + s.count) next
def knownP (p : Prod) : Bool := (decide (1 ≤ p.pid) && decide (p.pid ≤ 8) && decide (0 ≤ p.epoch) && decide (p.epoch ≤ 100)) && (decide (0 ≤ p.next) && decide (p.next ≤ 1048576)) && decide (p.seen.length ≤ 3) && okAll p.seen 0 p.next

theorem loop41 (p : Prod) (hn : p.next ≤ 1048576) (hl : p.seen.length ≤ 3) : ∃ o, loopW (exec (run tab) tab.esc loopW 0 l41_0) (e41 p 0) [encP p] = some o ∧ o.1 ≠ .normal ∧
    ((o = (Ex.ret, [(2, Dat.bool false)], []) ∧ okAll p.seen 0 p.next = false) ∨ (o = (Ex.exit 0, [(1, .ptr 0 0), (3, .int .i64 (leastAt p.seen p.seen.length)), (25, .slice false (p.seen.map encS)), (26, .int .i64 p.seen.length), (27, .int .i64 p.seen.length), (28, Dat.bool false)], [encP p]) ∧ okAll p.seen 0 p.next = decide (leastAt p.seen p.seen.length ≤ p.next))) := by
  have := loop_inv (b := exec (run tab) tab.esc loopW 0 l41_0) (E := e41 p) (σ := [encP p]) p.seen.length (fun i => 0 ≤ leastAt p.seen i)
    (fun i o => (o = (Ex.ret, [(2, Dat.bool false)], []) ∧ okAll (p.seen.drop i) (leastAt p.seen i) p.next = false) ∨ (o = (Ex.exit 0, [(1, .ptr 0 0), (3, .int .i64 (leastAt p.seen p.seen.length)), (25, .slice false (p.seen.map encS)), (26, .int .i64 p.seen.length), (27, .int .i64 p.seen.length), (28, Dat.bool false)], [encP p]) ∧ okAll (p.seen.drop i) (leastAt p.seen i) p.next = decide (leastAt p.seen p.seen.length ≤ p.next)))
    (by simp [leastAt]) (fun hI => ⟨_, by rw [body41 p hn hl _ hI, dif_neg (by omega)], by simp, .inr ⟨rfl, by simp [okAll]⟩⟩) (fun i hi hI => by
      rw [body41 p hn hl i hI, dif_pos hi]
      have hd : p.seen.drop i = p.seen[i] :: p.seen.drop (i + 1) := List.drop_eq_getElem_cons hi
      have hle : leastAt p.seen (i + 1) = (p.seen[i]).seq + (p.seen[i]).count := by simp [leastAt, hi]
      cases hok : okS (leastAt p.seen i) p.next p.seen[i] with
      | true =>
        refine .inl ⟨by simp, ?_, fun o ho => ?_⟩
        · rw [hle]
          simp [okS] at hok
          omega
        · rw [hd]
          simp only [okAll, hok, Bool.true_and]
          rw [← hle]
          exact ho
      | false =>
        refine .inr ?_
        simp only [hok, Bool.false_eq_true, if_false]
        refine ⟨_, rfl, by simp, .inl ⟨rfl, ?_⟩⟩
        rw [hd]
        simp only [okAll, hok, Bool.false_and])
  simpa [leastAt] using this

theorem t41 (p : Prod) (hl : p.seen.length ≤ 9223372036854775807) : run tab 41 [.agg (encP p)] [] = some (.bool (knownP p), []) := by
  rw [run_eq, tab_41]
  by_cases h1 : (decide (1 ≤ p.pid) && decide (p.pid ≤ 8) && decide (0 ≤ p.epoch) && decide (p.epoch ≤ 100)) = true
  · by_cases h2 : (decide (0 ≤ p.next) && decide (p.next ≤ 1048576)) = true
    · by_cases h3 : (3 : Int) < p.seen.length
      · have h3' : ¬ p.seen.length ≤ 3 := by omega
        simp [m41, x41_0, q41_0_0, x41_1, q41_1_0, q41_1_1, q41_1_2, x41_2, q41_2_0, x41_3, q41_3_0, x41_4, q41_4_0, x41_11, q41_11_0, esc_57, esc_58, t57, t58, h1, h2, h3, knownP, h3']
      · have h3' : p.seen.length ≤ 3 := by omega
        have hn : p.next ≤ 1048576 := by simp at h2; exact h2.2
        obtain ⟨o, k1, k2, k3⟩ := loop41 p hn h3'
        simp [e41, leastAt] at k1
        rcases k3 with ⟨rfl, k3⟩ | ⟨rfl, k3⟩
        · simp [m41, x41_0, q41_0_0, x41_1, q41_1_0, q41_1_1, q41_1_2, x41_2, q41_2_0, x41_3, q41_3_0, x41_4, q41_4_0, x41_11, q41_11_0, esc_57, esc_58, t57, t58, h1, h2, h3, knownP, h3', k1, k3]
        · simp [m41, x41_0, q41_0_0, x41_1, q41_1_0, q41_1_1, q41_1_2, x41_2, q41_2_0, x41_3, q41_3_0, x41_4, q41_4_0, x41_11, q41_11_0, esc_57, esc_58, t57, t58, h1, h2, h3, knownP, h3', k1, k3]
    · simp only [Bool.not_eq_true] at h2
      simp [m41, x41_0, q41_0_0, x41_1, q41_1_0, q41_1_1, q41_1_2, x41_2, q41_2_0, x41_3, q41_3_0, x41_4, q41_4_0, x41_11, q41_11_0, esc_57, esc_58, t57, t58, h1, h2, knownP]
  · simp only [Bool.not_eq_true] at h1
    simp [m41, x41_0, q41_0_0, x41_1, q41_1_0, q41_1_1, q41_1_2, x41_2, q41_2_0, x41_3, q41_3_0, x41_4, q41_4_0, x41_11, q41_11_0, esc_57, esc_58, t57, t58, h1, knownP]
end Go.Mir.A
