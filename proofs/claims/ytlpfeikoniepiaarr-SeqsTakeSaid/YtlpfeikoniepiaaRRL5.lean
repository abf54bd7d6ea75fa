import Derived.Test.YtlpfeikoniepiaaRRL4
set_option linter.all false
namespace Go.Mir.A
attribute [local congr] bind_head
attribute [local simp] exec stepOps stepOp wantedD evalOp MArg.ev MArg.evs Env.get Env.put Env.keep putD gc Dat.strip Dat.strip1 MArg.take binD intBin loadD ofCells bindArgs leave resD packD Dat.noTup encPs encP encB encS encR Dat.cells? Dat.safe St.get St.set Dat.underL Dat.underLL Dat.under Dat.norm callD under_encP under_encS under_encR gc_self fillD
set_option linter.unusedSimpArgs false
set_option linter.unusedVariables false
set_option maxHeartbeats 1000000

/-- one seen batch, entry's way -/
def okS (least next : Int) (s : Seen) : Bool := decide (least ≤ s.seq) && decide (s.seq ≤ next) && (decide (1 ≤ s.count) && decide (s.count ≤ 4)) && (decide (-1 ≤ s.base) && decide (s.base ≤ 1048576))
def leastAt (l : List Seen) : Nat → Int
  | 0 => 0
  | i + 1 => match l[i]? with
    | some s => s.seq + s.count
    | none => 0
def e41 (p : Prod) (i : Nat) : Env := [(1, .ptr 0 0), (3, .int .i64 (leastAt p.seen i)), (25, .slice false (p.seen.map encS)), (26, .int .i64 p.seen.length), (27, .int .i64 i)]
theorem body41 (p : Prod) (hn : p.next ≤ 1048576) (hl : p.seen.length ≤ 3) (i : Nat) (h0 : 0 ≤ leastAt p.seen i) : exec (run tab) tab.esc loopW 0 l41_0 (e41 p i) [encP p] = if h : i < p.seen.length then (if okS (leastAt p.seen i) p.next (p.seen[i]'h) then some (Ex.normal, e41 p (i + 1), [encP p]) else some (Ex.ret, [(2, Dat.bool false)], [])) else
      some (Ex.exit 0, [(1, .ptr 0 0), (3, .int .i64 (leastAt p.seen i)), (25, .slice false (p.seen.map encS)), (26, .int .i64 p.seen.length), (27, .int .i64 i), (28, Dat.bool false)], [encP p]) := by
  by_cases h1 : i < p.seen.length
  · have hw : IntKind.wrap .i64 ((i : Int) + 1) = i + 1 := wrap64 (by omega) (by omega)
    have hle : leastAt p.seen (i + 1) = (p.seen[i]).seq + (p.seen[i]).count := by simp [leastAt, h1]
    by_cases h2 : (p.seen[i]).seq < leastAt p.seen i
    · have h2' : ¬ leastAt p.seen i ≤ (p.seen[i]).seq := by omega
      simp [l41_0, x41_5, q41_5_0, x41_6, q41_6_0, x41_7, q41_7_0, q41_7_1, q41_7_2, q41_7_3, x41_8, q41_8_0, x41_9, q41_9_0, x41_10, q41_10_0, e41, h1, h2, hw, esc_58, t58, okS, h2']
    · have h2' : leastAt p.seen i ≤ (p.seen[i]).seq := by omega
      by_cases h3 : p.next < (p.seen[i]).seq
      · have h3' : ¬ (p.seen[i]).seq ≤ p.next := by omega
        simp [l41_0, x41_5, q41_5_0, x41_6, q41_6_0, x41_7, q41_7_0, q41_7_1, q41_7_2, q41_7_3, x41_8, q41_8_0, x41_9, q41_9_0, x41_10, q41_10_0, e41, h1, h2, h3, hw, esc_58, t58, okS, h2', h3']
      · have h3' : (p.seen[i]).seq ≤ p.next := by omega
        by_cases h4 : 1 ≤ (p.seen[i]).count ∧ (p.seen[i]).count ≤ 4
        · have hw2 : IntKind.wrap .i64 ((p.seen[i]).seq + (p.seen[i]).count) = (p.seen[i]).seq + (p.seen[i]).count := wrap64 (by omega) (by omega)
          by_cases h5 : -1 ≤ (p.seen[i]).base ∧ (p.seen[i]).base ≤ 1048576
          · simp [l41_0, x41_5, q41_5_0, x41_6, q41_6_0, x41_7, q41_7_0, q41_7_1, q41_7_2, q41_7_3, x41_8, q41_8_0, x41_9, q41_9_0, x41_10, q41_10_0, e41, h1, h2, h3, h4.1, h4.2, h5.1, h5.2, hw, hw2, esc_58, t58, okS, h2', h3', hle]
          · have h5' : (decide (-1 ≤ (p.seen[i]).base) && decide ((p.seen[i]).base ≤ 1048576)) = false := by simp; omega
            simp [l41_0, x41_5, q41_5_0, x41_6, q41_6_0, x41_7, q41_7_0, q41_7_1, q41_7_2, q41_7_3, x41_8, q41_8_0, x41_9, q41_9_0, x41_10, q41_10_0, e41, h1, h2, h3, h4.1, h4.2, h5', hw, esc_58, t58, okS, h2', h3']
        · have h4' : (decide (1 ≤ (p.seen[i]).count) && decide ((p.seen[i]).count ≤ 4)) = false := by simp; omega
          simp [l41_0, x41_5, q41_5_0, x41_6, q41_6_0, x41_7, q41_7_0, q41_7_1, q41_7_2, q41_7_3, x41_8, q41_8_0, x41_9, q41_9_0, x41_10, q41_10_0, e41, h1, h2, h3, h4', hw, esc_58, t58, okS, h2', h3']
  · simp [l41_0, x41_5, q41_5_0, x41_6, q41_6_0, x41_7, q41_7_0, q41_7_1, q41_7_2, q41_7_3, x41_8, q41_8_0, x41_9, q41_9_0, x41_10, q41_10_0, e41, h1]
end Go.Mir.A
