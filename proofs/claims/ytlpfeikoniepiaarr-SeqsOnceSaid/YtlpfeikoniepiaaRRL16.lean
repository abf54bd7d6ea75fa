import Derived.Test.YtlpfeikoniepiaaRRL15
set_option linter.all false
namespace Go.Mir.A
attribute [local congr] bind_head
attribute [local simp] exec stepOps stepOp wantedD evalOp.eq_1 evalOp.eq_2 evalOp.eq_3 evalOp.eq_4 evalOp.eq_5 evalOp.eq_6 evalOp.eq_7 evalOp.eq_8 evalOp.eq_9 evalOp.eq_10 evalOp.eq_11 evalOp.eq_12 evalOp.eq_13 evalOp.eq_14 evalOp.eq_15 evalOp.eq_16 evalOp.eq_17 evalOp.eq_18 evalOp.eq_19 evalOp.eq_20 evalOp.eq_21 evalOp.eq_22 evalOp.eq_23 evalOp.eq_24 evalOp.eq_25 evalOp.eq_26 evalOp.eq_27 evalOp.eq_28 evalOp.eq_29 evalOp.eq_31 evalOp.eq_32 evalOp_append appD_nil underLL_app underLL_tk underLL_dp nn1 nn2 take_rest MArg.ev MArg.evs Env.get Env.put Env.keep putD gc Dat.strip Dat.strip1 MArg.take binD intBin loadD ofCells bindArgs leave resD packD Dat.noTup encPs encP encB encS encR Dat.cells? Dat.safe St.get St.set Dat.underL Dat.underLL Dat.under Dat.norm callD callC under_encP under_encS under_encR gc_self fillD elemsD bound Dat.rows? cellsEq cellEq
set_option linter.unusedSimpArgs false
set_option linter.unusedVariables false
set_option maxHeartbeats 1000000

/-- what stands behind a seen batch -/
def nextAt (p : Prod) (i : Nat) : Int := if h : i + 1 < p.seen.length then (p.seen[i + 1]).seq else p.next
/-- the reference's way: each batch's end is held against the next one's beginning -/
def okRef (p : Prod) (i : Nat) (s : Seen) : Bool := !(decide (s.seq < 0) || (!(decide (1 ≤ s.count) && decide (s.count ≤ 4)) || (!(decide (-1 ≤ s.base) && decide (s.base ≤ 1048576)) || decide (IntKind.wrap .i64 (nextAt p i - s.count) < s.seq))))
def okFrom (p : Prod) (i : Nat) : Bool := ((List.range p.seen.length).drop i).all fun k => if h : k < p.seen.length then okRef p k p.seen[k] else true
theorem okFrom_end (p : Prod) : okFrom p p.seen.length = true := by rw [okFrom, List.drop_of_length_le (by simp)]; rfl
theorem okFrom_step (p : Prod) (i : Nat) (h : i < p.seen.length) : okFrom p i = (okRef p i p.seen[i] && okFrom p (i + 1)) := by
  rw [okFrom, List.drop_eq_getElem_cons (by simpa using h), List.all_cons]
  simp [okFrom, h]
def e69 (i : Nat) : Env := [(1, .ptr 0 0), (3, .int .i64 i)]
def knownR (p : Prod) : Bool := (decide (1 ≤ p.pid) && decide (p.pid ≤ 8) && decide (0 ≤ p.epoch) && decide (p.epoch ≤ 100)) && (decide (0 ≤ p.next) && decide (p.next ≤ 1048576)) && decide (p.seen.length ≤ 3) && okFrom p 0
theorem t69 (p : Prod) (hl : p.seen.length ≤ 1000) : run tab 69 [.agg (encP p)] [] = some (.bool (knownR p), []) := by
  rw [run_eq, tab_69]
  by_cases h1 : (decide (1 ≤ p.pid) && decide (p.pid ≤ 8) && decide (0 ≤ p.epoch) && decide (p.epoch ≤ 100)) = true
  · by_cases h2 : (decide (0 ≤ p.next) && decide (p.next ≤ 1048576)) = true
    · by_cases h3 : (3 : Int) < p.seen.length
      · have h3' : ¬ p.seen.length ≤ 3 := by omega
        simp [m69, x69_0, q69_0_0, x69_1, q69_1_0, q69_1_1, q69_1_2, x69_2, q69_2_0, x69_3, q69_3_0, x69_4, q69_4_0, x69_6, q69_6_0, q69_6_1, x69_7, q69_7_0, x69_8, q69_8_0, x69_9, q69_9_0, q69_9_1, x69_10, q69_10_0, q69_10_1, q69_10_2, q69_10_3, x69_11, q69_11_0, x69_5, q69_5_0, x69_12, q69_12_0, esc_80, esc_81, t80, t81, h1, h2, h3, knownR, h3']
      · have h3' : p.seen.length ≤ 3 := by omega
        simp [m69, x69_0, q69_0_0, x69_1, q69_1_0, q69_1_1, q69_1_2, x69_2, q69_2_0, x69_3, q69_3_0, x69_4, q69_4_0, x69_6, q69_6_0, q69_6_1, x69_7, q69_7_0, x69_8, q69_8_0, x69_9, q69_9_0, q69_9_1, x69_10, q69_10_0, q69_10_1, q69_10_2, q69_10_3, x69_11, q69_11_0, x69_5, q69_5_0, x69_12, q69_12_0, esc_80, esc_81, t80, t81, h1, h2, h3, knownR, h3']
        simp only [Option.bind_assoc]
        refine (loop_cont e69 (fun _ => [encP p]) p.seen.length (fun _ => True) (fun i => some (Dat.bool (okFrom p i), [])) trivial (fun _ => ?_) fun i hi _ => ?_)
        · simp [l69_0, m69, x69_0, q69_0_0, x69_1, q69_1_0, q69_1_1, q69_1_2, x69_2, q69_2_0, x69_3, q69_3_0, x69_4, q69_4_0, x69_6, q69_6_0, q69_6_1, x69_7, q69_7_0, x69_8, q69_8_0, x69_9, q69_9_0, q69_9_1, x69_10, q69_10_0, q69_10_1, q69_10_2, q69_10_3, x69_11, q69_11_0, x69_5, q69_5_0, x69_12, q69_12_0, e69, okFrom_end]
        · rw [okFrom_step p i hi]
          have hw : IntKind.wrap .i64 ((i : Int) + 1) = i + 1 := wrap64 (by omega) (by omega)
          have hn : nextAt p i = if h : i + 1 < p.seen.length then (p.seen[i + 1]).seq else p.next := rfl
          by_cases k0 : i + 1 < p.seen.length
          · rw [dif_pos k0] at hn
            have k0' : (i : Int) + 1 < p.seen.length := by omega
            have k0'' : ((i : Int) + 1).toNat = i + 1 := by omega
            have k0a : (0 : Int) ≤ (i : Int) + 1 := by omega
            by_cases k1 : (p.seen[i]).seq < 0
            · refine .inr ?_
              simp [l69_0, m69, x69_0, q69_0_0, x69_1, q69_1_0, q69_1_1, q69_1_2, x69_2, q69_2_0, x69_3, q69_3_0, x69_4, q69_4_0, x69_6, q69_6_0, q69_6_1, x69_7, q69_7_0, x69_8, q69_8_0, x69_9, q69_9_0, q69_9_1, x69_10, q69_10_0, q69_10_1, q69_10_2, q69_10_3, x69_11, q69_11_0, x69_5, q69_5_0, x69_12, q69_12_0, e69, hi, hw, k0', k0'', k0a, k0, k1, okRef, esc_81, t81]
            · by_cases k2 : (decide (1 ≤ (p.seen[i]).count) && decide ((p.seen[i]).count ≤ 4)) = true
              · by_cases k3 : (decide (-1 ≤ (p.seen[i]).base) && decide ((p.seen[i]).base ≤ 1048576)) = true
                · by_cases k4 : IntKind.wrap .i64 ((p.seen[i + 1]).seq - (p.seen[i]).count) < (p.seen[i]).seq
                  · refine .inr ?_
                    simp [l69_0, m69, x69_0, q69_0_0, x69_1, q69_1_0, q69_1_1, q69_1_2, x69_2, q69_2_0, x69_3, q69_3_0, x69_4, q69_4_0, x69_6, q69_6_0, q69_6_1, x69_7, q69_7_0, x69_8, q69_8_0, x69_9, q69_9_0, q69_9_1, x69_10, q69_10_0, q69_10_1, q69_10_2, q69_10_3, x69_11, q69_11_0, x69_5, q69_5_0, x69_12, q69_12_0, e69, hi, hw, k0', k0'', k0a, k0, k1, k2, k3, k4, okRef, hn, esc_81, t81]
                  · refine .inl ⟨?_, trivial, ?_⟩
                    · simp [l69_0, m69, x69_0, q69_0_0, x69_1, q69_1_0, q69_1_1, q69_1_2, x69_2, q69_2_0, x69_3, q69_3_0, x69_4, q69_4_0, x69_6, q69_6_0, q69_6_1, x69_7, q69_7_0, x69_8, q69_8_0, x69_9, q69_9_0, q69_9_1, x69_10, q69_10_0, q69_10_1, q69_10_2, q69_10_3, x69_11, q69_11_0, x69_5, q69_5_0, x69_12, q69_12_0, e69, hi, hw, k0', k0'', k0a, k0, k1, k2, k3, k4, okRef, hn, esc_81, t81]
                    · simp [okRef, hn, k1, k2, k3, k4]
                · simp only [Bool.not_eq_true] at k3
                  refine .inr ?_
                  simp [l69_0, m69, x69_0, q69_0_0, x69_1, q69_1_0, q69_1_1, q69_1_2, x69_2, q69_2_0, x69_3, q69_3_0, x69_4, q69_4_0, x69_6, q69_6_0, q69_6_1, x69_7, q69_7_0, x69_8, q69_8_0, x69_9, q69_9_0, q69_9_1, x69_10, q69_10_0, q69_10_1, q69_10_2, q69_10_3, x69_11, q69_11_0, x69_5, q69_5_0, x69_12, q69_12_0, e69, hi, hw, k0', k0'', k0a, k0, k1, k2, k3, okRef, esc_81, t81]
              · simp only [Bool.not_eq_true] at k2
                refine .inr ?_
                simp [l69_0, m69, x69_0, q69_0_0, x69_1, q69_1_0, q69_1_1, q69_1_2, x69_2, q69_2_0, x69_3, q69_3_0, x69_4, q69_4_0, x69_6, q69_6_0, q69_6_1, x69_7, q69_7_0, x69_8, q69_8_0, x69_9, q69_9_0, q69_9_1, x69_10, q69_10_0, q69_10_1, q69_10_2, q69_10_3, x69_11, q69_11_0, x69_5, q69_5_0, x69_12, q69_12_0, e69, hi, hw, k0', k0'', k0a, k0, k1, k2, okRef, esc_81, t81]
          · rw [dif_neg k0] at hn
            have k0' : ¬ (i : Int) + 1 < p.seen.length := by omega
            by_cases k1 : (p.seen[i]).seq < 0
            · refine .inr ?_
              simp [l69_0, m69, x69_0, q69_0_0, x69_1, q69_1_0, q69_1_1, q69_1_2, x69_2, q69_2_0, x69_3, q69_3_0, x69_4, q69_4_0, x69_6, q69_6_0, q69_6_1, x69_7, q69_7_0, x69_8, q69_8_0, x69_9, q69_9_0, q69_9_1, x69_10, q69_10_0, q69_10_1, q69_10_2, q69_10_3, x69_11, q69_11_0, x69_5, q69_5_0, x69_12, q69_12_0, e69, hi, hw, k0', k1, okRef, esc_81, t81]
            · by_cases k2 : (decide (1 ≤ (p.seen[i]).count) && decide ((p.seen[i]).count ≤ 4)) = true
              · by_cases k3 : (decide (-1 ≤ (p.seen[i]).base) && decide ((p.seen[i]).base ≤ 1048576)) = true
                · by_cases k4 : IntKind.wrap .i64 (p.next - (p.seen[i]).count) < (p.seen[i]).seq
                  · refine .inr ?_
                    simp [l69_0, m69, x69_0, q69_0_0, x69_1, q69_1_0, q69_1_1, q69_1_2, x69_2, q69_2_0, x69_3, q69_3_0, x69_4, q69_4_0, x69_6, q69_6_0, q69_6_1, x69_7, q69_7_0, x69_8, q69_8_0, x69_9, q69_9_0, q69_9_1, x69_10, q69_10_0, q69_10_1, q69_10_2, q69_10_3, x69_11, q69_11_0, x69_5, q69_5_0, x69_12, q69_12_0, e69, hi, hw, k0', k1, k2, k3, k4, okRef, hn, esc_81, t81]
                  · refine .inl ⟨?_, trivial, ?_⟩
                    · simp [l69_0, m69, x69_0, q69_0_0, x69_1, q69_1_0, q69_1_1, q69_1_2, x69_2, q69_2_0, x69_3, q69_3_0, x69_4, q69_4_0, x69_6, q69_6_0, q69_6_1, x69_7, q69_7_0, x69_8, q69_8_0, x69_9, q69_9_0, q69_9_1, x69_10, q69_10_0, q69_10_1, q69_10_2, q69_10_3, x69_11, q69_11_0, x69_5, q69_5_0, x69_12, q69_12_0, e69, hi, hw, k0', k1, k2, k3, k4, okRef, hn, esc_81, t81]
                    · simp [okRef, hn, k1, k2, k3, k4]
                · simp only [Bool.not_eq_true] at k3
                  refine .inr ?_
                  simp [l69_0, m69, x69_0, q69_0_0, x69_1, q69_1_0, q69_1_1, q69_1_2, x69_2, q69_2_0, x69_3, q69_3_0, x69_4, q69_4_0, x69_6, q69_6_0, q69_6_1, x69_7, q69_7_0, x69_8, q69_8_0, x69_9, q69_9_0, q69_9_1, x69_10, q69_10_0, q69_10_1, q69_10_2, q69_10_3, x69_11, q69_11_0, x69_5, q69_5_0, x69_12, q69_12_0, e69, hi, hw, k0', k1, k2, k3, okRef, esc_81, t81]
              · simp only [Bool.not_eq_true] at k2
                refine .inr ?_
                simp [l69_0, m69, x69_0, q69_0_0, x69_1, q69_1_0, q69_1_1, q69_1_2, x69_2, q69_2_0, x69_3, q69_3_0, x69_4, q69_4_0, x69_6, q69_6_0, q69_6_1, x69_7, q69_7_0, x69_8, q69_8_0, x69_9, q69_9_0, q69_9_1, x69_10, q69_10_0, q69_10_1, q69_10_2, q69_10_3, x69_11, q69_11_0, x69_5, q69_5_0, x69_12, q69_12_0, e69, hi, hw, k0', k1, k2, okRef, esc_81, t81]
    · simp only [Bool.not_eq_true] at h2
      simp [m69, x69_0, q69_0_0, x69_1, q69_1_0, q69_1_1, q69_1_2, x69_2, q69_2_0, x69_3, q69_3_0, x69_4, q69_4_0, x69_6, q69_6_0, q69_6_1, x69_7, q69_7_0, x69_8, q69_8_0, x69_9, q69_9_0, q69_9_1, x69_10, q69_10_0, q69_10_1, q69_10_2, q69_10_3, x69_11, q69_11_0, x69_5, q69_5_0, x69_12, q69_12_0, esc_80, esc_81, t80, t81, h1, h2, knownR]
  · simp only [Bool.not_eq_true] at h1
    simp [m69, x69_0, q69_0_0, x69_1, q69_1_0, q69_1_1, q69_1_2, x69_2, q69_2_0, x69_3, q69_3_0, x69_4, q69_4_0, x69_6, q69_6_0, q69_6_1, x69_7, q69_7_0, x69_8, q69_8_0, x69_9, q69_9_0, q69_9_1, x69_10, q69_10_0, q69_10_1, q69_10_2, q69_10_3, x69_11, q69_11_0, x69_5, q69_5_0, x69_12, q69_12_0, esc_80, esc_81, t80, t81, h1, knownR]
end Go.Mir.A
