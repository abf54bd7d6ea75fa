import Derived.Test.YtlpfeikoniepiaaRRLB
set_option linter.all false
namespace Go.Mir.A
attribute [local congr] bind_head
attribute [local simp] exec stepOps stepOp wantedD evalOp.eq_1 evalOp.eq_2 evalOp.eq_3 evalOp.eq_4 evalOp.eq_5 evalOp.eq_6 evalOp.eq_7 evalOp.eq_8 evalOp.eq_9 evalOp.eq_10 evalOp.eq_11 evalOp.eq_12 evalOp.eq_13 evalOp.eq_14 evalOp.eq_15 evalOp.eq_16 evalOp.eq_17 evalOp.eq_18 evalOp.eq_19 evalOp.eq_20 evalOp.eq_21 evalOp.eq_22 evalOp.eq_23 evalOp.eq_24 evalOp.eq_25 evalOp.eq_26 evalOp.eq_27 evalOp.eq_28 evalOp.eq_29 evalOp.eq_31 evalOp.eq_32 evalOp_append appD_nil underLL_app underLL_tk underLL_dp nn1 nn2 take_rest MArg.ev MArg.evs Env.get Env.put Env.keep putD gc Dat.strip Dat.strip1 MArg.take binD intBin loadD ofCells bindArgs leave resD packD Dat.noTup encPs encP encB encS encR Dat.cells? Dat.safe St.get St.set Dat.underL Dat.underLL Dat.under Dat.norm callD callC under_encP under_encS under_encR gc_self fillD elemsD bound Dat.rows? cellsEq cellEq
set_option linter.unusedSimpArgs false
set_option linter.unusedVariables false
set_option maxHeartbeats 1000000

def badR (r : Rec) : Bool := decide (16 < r.key.length) || decide (16 < r.value.length)
def mayB (b : Batch) : Bool := decide (1 ≤ b.pid) && (decide (b.pid ≤ 8) && (decide (0 ≤ b.epoch) && (decide (b.epoch ≤ 100) && (decide (0 ≤ b.seq) && (decide (1 ≤ b.recs.length) && (decide (b.recs.length ≤ 4) && (decide (b.seq + b.recs.length ≤ 1048576) && !b.recs.any badR)))))))
theorem mayB_of {b : Batch} (h : 1 ≤ b.pid ∧ b.pid ≤ 8 ∧ 0 ≤ b.epoch ∧ b.epoch ≤ 100 ∧ 0 ≤ b.seq ∧ 1 ≤ b.recs.length ∧ b.recs.length ≤ 4 ∧ b.seq + b.recs.length ≤ 1048576) : mayB b = !b.recs.any badR := by
  simp only [mayB, h, decide_true, Bool.true_and]
theorem mayB_not {b : Batch} (h : ¬ (1 ≤ b.pid ∧ b.pid ≤ 8 ∧ 0 ≤ b.epoch ∧ b.epoch ≤ 100 ∧ 0 ≤ b.seq ∧ 1 ≤ b.recs.length ∧ b.recs.length ≤ 4 ∧ b.seq + b.recs.length ≤ 1048576)) : mayB b = false := by
  rw [Bool.eq_false_iff]
  intro hm
  simp only [mayB, Bool.and_eq_true, decide_eq_true_eq] at hm
  omega
theorem drop_any (l : List Rec) (i : Nat) (h : i < l.length) : (l.drop i).any badR = (badR l[i] || (l.drop (i + 1)).any badR) := by
  rw [List.drop_eq_getElem_cons h, List.any_cons]

def e15 (i : Nat) : Env := [(1, .ptr 0 0), (3, .int .i64 i)]
theorem t15 (b : Batch) (hl : b.recs.length ≤ 1000) : run tab 15 [.agg (encB b)] [] = some (.bool (mayB b), []) := by
  rw [run_eq, tab_15]
  by_cases h1 : b.pid < 1
  · rw [mayB_not (by omega)]; simp [m15, x15_0, q15_0_0, x15_1, q15_1_0, q15_1_1, q15_1_2, q15_1_3, q15_1_4, q15_1_5, q15_1_6, q15_1_7, q15_1_8, x15_2, q15_2_0, x15_3, q15_3_0, x15_4, q15_4_0, x15_6, q15_6_0, q15_6_1, q15_6_2, x15_7, q15_7_0, x15_5, q15_5_0, x15_8, q15_8_0, h1]
  by_cases h2 : 8 < b.pid
  · rw [mayB_not (by omega)]; simp [m15, x15_0, q15_0_0, x15_1, q15_1_0, q15_1_1, q15_1_2, q15_1_3, q15_1_4, q15_1_5, q15_1_6, q15_1_7, q15_1_8, x15_2, q15_2_0, x15_3, q15_3_0, x15_4, q15_4_0, x15_6, q15_6_0, q15_6_1, q15_6_2, x15_7, q15_7_0, x15_5, q15_5_0, x15_8, q15_8_0, h1, h2]
  by_cases h3 : b.epoch < 0
  · rw [mayB_not (by omega)]; simp [m15, x15_0, q15_0_0, x15_1, q15_1_0, q15_1_1, q15_1_2, q15_1_3, q15_1_4, q15_1_5, q15_1_6, q15_1_7, q15_1_8, x15_2, q15_2_0, x15_3, q15_3_0, x15_4, q15_4_0, x15_6, q15_6_0, q15_6_1, q15_6_2, x15_7, q15_7_0, x15_5, q15_5_0, x15_8, q15_8_0, h1, h2, h3]
  by_cases h4 : 100 < b.epoch
  · rw [mayB_not (by omega)]; simp [m15, x15_0, q15_0_0, x15_1, q15_1_0, q15_1_1, q15_1_2, q15_1_3, q15_1_4, q15_1_5, q15_1_6, q15_1_7, q15_1_8, x15_2, q15_2_0, x15_3, q15_3_0, x15_4, q15_4_0, x15_6, q15_6_0, q15_6_1, q15_6_2, x15_7, q15_7_0, x15_5, q15_5_0, x15_8, q15_8_0, h1, h2, h3, h4]
  by_cases h5 : b.seq < 0
  · rw [mayB_not (by omega)]; simp [m15, x15_0, q15_0_0, x15_1, q15_1_0, q15_1_1, q15_1_2, q15_1_3, q15_1_4, q15_1_5, q15_1_6, q15_1_7, q15_1_8, x15_2, q15_2_0, x15_3, q15_3_0, x15_4, q15_4_0, x15_6, q15_6_0, q15_6_1, q15_6_2, x15_7, q15_7_0, x15_5, q15_5_0, x15_8, q15_8_0, h1, h2, h3, h4, h5]
  by_cases h6 : 1048576 < b.seq
  · rw [mayB_not (by omega)]; simp [m15, x15_0, q15_0_0, x15_1, q15_1_0, q15_1_1, q15_1_2, q15_1_3, q15_1_4, q15_1_5, q15_1_6, q15_1_7, q15_1_8, x15_2, q15_2_0, x15_3, q15_3_0, x15_4, q15_4_0, x15_6, q15_6_0, q15_6_1, q15_6_2, x15_7, q15_7_0, x15_5, q15_5_0, x15_8, q15_8_0, h1, h2, h3, h4, h5, h6]
  by_cases h7 : (b.recs.length : Int) < 1
  · rw [mayB_not (by omega)]; simp [m15, x15_0, q15_0_0, x15_1, q15_1_0, q15_1_1, q15_1_2, q15_1_3, q15_1_4, q15_1_5, q15_1_6, q15_1_7, q15_1_8, x15_2, q15_2_0, x15_3, q15_3_0, x15_4, q15_4_0, x15_6, q15_6_0, q15_6_1, q15_6_2, x15_7, q15_7_0, x15_5, q15_5_0, x15_8, q15_8_0, h1, h2, h3, h4, h5, h6, h7]
  by_cases h8 : 4 < (b.recs.length : Int)
  · rw [mayB_not (by omega)]; simp [m15, x15_0, q15_0_0, x15_1, q15_1_0, q15_1_1, q15_1_2, q15_1_3, q15_1_4, q15_1_5, q15_1_6, q15_1_7, q15_1_8, x15_2, q15_2_0, x15_3, q15_3_0, x15_4, q15_4_0, x15_6, q15_6_0, q15_6_1, q15_6_2, x15_7, q15_7_0, x15_5, q15_5_0, x15_8, q15_8_0, h1, h2, h3, h4, h5, h6, h7, h8]
  have hw : IntKind.wrap .i64 (b.seq + b.recs.length) = b.seq + b.recs.length := wrap64 (by omega) (by omega)
  by_cases h9 : 1048576 < b.seq + b.recs.length
  · rw [mayB_not (by omega)]; simp [m15, x15_0, q15_0_0, x15_1, q15_1_0, q15_1_1, q15_1_2, q15_1_3, q15_1_4, q15_1_5, q15_1_6, q15_1_7, q15_1_8, x15_2, q15_2_0, x15_3, q15_3_0, x15_4, q15_4_0, x15_6, q15_6_0, q15_6_1, q15_6_2, x15_7, q15_7_0, x15_5, q15_5_0, x15_8, q15_8_0, h1, h2, h3, h4, h5, h6, h7, h8, h9, hw]
  rw [mayB_of (by omega)]
  simp [m15, x15_0, q15_0_0, x15_1, q15_1_0, q15_1_1, q15_1_2, q15_1_3, q15_1_4, q15_1_5, q15_1_6, q15_1_7, q15_1_8, x15_2, q15_2_0, x15_3, q15_3_0, x15_4, q15_4_0, x15_6, q15_6_0, q15_6_1, q15_6_2, x15_7, q15_7_0, x15_5, q15_5_0, x15_8, q15_8_0, h1, h2, h3, h4, h5, h6, h7, h8, h9, hw]
  simp only [Option.bind_assoc]
  refine (loop_cont e15 (fun _ => [encB b]) b.recs.length (fun _ => True) (fun i => some (Dat.bool (!(b.recs.drop i).any badR), [])) trivial (fun _ => ?_) fun i hi _ => ?_)
  · simp [l15_0, m15, x15_0, q15_0_0, x15_1, q15_1_0, q15_1_1, q15_1_2, q15_1_3, q15_1_4, q15_1_5, q15_1_6, q15_1_7, q15_1_8, x15_2, q15_2_0, x15_3, q15_3_0, x15_4, q15_4_0, x15_6, q15_6_0, q15_6_1, q15_6_2, x15_7, q15_7_0, x15_5, q15_5_0, x15_8, q15_8_0, e15]
  · rw [drop_any _ _ hi]
    have hw : IntKind.wrap .i64 ((i : Int) + 1) = i + 1 := wrap64 (by omega) (by omega)
    by_cases k1 : (16 : Int) < (b.recs[i]).key.length
    · have k1' : 16 < (b.recs[i]).key.length := by omega
      refine .inr ?_
      simp [l15_0, m15, x15_0, q15_0_0, x15_1, q15_1_0, q15_1_1, q15_1_2, q15_1_3, q15_1_4, q15_1_5, q15_1_6, q15_1_7, q15_1_8, x15_2, q15_2_0, x15_3, q15_3_0, x15_4, q15_4_0, x15_6, q15_6_0, q15_6_1, q15_6_2, x15_7, q15_7_0, x15_5, q15_5_0, x15_8, q15_8_0, e15, hi, k1, k1', badR]
    · have k1' : ¬ 16 < (b.recs[i]).key.length := by omega
      by_cases k2 : (16 : Int) < (b.recs[i]).value.length
      · have k2' : 16 < (b.recs[i]).value.length := by omega
        refine .inr ?_
        simp [l15_0, m15, x15_0, q15_0_0, x15_1, q15_1_0, q15_1_1, q15_1_2, q15_1_3, q15_1_4, q15_1_5, q15_1_6, q15_1_7, q15_1_8, x15_2, q15_2_0, x15_3, q15_3_0, x15_4, q15_4_0, x15_6, q15_6_0, q15_6_1, q15_6_2, x15_7, q15_7_0, x15_5, q15_5_0, x15_8, q15_8_0, e15, hi, k1, k2, k1', k2', badR]
      · have k2' : ¬ 16 < (b.recs[i]).value.length := by omega
        refine .inl ⟨?_, trivial, ?_⟩
        · simp [l15_0, m15, x15_0, q15_0_0, x15_1, q15_1_0, q15_1_1, q15_1_2, q15_1_3, q15_1_4, q15_1_5, q15_1_6, q15_1_7, q15_1_8, x15_2, q15_2_0, x15_3, q15_3_0, x15_4, q15_4_0, x15_6, q15_6_0, q15_6_1, q15_6_2, x15_7, q15_7_0, x15_5, q15_5_0, x15_8, q15_8_0, e15, hi, k1, k2, k1', k2', badR, hw]
        · simp [badR, k1', k2']

def e38 (b : Batch) (i : Nat) : Env := [(29, .slice false (b.recs.map encR)), (30, .int .i64 b.recs.length), (31, .int .i64 i)]
theorem t38 (b : Batch) (hl : b.recs.length ≤ 1000) : run tab 38 [.agg (encB b)] [] = some (.bool (mayB b), []) := by
  rw [run_eq, tab_38]
  by_cases h1 : 1 ≤ b.pid ∧ b.pid ≤ 8
  · by_cases h2 : 0 ≤ b.epoch ∧ b.epoch ≤ 100
    · by_cases h3 : 1 ≤ (b.recs.length : Int) ∧ (b.recs.length : Int) ≤ 4
      · have hw : IntKind.wrap .i64 (1048576 - (b.recs.length : Int)) = 1048576 - b.recs.length := wrap64 (by omega) (by omega)
        by_cases h4 : 0 ≤ b.seq ∧ b.seq ≤ 1048576 - b.recs.length
        · rw [mayB_of (by omega)]
          simp [m38, x38_0, q38_0_0, x38_1, q38_1_0, x38_2, q38_2_0, x38_3, q38_3_0, x38_4, q38_4_0, x38_5, q38_5_0, q38_5_1, x38_6, q38_6_0, x38_7, q38_7_0, x38_8, q38_8_0, x38_9, q38_9_0, x38_10, q38_10_0, q38_10_1, x38_11, q38_11_0, x38_12, q38_12_0, x38_13, q38_13_0, h1, h2, h3, h4, hw, esc_56, t56]
          simp only [Option.bind_assoc]
          refine (loop_cont (e38 b) (fun _ => []) b.recs.length (fun _ => True) (fun i => some (Dat.bool (!(b.recs.drop i).any badR), [])) trivial (fun _ => ?_) fun i hi _ => ?_)
          · simp [l38_0, m38, x38_0, q38_0_0, x38_1, q38_1_0, x38_2, q38_2_0, x38_3, q38_3_0, x38_4, q38_4_0, x38_5, q38_5_0, q38_5_1, x38_6, q38_6_0, x38_7, q38_7_0, x38_8, q38_8_0, x38_9, q38_9_0, x38_10, q38_10_0, q38_10_1, x38_11, q38_11_0, x38_12, q38_12_0, x38_13, q38_13_0, e38]
          · rw [drop_any _ _ hi]
            have hw : IntKind.wrap .i64 ((i : Int) + 1) = i + 1 := wrap64 (by omega) (by omega)
            by_cases k1 : (16 : Int) < (b.recs[i]).key.length
            · have k1' : 16 < (b.recs[i]).key.length := by omega
              refine .inr ?_
              simp [l38_0, m38, x38_0, q38_0_0, x38_1, q38_1_0, x38_2, q38_2_0, x38_3, q38_3_0, x38_4, q38_4_0, x38_5, q38_5_0, q38_5_1, x38_6, q38_6_0, x38_7, q38_7_0, x38_8, q38_8_0, x38_9, q38_9_0, x38_10, q38_10_0, q38_10_1, x38_11, q38_11_0, x38_12, q38_12_0, x38_13, q38_13_0, e38, hi, k1, k1', badR]
            · have k1' : ¬ 16 < (b.recs[i]).key.length := by omega
              by_cases k2 : (16 : Int) < (b.recs[i]).value.length
              · have k2' : 16 < (b.recs[i]).value.length := by omega
                refine .inr ?_
                simp [l38_0, m38, x38_0, q38_0_0, x38_1, q38_1_0, x38_2, q38_2_0, x38_3, q38_3_0, x38_4, q38_4_0, x38_5, q38_5_0, q38_5_1, x38_6, q38_6_0, x38_7, q38_7_0, x38_8, q38_8_0, x38_9, q38_9_0, x38_10, q38_10_0, q38_10_1, x38_11, q38_11_0, x38_12, q38_12_0, x38_13, q38_13_0, e38, hi, k1, k2, k1', k2', badR]
              · have k2' : ¬ 16 < (b.recs[i]).value.length := by omega
                refine .inl ⟨?_, trivial, ?_⟩
                · simp [l38_0, m38, x38_0, q38_0_0, x38_1, q38_1_0, x38_2, q38_2_0, x38_3, q38_3_0, x38_4, q38_4_0, x38_5, q38_5_0, q38_5_1, x38_6, q38_6_0, x38_7, q38_7_0, x38_8, q38_8_0, x38_9, q38_9_0, x38_10, q38_10_0, q38_10_1, x38_11, q38_11_0, x38_12, q38_12_0, x38_13, q38_13_0, e38, hi, k1, k2, k1', k2', badR, hw]
                · simp [badR, k1', k2']
        · have h4' : (decide (0 ≤ b.seq) && decide (b.seq ≤ 1048576 - b.recs.length)) = false := by simp; omega
          rw [mayB_not (by omega)]
          simp [m38, x38_0, q38_0_0, x38_1, q38_1_0, x38_2, q38_2_0, x38_3, q38_3_0, x38_4, q38_4_0, x38_5, q38_5_0, q38_5_1, x38_6, q38_6_0, x38_7, q38_7_0, x38_8, q38_8_0, x38_9, q38_9_0, x38_10, q38_10_0, q38_10_1, x38_11, q38_11_0, x38_12, q38_12_0, x38_13, q38_13_0, h1, h2, h3, h4', hw, esc_56, t56]
      · have h3' : (decide (1 ≤ (b.recs.length : Int)) && decide ((b.recs.length : Int) ≤ 4)) = false := by simp; omega
        rw [mayB_not (by omega)]
        simp [m38, x38_0, q38_0_0, x38_1, q38_1_0, x38_2, q38_2_0, x38_3, q38_3_0, x38_4, q38_4_0, x38_5, q38_5_0, q38_5_1, x38_6, q38_6_0, x38_7, q38_7_0, x38_8, q38_8_0, x38_9, q38_9_0, x38_10, q38_10_0, q38_10_1, x38_11, q38_11_0, x38_12, q38_12_0, x38_13, q38_13_0, h1, h2, h3', esc_56, t56]
    · have h2' : (decide (0 ≤ b.epoch) && decide (b.epoch ≤ 100)) = false := by simp; omega
      rw [mayB_not (by omega)]
      simp [m38, x38_0, q38_0_0, x38_1, q38_1_0, x38_2, q38_2_0, x38_3, q38_3_0, x38_4, q38_4_0, x38_5, q38_5_0, q38_5_1, x38_6, q38_6_0, x38_7, q38_7_0, x38_8, q38_8_0, x38_9, q38_9_0, x38_10, q38_10_0, q38_10_1, x38_11, q38_11_0, x38_12, q38_12_0, x38_13, q38_13_0, h1, h2', esc_56, t56]
  · have h1' : (decide (1 ≤ b.pid) && decide (b.pid ≤ 8)) = false := by simp; omega
    rw [mayB_not (by omega)]
    simp [m38, x38_0, q38_0_0, x38_1, q38_1_0, x38_2, q38_2_0, x38_3, q38_3_0, x38_4, q38_4_0, x38_5, q38_5_0, q38_5_1, x38_6, q38_6_0, x38_7, q38_7_0, x38_8, q38_8_0, x38_9, q38_9_0, x38_10, q38_10_0, q38_10_1, x38_11, q38_11_0, x38_12, q38_12_0, x38_13, q38_13_0, h1', esc_56, t56]
end Go.Mir.A
