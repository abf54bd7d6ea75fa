import Derived.Test.YtlpfeikoniepiaaRRL13
set_option linter.all false
namespace Go.Mir.A
attribute [local congr] bind_head
attribute [local simp] exec stepOps stepOp wantedD evalOp.eq_1 evalOp.eq_2 evalOp.eq_3 evalOp.eq_4 evalOp.eq_5 evalOp.eq_6 evalOp.eq_7 evalOp.eq_8 evalOp.eq_9 evalOp.eq_10 evalOp.eq_11 evalOp.eq_12 evalOp.eq_13 evalOp.eq_14 evalOp.eq_15 evalOp.eq_16 evalOp.eq_17 evalOp.eq_18 evalOp.eq_19 evalOp.eq_20 evalOp.eq_21 evalOp.eq_22 evalOp.eq_23 evalOp.eq_24 evalOp.eq_25 evalOp.eq_26 evalOp.eq_27 evalOp.eq_28 evalOp.eq_29 evalOp.eq_31 evalOp.eq_32 evalOp_append appD_nil underLL_app underLL_tk underLL_dp nn1 nn2 take_rest MArg.ev MArg.evs Env.get Env.put Env.keep putD gc Dat.strip Dat.strip1 MArg.take binD intBin loadD ofCells bindArgs leave resD packD Dat.noTup encPs encP encB encS encR Dat.cells? Dat.safe St.get St.set Dat.underL Dat.underLL Dat.under Dat.norm callD callC under_encP under_encS under_encR gc_self fillD elemsD bound Dat.rows? cellsEq cellEq
set_option linter.unusedSimpArgs false
set_option linter.unusedVariables false
set_option maxHeartbeats 1000000

theorem t56 (a b c : Int) : run tab 56 [.int .i64 a, .int .i64 b, .int .i64 c] [] = some (.bool (decide (b ≤ a) && decide (a ≤ c)), []) := by
  rw [run_eq, tab_56]
  by_cases h : b ≤ a <;> simp [m56, x56_0, q56_0_0, x56_1, q56_1_0, q56_1_1, h]

/-- the size of a record, cut -/
def szR (r : Rec) : Int := (if (5000 : Int) < r.key.length then (5000 : Int) else (r.key.length : Int)) + (if (5000 : Int) < r.value.length then (5000 : Int) else (r.value.length : Int))
def sumR : List Rec → Int
  | [] => 0
  | r :: l => szR r + sumR l
theorem szR_b (r : Rec) : 0 ≤ szR r ∧ szR r ≤ 10000 := by unfold szR; omega
theorem sumR_b (l : List Rec) : 0 ≤ sumR l ∧ sumR l ≤ 10000 * l.length := by
  induction l with
  | nil => simp [sumR]
  | cons r l ih => have := szR_b r; simp only [sumR, List.length_cons]; omega
theorem sumR_app (a b : List Rec) : sumR (a ++ b) = sumR a + sumR b := by
  induction a with
  | nil => simp [sumR]
  | cons r l ih => simp only [List.cons_append, sumR, ih]; omega
theorem sumR_take (l : List Rec) (i : Nat) (h : i < l.length) : sumR (l.take (i + 1)) = sumR (l.take i) + szR l[i] := by
  rw [List.take_succ_eq_append_getElem h, sumR_app]; simp [sumR]
theorem sumR_le {l : List Rec} {r : Rec} (h : r ∈ l) : szR r ≤ sumR l := by
  induction l with
  | nil => cases h
  | cons x l ih =>
    have := szR_b x
    have := sumR_b l
    simp only [sumR]
    rcases List.mem_cons.1 h with rfl | h
    · omega
    · have := ih h; omega
def greatB (b : Batch) : Bool := decide (60 < b.recs.length) || decide (4000 < sumR (b.recs.take 61))
def e10 (b : Batch) (i : Nat) : Env := [(1, .ptr 0 0), (3, .int .i64 (sumR (b.recs.take i))), (4, .int .i64 i)]
theorem t10 (b : Batch) (hl : b.recs.length ≤ 9223372036854775807) : run tab 10 [.agg (encB b)] [] = some (.bool (greatB b), []) := by
  rw [run_eq, tab_10]
  simp [m10, x10_0, q10_0_0, x10_1, q10_1_0, x10_2, q10_2_0, x10_3, q10_3_0, q10_3_1, x10_5, q10_5_0, q10_5_1, q10_5_2, q10_5_3, x10_4, q10_4_0, x10_6, q10_6_0, q10_6_1]
  simp only [Option.bind_assoc]
  refine (loop_cont (e10 b) (fun _ => [encB b]) (min b.recs.length 61) (fun _ => True) (fun _ => some (Dat.bool (greatB b), [])) trivial (fun _ => ?_) fun i hi _ => ?_)
  · have hb := sumR_b (b.recs.take (min b.recs.length 61))
    by_cases h : b.recs.length ≤ 60
    · have hm : min b.recs.length 61 = b.recs.length := by omega
      have h' : ¬ (60 : Int) < b.recs.length := by omega
      have h0 : ¬ 60 < b.recs.length := by omega
      have ht : b.recs.take 61 = b.recs := List.take_of_length_le (by omega)
      simp [l10_0, m10, x10_0, q10_0_0, x10_1, q10_1_0, x10_2, q10_2_0, x10_3, q10_3_0, q10_3_1, x10_5, q10_5_0, q10_5_1, q10_5_2, q10_5_3, x10_4, q10_4_0, x10_6, q10_6_0, q10_6_1, e10, hm, h0, h', greatB, ht]
    · have hm : min b.recs.length 61 = 61 := by omega
      have h' : (60 : Int) < b.recs.length := by omega
      have h0 : 60 < b.recs.length := by omega
      have h'' : (61 : Nat) ≤ b.recs.length := by omega
      by_cases h3 : b.recs.length = 61
      · simp [l10_0, m10, x10_0, q10_0_0, x10_1, q10_1_0, x10_2, q10_2_0, x10_3, q10_3_0, q10_3_1, x10_5, q10_5_0, q10_5_1, q10_5_2, q10_5_3, x10_4, q10_4_0, x10_6, q10_6_0, q10_6_1, e10, hm, h0, h', h3, greatB]
      · have h4 : (61 : Int) < b.recs.length := by omega
        simp [l10_0, m10, x10_0, q10_0_0, x10_1, q10_1_0, x10_2, q10_2_0, x10_3, q10_3_0, q10_3_1, x10_5, q10_5_0, q10_5_1, q10_5_2, q10_5_3, x10_4, q10_4_0, x10_6, q10_6_0, q10_6_1, e10, hm, h0, h', h4, greatB]
  · have h1 : i < b.recs.length := by omega
    have h2 : (i : Int) ≤ 60 := by omega
    have hw : IntKind.wrap .i64 ((i : Int) + 1) = i + 1 := wrap64 (by omega) (by omega)
    have hb := sumR_b (b.recs.take i)
    have hb2 : (b.recs.take i).length ≤ 61 := by rw [List.length_take]; omega
    have hw1 : IntKind.wrap .i64 (sumR (b.recs.take i) + (if (5000 : Int) < (b.recs[i]).key.length then (5000 : Int) else ((b.recs[i]).key.length : Int))) = sumR (b.recs.take i) + (if (5000 : Int) < (b.recs[i]).key.length then (5000 : Int) else ((b.recs[i]).key.length : Int)) := wrap64 (by omega) (by omega)
    have hw2 : IntKind.wrap .i64 ((sumR (b.recs.take i) + (if (5000 : Int) < (b.recs[i]).key.length then (5000 : Int) else ((b.recs[i]).key.length : Int))) + (if (5000 : Int) < (b.recs[i]).value.length then (5000 : Int) else ((b.recs[i]).value.length : Int))) = (sumR (b.recs.take i) + (if (5000 : Int) < (b.recs[i]).key.length then (5000 : Int) else ((b.recs[i]).key.length : Int))) + (if (5000 : Int) < (b.recs[i]).value.length then (5000 : Int) else ((b.recs[i]).value.length : Int)) := wrap64 (by omega) (by omega)
    have ht : sumR (b.recs.take (i + 1)) = sumR (b.recs.take i) + (if (5000 : Int) < (b.recs[i]).key.length then (5000 : Int) else ((b.recs[i]).key.length : Int)) + (if (5000 : Int) < (b.recs[i]).value.length then (5000 : Int) else ((b.recs[i]).value.length : Int)) := by
      rw [sumR_take b.recs i h1]; unfold szR; omega
    refine .inl ⟨?_, trivial, rfl⟩
    simp [l10_0, m10, x10_0, q10_0_0, x10_1, q10_1_0, x10_2, q10_2_0, x10_3, q10_3_0, q10_3_1, x10_5, q10_5_0, q10_5_1, q10_5_2, q10_5_3, x10_4, q10_4_0, x10_6, q10_6_0, q10_6_1, e10, h1, h2, hw, hw1, hw2, ht]
theorem greatB_not {b : Batch} (h : greatB b = false) : b.recs.length ≤ 60 ∧ ∀ r ∈ b.recs, r.key.length ≤ 4000 ∧ r.value.length ≤ 4000 := by
  simp [greatB] at h
  refine ⟨h.1, fun r hr => ?_⟩
  have h2 := h.2
  rw [List.take_of_length_le (by omega)] at h2
  have := sumR_le hr
  unfold szR at this
  omega
end Go.Mir.A
