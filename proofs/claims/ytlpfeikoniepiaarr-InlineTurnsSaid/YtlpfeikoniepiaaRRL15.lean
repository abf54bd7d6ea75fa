import Derived.Test.YtlpfeikoniepiaaRRLB
import Derived.Test.YtlpfeikoniepiaaRRMirSim
set_option linter.all false
namespace Go.Mir.A
attribute [local congr] bind_head
attribute [local simp] gc ofCells bindArgs resD St.get St.set Dat.underL Dat.underLL gc_self fillD elemsD rowsOk_nil rowsOk_cons rowsOk_app rowsOk_tk rowsOk_dp rowsOk_tl underLL_tl underLL_app underLL_tk underLL_dp nn1 nn2 take_rest take_full appD_nil Option.bind_some strip_undef strip1_undef norm_undef noTup_undef safe_undef cells_undef under_undef strip_int strip1_int norm_int noTup_int safe_int cells_int under_int strip_bool strip1_bool norm_bool noTup_bool safe_bool cells_bool under_bool strip_str strip1_str norm_str noTup_str safe_str cells_str under_str strip_agg strip1_agg norm_agg noTup_agg safe_agg cells_agg under_agg strip_tup strip1_tup norm_tup noTup_tup safe_tup cells_tup under_tup strip_slice strip1_slice norm_slice noTup_slice safe_slice cells_slice under_slice strip_nilp strip1_nilp norm_nilp noTup_nilp safe_nilp cells_nilp under_nilp strip_ptr strip1_ptr norm_ptr noTup_ptr safe_ptr cells_ptr under_ptr strip_rptr strip1_rptr norm_rptr noTup_rptr safe_rptr cells_rptr under_rptr strip_fn strip1_fn norm_fn noTup_fn safe_fn cells_fn under_fn strip_nilf strip1_nilf norm_nilf noTup_nilf safe_nilf cells_nilf under_nilf strip_iface strip1_iface norm_iface noTup_iface safe_iface cells_iface under_iface strip_nili strip1_nili norm_nili noTup_nili safe_nili cells_nili under_nili bin_add bin_sub bin_mul bin_quo bin_rem bin_eql bin_neq bin_lss bin_leq bin_gtr bin_geq bin_and bin_or bin_xor bin_andNot bin_shl bin_shr sbin_add sbin_eql sbin_neq sbin_lss sbin_leq sbin_gtr sbin_geq load_ptr load_rptr cellEq_int cellEq_bool cellEq_str cellsEq_nil cellsEq_cons rows_sl rows_str packD_one packD_nil packD_two leave_ret leave_normal leave_exit seqK_normal seqK_exit seqK_ret blockK_normal blockK_exit blockK_ret condK_bool exec_skip exec_exit exec_ret exec_loop exec_seq exec_block exec_cond ev_tmp ev_lit evs_nil evs_cons takeK_some take_tmp take_lit zk_eq keepK_some keepK_none keep_nil keep_cons putD_some putD_none put_eq get_nil get_cons steps_nil steps_cons step_none guardK_t guardK_f guardK_undef step_some pickV_bool eo_pick loadmV_ptr loadmV_rptr eo_loadm eo_load storeV_ptr eo_store storefV_ptr eo_storef clearK_ptr clearK_rptr clearK_none clear_eq nilCheckV_ptr nilCheckV_rptr nilCheckV_fn eo_nilCheck eqsV_agg eo_eqs eqbV_bool eo_eqb unV_neg unV_not eo_un convV_int eo_conv boundK_int bound_none bound_some sliceV_slice eo_slice substrV_str eo_substr fieldAddrV_ptr fieldAddrV_rptr eo_fieldAddr fieldV_agg eo_field indexV_slice eo_index indexArrV_ptr indexArrV_rptr eo_indexArr atV_str eo_at extractV_tup eo_extract extractnV_tup eo_extractn callV_fn eo_call callcV_fn eo_callc callrV_fn eo_callr callR_eq beq_st loadrV_rptr eo_loadr lenV_slice lenV_str eo_len appV_slice eo_append minV_int maxV_int eo_min2 eo_max2 eo_mov_t eo_mov_f eo_alloc eo_box eo_build eo_buildSlice eo_bin eo_mkfn callD_eq callC_eq encPs encP encB encS encR under_encP under_encS under_encR rowsOk_S rowsOk_P rowsOk_R
set_option linter.unusedSimpArgs false
set_option linter.unusedVariables false
set_option maxHeartbeats 1000000
set_option maxRecDepth 4000

def badR (r : Rec) : Bool := decide (16 < r.key.length) || decide (16 < r.value.length)
def mayB (b : Batch) : Bool := decide (1 ≤ b.pid) && (decide (b.pid ≤ 8) && (decide (0 ≤ b.epoch) && (decide (b.epoch ≤ 100) && (decide (0 ≤ b.seq) && (decide (1 ≤ b.recs.length) && (decide (b.recs.length ≤ 4) && (decide (b.seq + b.recs.length ≤ 1048576) && !b.recs.any badR)))))))
theorem mayB_of {b : Batch} (h : 1 ≤ b.pid ∧ b.pid ≤ 8 ∧ 0 ≤ b.epoch ∧ b.epoch ≤ 100 ∧ 0 ≤ b.seq ∧ 1 ≤ b.recs.length ∧ b.recs.length ≤ 4 ∧ b.seq + b.recs.length ≤ 1048576) : mayB b = !b.recs.any badR := by
  simp only [mayB, h, decide_true, Bool.true_and]
theorem mayB_not {b : Batch} (h : ¬ (1 ≤ b.pid ∧ b.pid ≤ 8 ∧ 0 ≤ b.epoch ∧ b.epoch ≤ 100 ∧ 0 ≤ b.seq ∧ 1 ≤ b.recs.length ∧ b.recs.length ≤ 4 ∧ b.seq + b.recs.length ≤ 1048576)) : mayB b = false := by
  rw [Bool.eq_false_iff]
  intro hm
  simp only [mayB, Bool.and_eq_true, decide_eq_true_eq] at hm
  omega
theorem drop_any (l : List Rec) (i : Nat) (h : i < l.length) : (l.drop i).any badR = (badR l[i] || (l.drop (i + 1)).any badR) := by
  rw [List.drop_eq_getElem_cons h, List.any_cons]

def e15 (i : Nat) : Env := [(1, .ptr 0 0), (3, .int .i64 i)]
theorem t15 (b : Batch) (hl : b.recs.length ≤ 1000) : run tab 15 [.agg (encB b)] [] = some (.bool (mayB b), []) := by
  rw [run_eq, tab_15]
  by_cases h1 : b.pid < 1
  · rw [mayB_not (by omega)]; simp [m15, x15_0, q15_0_0, x15_1, q15_1_0, q15_1_1, q15_1_2, q15_1_3, q15_1_4, q15_1_5, q15_1_6, q15_1_7, q15_1_8, x15_2, q15_2_0, x15_3, q15_3_0, x15_4, q15_4_0, x15_6, q15_6_0, q15_6_1, q15_6_2, x15_7, q15_7_0, x15_5, q15_5_0, x15_8, q15_8_0, h1]
  by_cases h2 : 8 < b.pid
  · rw [mayB_not (by omega)]; simp [m15, x15_0, q15_0_0, x15_1, q15_1_0, q15_1_1, q15_1_2, q15_1_3, q15_1_4, q15_1_5, q15_1_6, q15_1_7, q15_1_8, x15_2, q15_2_0, x15_3, q15_3_0, x15_4, q15_4_0, x15_6, q15_6_0, q15_6_1, q15_6_2, x15_7, q15_7_0, x15_5, q15_5_0, x15_8, q15_8_0, h1, h2]
  by_cases h3 : b.epoch < 0
  · rw [mayB_not (by omega)]; simp [m15, x15_0, q15_0_0, x15_1, q15_1_0, q15_1_1, q15_1_2, q15_1_3, q15_1_4, q15_1_5, q15_1_6, q15_1_7, q15_1_8, x15_2, q15_2_0, x15_3, q15_3_0, x15_4, q15_4_0, x15_6, q15_6_0, q15_6_1, q15_6_2, x15_7, q15_7_0, x15_5, q15_5_0, x15_8, q15_8_0, h1, h2, h3]
  by_cases h4 : 100 < b.epoch
  · rw [mayB_not (by omega)]; simp [m15, x15_0, q15_0_0, x15_1, q15_1_0, q15_1_1, q15_1_2, q15_1_3, q15_1_4, q15_1_5, q15_1_6, q15_1_7, q15_1_8, x15_2, q15_2_0, x15_3, q15_3_0, x15_4, q15_4_0, x15_6, q15_6_0, q15_6_1, q15_6_2, x15_7, q15_7_0, x15_5, q15_5_0, x15_8, q15_8_0, h1, h2, h3, h4]
  by_cases h5 : b.seq < 0
  · rw [mayB_not (by omega)]; simp [m15, x15_0, q15_0_0, x15_1, q15_1_0, q15_1_1, q15_1_2, q15_1_3, q15_1_4, q15_1_5, q15_1_6, q15_1_7, q15_1_8, x15_2, q15_2_0, x15_3, q15_3_0, x15_4, q15_4_0, x15_6, q15_6_0, q15_6_1, q15_6_2, x15_7, q15_7_0, x15_5, q15_5_0, x15_8, q15_8_0, h1, h2, h3, h4, h5]
  by_cases h6 : 1048576 < b.seq
  · rw [mayB_not (by omega)]; simp [m15, x15_0, q15_0_0, x15_1, q15_1_0, q15_1_1, q15_1_2, q15_1_3, q15_1_4, q15_1_5, q15_1_6, q15_1_7, q15_1_8, x15_2, q15_2_0, x15_3, q15_3_0, x15_4, q15_4_0, x15_6, q15_6_0, q15_6_1, q15_6_2, x15_7, q15_7_0, x15_5, q15_5_0, x15_8, q15_8_0, h1, h2, h3, h4, h5, h6]
  by_cases h7 : (b.recs.length : Int) < 1
  · rw [mayB_not (by omega)]; simp [m15, x15_0, q15_0_0, x15_1, q15_1_0, q15_1_1, q15_1_2, q15_1_3, q15_1_4, q15_1_5, q15_1_6, q15_1_7, q15_1_8, x15_2, q15_2_0, x15_3, q15_3_0, x15_4, q15_4_0, x15_6, q15_6_0, q15_6_1, q15_6_2, x15_7, q15_7_0, x15_5, q15_5_0, x15_8, q15_8_0, h1, h2, h3, h4, h5, h6, h7]
  by_cases h8 : 4 < (b.recs.length : Int)
  · rw [mayB_not (by omega)]; simp [m15, x15_0, q15_0_0, x15_1, q15_1_0, q15_1_1, q15_1_2, q15_1_3, q15_1_4, q15_1_5, q15_1_6, q15_1_7, q15_1_8, x15_2, q15_2_0, x15_3, q15_3_0, x15_4, q15_4_0, x15_6, q15_6_0, q15_6_1, q15_6_2, x15_7, q15_7_0, x15_5, q15_5_0, x15_8, q15_8_0, h1, h2, h3, h4, h5, h6, h7, h8]
  have hw : IntKind.wrap .i64 (b.seq + b.recs.length) = b.seq + b.recs.length := wrap64 (by omega) (by omega)
  by_cases h9 : 1048576 < b.seq + b.recs.length
  · rw [mayB_not (by omega)]; simp [m15, x15_0, q15_0_0, x15_1, q15_1_0, q15_1_1, q15_1_2, q15_1_3, q15_1_4, q15_1_5, q15_1_6, q15_1_7, q15_1_8, x15_2, q15_2_0, x15_3, q15_3_0, x15_4, q15_4_0, x15_6, q15_6_0, q15_6_1, q15_6_2, x15_7, q15_7_0, x15_5, q15_5_0, x15_8, q15_8_0, h1, h2, h3, h4, h5, h6, h7, h8, h9, hw]
  rw [mayB_of (by omega)]
  simp [m15, x15_0, q15_0_0, x15_1, q15_1_0, q15_1_1, q15_1_2, q15_1_3, q15_1_4, q15_1_5, q15_1_6, q15_1_7, q15_1_8, x15_2, q15_2_0, x15_3, q15_3_0, x15_4, q15_4_0, x15_6, q15_6_0, q15_6_1, q15_6_2, x15_7, q15_7_0, x15_5, q15_5_0, x15_8, q15_8_0, h1, h2, h3, h4, h5, h6, h7, h8, h9, hw]
  simp only [Option.bind_assoc]
  refine (loop_cont e15 (fun _ => [encB b]) b.recs.length (fun _ => True) (fun i => some (Dat.bool (!(b.recs.drop i).any badR), [])) trivial (fun _ => ?_) fun i hi _ => ?_)
  · simp [l15_0, m15, x15_0, q15_0_0, x15_1, q15_1_0, q15_1_1, q15_1_2, q15_1_3, q15_1_4, q15_1_5, q15_1_6, q15_1_7, q15_1_8, x15_2, q15_2_0, x15_3, q15_3_0, x15_4, q15_4_0, x15_6, q15_6_0, q15_6_1, q15_6_2, x15_7, q15_7_0, x15_5, q15_5_0, x15_8, q15_8_0, e15]
  · rw [drop_any _ _ hi]
    have hw : IntKind.wrap .i64 ((i : Int) + 1) = i + 1 := wrap64 (by omega) (by omega)
    by_cases k1 : (16 : Int) < (b.recs[i]).key.length
    · have k1' : 16 < (b.recs[i]).key.length := by omega
      refine .inr ?_
      simp [l15_0, m15, x15_0, q15_0_0, x15_1, q15_1_0, q15_1_1, q15_1_2, q15_1_3, q15_1_4, q15_1_5, q15_1_6, q15_1_7, q15_1_8, x15_2, q15_2_0, x15_3, q15_3_0, x15_4, q15_4_0, x15_6, q15_6_0, q15_6_1, q15_6_2, x15_7, q15_7_0, x15_5, q15_5_0, x15_8, q15_8_0, e15, hi, k1, k1', badR]
    · have k1' : ¬ 16 < (b.recs[i]).key.length := by omega
      by_cases k2 : (16 : Int) < (b.recs[i]).value.length
      · have k2' : 16 < (b.recs[i]).value.length := by omega
        refine .inr ?_
        simp [l15_0, m15, x15_0, q15_0_0, x15_1, q15_1_0, q15_1_1, q15_1_2, q15_1_3, q15_1_4, q15_1_5, q15_1_6, q15_1_7, q15_1_8, x15_2, q15_2_0, x15_3, q15_3_0, x15_4, q15_4_0, x15_6, q15_6_0, q15_6_1, q15_6_2, x15_7, q15_7_0, x15_5, q15_5_0, x15_8, q15_8_0, e15, hi, k1, k2, k1', k2', badR]
      · have k2' : ¬ 16 < (b.recs[i]).value.length := by omega
        refine .inl ⟨?_, trivial, ?_⟩
        · simp [l15_0, m15, x15_0, q15_0_0, x15_1, q15_1_0, q15_1_1, q15_1_2, q15_1_3, q15_1_4, q15_1_5, q15_1_6, q15_1_7, q15_1_8, x15_2, q15_2_0, x15_3, q15_3_0, x15_4, q15_4_0, x15_6, q15_6_0, q15_6_1, q15_6_2, x15_7, q15_7_0, x15_5, q15_5_0, x15_8, q15_8_0, e15, hi, k1, k2, k1', k2', badR, hw]
        · simp [badR, k1', k2']

def e38 (b : Batch) (i : Nat) : Env := [(29, .slice false (b.recs.map encR)), (30, .int .i64 b.recs.length), (31, .int .i64 i)]
theorem t38 (b : Batch) (hl : b.recs.length ≤ 1000) : run tab 38 [.agg (encB b)] [] = some (.bool (mayB b), []) := by
  rw [run_eq, tab_38]
  by_cases h1 : 1 ≤ b.pid ∧ b.pid ≤ 8
  · by_cases h2 : 0 ≤ b.epoch ∧ b.epoch ≤ 100
    · by_cases h3 : 1 ≤ (b.recs.length : Int) ∧ (b.recs.length : Int) ≤ 4
      · have hw : IntKind.wrap .i64 (1048576 - (b.recs.length : Int)) = 1048576 - b.recs.length := wrap64 (by omega) (by omega)
        by_cases h4 : 0 ≤ b.seq ∧ b.seq ≤ 1048576 - b.recs.length
        · rw [mayB_of (by omega)]
          simp [m38, x38_0, q38_0_0, x38_1, q38_1_0, x38_2, q38_2_0, x38_3, q38_3_0, x38_4, q38_4_0, x38_5, q38_5_0, q38_5_1, x38_6, q38_6_0, x38_7, q38_7_0, x38_8, q38_8_0, x38_9, q38_9_0, x38_10, q38_10_0, q38_10_1, x38_11, q38_11_0, x38_12, q38_12_0, x38_13, q38_13_0, h1, h2, h3, h4, hw, esc_56, t56]
          simp only [Option.bind_assoc]
          refine (loop_cont (e38 b) (fun _ => []) b.recs.length (fun _ => True) (fun i => some (Dat.bool (!(b.recs.drop i).any badR), [])) trivial (fun _ => ?_) fun i hi _ => ?_)
          · simp [l38_0, m38, x38_0, q38_0_0, x38_1, q38_1_0, x38_2, q38_2_0, x38_3, q38_3_0, x38_4, q38_4_0, x38_5, q38_5_0, q38_5_1, x38_6, q38_6_0, x38_7, q38_7_0, x38_8, q38_8_0, x38_9, q38_9_0, x38_10, q38_10_0, q38_10_1, x38_11, q38_11_0, x38_12, q38_12_0, x38_13, q38_13_0, e38]
          · rw [drop_any _ _ hi]
            have hw : IntKind.wrap .i64 ((i : Int) + 1) = i + 1 := wrap64 (by omega) (by omega)
            by_cases k1 : (16 : Int) < (b.recs[i]).key.length
            · have k1' : 16 < (b.recs[i]).key.length := by omega
              refine .inr ?_
              simp [l38_0, m38, x38_0, q38_0_0, x38_1, q38_1_0, x38_2, q38_2_0, x38_3, q38_3_0, x38_4, q38_4_0, x38_5, q38_5_0, q38_5_1, x38_6, q38_6_0, x38_7, q38_7_0, x38_8, q38_8_0, x38_9, q38_9_0, x38_10, q38_10_0, q38_10_1, x38_11, q38_11_0, x38_12, q38_12_0, x38_13, q38_13_0, e38, hi, k1, k1', badR]
            · have k1' : ¬ 16 < (b.recs[i]).key.length := by omega
              by_cases k2 : (16 : Int) < (b.recs[i]).value.length
              · have k2' : 16 < (b.recs[i]).value.length := by omega
                refine .inr ?_
                simp [l38_0, m38, x38_0, q38_0_0, x38_1, q38_1_0, x38_2, q38_2_0, x38_3, q38_3_0, x38_4, q38_4_0, x38_5, q38_5_0, q38_5_1, x38_6, q38_6_0, x38_7, q38_7_0, x38_8, q38_8_0, x38_9, q38_9_0, x38_10, q38_10_0, q38_10_1, x38_11, q38_11_0, x38_12, q38_12_0, x38_13, q38_13_0, e38, hi, k1, k2, k1', k2', badR]
              · have k2' : ¬ 16 < (b.recs[i]).value.length := by omega
                refine .inl ⟨?_, trivial, ?_⟩
                · simp [l38_0, m38, x38_0, q38_0_0, x38_1, q38_1_0, x38_2, q38_2_0, x38_3, q38_3_0, x38_4, q38_4_0, x38_5, q38_5_0, q38_5_1, x38_6, q38_6_0, x38_7, q38_7_0, x38_8, q38_8_0, x38_9, q38_9_0, x38_10, q38_10_0, q38_10_1, x38_11, q38_11_0, x38_12, q38_12_0, x38_13, q38_13_0, e38, hi, k1, k2, k1', k2', badR, hw]
                · simp [badR, k1', k2']
        · have h4' : (decide (0 ≤ b.seq) && decide (b.seq ≤ 1048576 - b.recs.length)) = false := by simp; omega
          rw [mayB_not (by omega)]
          simp [m38, x38_0, q38_0_0, x38_1, q38_1_0, x38_2, q38_2_0, x38_3, q38_3_0, x38_4, q38_4_0, x38_5, q38_5_0, q38_5_1, x38_6, q38_6_0, x38_7, q38_7_0, x38_8, q38_8_0, x38_9, q38_9_0, x38_10, q38_10_0, q38_10_1, x38_11, q38_11_0, x38_12, q38_12_0, x38_13, q38_13_0, h1, h2, h3, h4', hw, esc_56, t56]
      · have h3' : (decide (1 ≤ (b.recs.length : Int)) && decide ((b.recs.length : Int) ≤ 4)) = false := by simp; omega
        rw [mayB_not (by omega)]
        simp [m38, x38_0, q38_0_0, x38_1, q38_1_0, x38_2, q38_2_0, x38_3, q38_3_0, x38_4, q38_4_0, x38_5, q38_5_0, q38_5_1, x38_6, q38_6_0, x38_7, q38_7_0, x38_8, q38_8_0, x38_9, q38_9_0, x38_10, q38_10_0, q38_10_1, x38_11, q38_11_0, x38_12, q38_12_0, x38_13, q38_13_0, h1, h2, h3', esc_56, t56]
    · have h2' : (decide (0 ≤ b.epoch) && decide (b.epoch ≤ 100)) = false := by simp; omega
      rw [mayB_not (by omega)]
      simp [m38, x38_0, q38_0_0, x38_1, q38_1_0, x38_2, q38_2_0, x38_3, q38_3_0, x38_4, q38_4_0, x38_5, q38_5_0, q38_5_1, x38_6, q38_6_0, x38_7, q38_7_0, x38_8, q38_8_0, x38_9, q38_9_0, x38_10, q38_10_0, q38_10_1, x38_11, q38_11_0, x38_12, q38_12_0, x38_13, q38_13_0, h1, h2', esc_56, t56]
  · have h1' : (decide (1 ≤ b.pid) && decide (b.pid ≤ 8)) = false := by simp; omega
    rw [mayB_not (by omega)]
    simp [m38, x38_0, q38_0_0, x38_1, q38_1_0, x38_2, q38_2_0, x38_3, q38_3_0, x38_4, q38_4_0, x38_5, q38_5_0, q38_5_1, x38_6, q38_6_0, x38_7, q38_7_0, x38_8, q38_8_0, x38_9, q38_9_0, x38_10, q38_10_0, q38_10_1, x38_11, q38_11_0, x38_12, q38_12_0, x38_13, q38_13_0, h1', esc_56, t56]
end Go.Mir.A
