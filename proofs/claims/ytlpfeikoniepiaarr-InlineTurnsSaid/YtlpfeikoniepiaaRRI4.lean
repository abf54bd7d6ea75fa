import Derived.Test.YtlpfeikoniepiaaRRIA
set_option linter.all false
namespace Go.Mir.A
attribute [local congr] bind_head
attribute [local simp] encW encO encPt encE under_encB under_encW under_encO under_encE rowsOk_B rowsOk_W rowsOk_O rowsOk_E gc ofCells bindArgs resD St.get St.set Dat.underL Dat.underLL gc_self fillD elemsD rowsOk_nil rowsOk_cons rowsOk_app rowsOk_tk rowsOk_dp rowsOk_tl underLL_tl underLL_app underLL_tk underLL_dp nn1 nn2 take_rest take_full appD_nil Option.bind_some strip_undef strip1_undef norm_undef noTup_undef safe_undef cells_undef under_undef strip_int strip1_int norm_int noTup_int safe_int cells_int under_int strip_bool strip1_bool norm_bool noTup_bool safe_bool cells_bool under_bool strip_str strip1_str norm_str noTup_str safe_str cells_str under_str strip_agg strip1_agg norm_agg noTup_agg safe_agg cells_agg under_agg strip_tup strip1_tup norm_tup noTup_tup safe_tup cells_tup under_tup strip_slice strip1_slice norm_slice noTup_slice safe_slice cells_slice under_slice strip_nilp strip1_nilp norm_nilp noTup_nilp safe_nilp cells_nilp under_nilp strip_ptr strip1_ptr norm_ptr noTup_ptr safe_ptr cells_ptr under_ptr strip_rptr strip1_rptr norm_rptr noTup_rptr safe_rptr cells_rptr under_rptr strip_fn strip1_fn norm_fn noTup_fn safe_fn cells_fn under_fn strip_nilf strip1_nilf norm_nilf noTup_nilf safe_nilf cells_nilf under_nilf strip_iface strip1_iface norm_iface noTup_iface safe_iface cells_iface under_iface strip_nili strip1_nili norm_nili noTup_nili safe_nili cells_nili under_nili bin_add bin_sub bin_mul bin_quo bin_rem bin_eql bin_neq bin_lss bin_leq bin_gtr bin_geq bin_and bin_or bin_xor bin_andNot bin_shl bin_shr sbin_add sbin_eql sbin_neq sbin_lss sbin_leq sbin_gtr sbin_geq load_ptr load_rptr cellEq_int cellEq_bool cellEq_str cellsEq_nil cellsEq_cons rows_sl rows_str packD_one packD_nil packD_two leave_ret leave_normal leave_exit seqK_normal seqK_exit seqK_ret blockK_normal blockK_exit blockK_ret condK_bool exec_skip exec_exit exec_ret exec_loop exec_seq exec_block exec_cond ev_tmp ev_lit evs_nil evs_cons takeK_some take_tmp take_lit zk_eq keepK_some keepK_none keep_nil keep_cons putD_some putD_none put_eq get_nil get_cons steps_nil steps_cons step_none guardK_t guardK_f guardK_undef step_some pickV_bool eo_pick loadmV_ptr loadmV_rptr eo_loadm eo_load storeV_ptr eo_store storefV_ptr eo_storef clearK_ptr clearK_rptr clearK_none clear_eq nilCheckV_ptr nilCheckV_rptr nilCheckV_fn eo_nilCheck eqsV_agg eo_eqs eqbV_bool eo_eqb unV_neg unV_not eo_un convV_int eo_conv boundK_int bound_none bound_some sliceV_slice eo_slice substrV_str eo_substr fieldAddrV_ptr fieldAddrV_rptr eo_fieldAddr fieldV_agg eo_field indexV_slice eo_index indexArrV_ptr indexArrV_rptr eo_indexArr atV_str eo_at extractV_tup eo_extract extractnV_tup eo_extractn callV_fn eo_call callcV_fn eo_callc callrV_fn eo_callr callR_eq beq_st loadrV_rptr eo_loadr lenV_slice lenV_str eo_len appV_slice eo_append minV_int maxV_int eo_min2 eo_max2 eo_mov_t eo_mov_f eo_alloc eo_box eo_build eo_buildSlice eo_bin eo_mkfn callD_eq callC_eq encPs encP encB encS encR under_encP under_encS under_encR rowsOk_S rowsOk_P rowsOk_R
set_option linter.unusedSimpArgs false
set_option linter.unusedVariables false
set_option maxHeartbeats 1000000
set_option maxRecDepth 4000

def okPid (a b : Int) : Bool := decide (1 ≤ a) && decide (a ≤ 8) && decide (0 ≤ b) && decide (b ≤ 100)
def okIn (n lo hi : Int) : Bool := decide (lo ≤ n) && decide (n ≤ hi)
def mayK (x : Entry) : Bool :=
  if x.kind = 3 then x.b.txn && (okIn x.nxt 0 1048576 && mayB x.b)
  else if x.kind = 0 then mayB x.b
  else if x.kind = 4 then okIn x.nxt 0 1048576 && okPid x.b.pid x.b.epoch
  else if x.kind = 1 then okPid x.b.pid x.b.epoch
  else if x.kind = 2 then okIn x.off 0 1048576
  else if x.kind = 5 then okPid x.row.pid 0 && (okIn x.row.seq 0 1048575 && (decide (x.row.key.length ≤ 16) && decide (x.row.value.length ≤ 16)))
  else knownP x.prod
def mayE (x : Entry) : Bool := decide (0 ≤ x.kind) && (decide (x.kind ≤ 6) && (sameE x (keptE x) && mayK x))
theorem t64 (x : Entry) (hl : x.b.recs.length ≤ 1000) (hs : x.prod.seen.length ≤ 9223372036854775807) : run tab 64 [.agg (encE x)] [] = some (.bool (mayE x), []) := by
  rw [run_eq, tab_64]
  by_cases k1 : x.kind < 0
  · have k1' : ¬ 0 ≤ x.kind := by omega
    simp [m64, x64_0, q64_0_0, x64_1, q64_1_0, q64_1_1, q64_1_2, x64_2, q64_2_0, x64_3, q64_3_0, x64_4, q64_4_0, x64_5, q64_5_0, x64_6, q64_6_0, x64_7, q64_7_0, x64_8, q64_8_0, x64_9, q64_9_0, x64_10, q64_10_0, q64_10_1, x64_11, q64_11_0, x64_12, q64_12_0, x64_13, q64_13_0, x64_14, q64_14_0, x64_15, q64_15_0, q64_15_1, x64_16, q64_16_0, x64_17, q64_17_0, x64_18, q64_18_0, q64_18_1, q64_18_2, q64_18_3, q64_18_4, x64_19, q64_19_0, k1, k1', mayE]
  by_cases k2 : 6 < x.kind
  · have k2' : ¬ x.kind ≤ 6 := by omega
    simp [m64, x64_0, q64_0_0, x64_1, q64_1_0, q64_1_1, q64_1_2, x64_2, q64_2_0, x64_3, q64_3_0, x64_4, q64_4_0, x64_5, q64_5_0, x64_6, q64_6_0, x64_7, q64_7_0, x64_8, q64_8_0, x64_9, q64_9_0, x64_10, q64_10_0, q64_10_1, x64_11, q64_11_0, x64_12, q64_12_0, x64_13, q64_13_0, x64_14, q64_14_0, x64_15, q64_15_0, q64_15_1, x64_16, q64_16_0, x64_17, q64_17_0, x64_18, q64_18_0, q64_18_1, q64_18_2, q64_18_3, q64_18_4, x64_19, q64_19_0, k1, k2, k2', mayE]
  have h77 := t77 x ⟨by omega, by omega⟩
  have h76 := t76 x (keptE x) (by omega) hs
  cases hsm : sameE x (keptE x) with
  | false =>
    rw [hsm] at h76
    simp at h77 h76
    simp [m64, x64_0, q64_0_0, x64_1, q64_1_0, q64_1_1, q64_1_2, x64_2, q64_2_0, x64_3, q64_3_0, x64_4, q64_4_0, x64_5, q64_5_0, x64_6, q64_6_0, x64_7, q64_7_0, x64_8, q64_8_0, x64_9, q64_9_0, x64_10, q64_10_0, q64_10_1, x64_11, q64_11_0, x64_12, q64_12_0, x64_13, q64_13_0, x64_14, q64_14_0, x64_15, q64_15_0, q64_15_1, x64_16, q64_16_0, x64_17, q64_17_0, x64_18, q64_18_0, q64_18_1, q64_18_2, q64_18_3, q64_18_4, x64_19, q64_19_0, k1, k2, h77, esc_77, h76, esc_76, mayE, hsm]
  | true =>
    rw [hsm] at h76
    have h38 := t38 x.b hl
    have h41 := t41 x.prod hs
    obtain ⟨kind, b, yes, nxt, off, row, prod⟩ := x
    simp only at k1 k2 h77 h76 hsm h38 h41
    have : kind = 0 ∨ kind = 1 ∨ kind = 2 ∨ kind = 3 ∨ kind = 4 ∨ kind = 5 ∨ kind = 6 := by omega
    rcases this with rfl | rfl | rfl | rfl | rfl | rfl | rfl
    · simp at h77 h76 h38
      simp [m64, x64_0, q64_0_0, x64_1, q64_1_0, q64_1_1, q64_1_2, x64_2, q64_2_0, x64_3, q64_3_0, x64_4, q64_4_0, x64_5, q64_5_0, x64_6, q64_6_0, x64_7, q64_7_0, x64_8, q64_8_0, x64_9, q64_9_0, x64_10, q64_10_0, q64_10_1, x64_11, q64_11_0, x64_12, q64_12_0, x64_13, q64_13_0, x64_14, q64_14_0, x64_15, q64_15_0, q64_15_1, x64_16, q64_16_0, x64_17, q64_17_0, x64_18, q64_18_0, q64_18_1, q64_18_2, q64_18_3, q64_18_4, x64_19, q64_19_0, h77, esc_77, h76, esc_76, mayE, mayK, hsm, h38, esc_38]
    · simp at h77 h76
      simp [m64, x64_0, q64_0_0, x64_1, q64_1_0, q64_1_1, q64_1_2, x64_2, q64_2_0, x64_3, q64_3_0, x64_4, q64_4_0, x64_5, q64_5_0, x64_6, q64_6_0, x64_7, q64_7_0, x64_8, q64_8_0, x64_9, q64_9_0, x64_10, q64_10_0, q64_10_1, x64_11, q64_11_0, x64_12, q64_12_0, x64_13, q64_13_0, x64_14, q64_14_0, x64_15, q64_15_0, q64_15_1, x64_16, q64_16_0, x64_17, q64_17_0, x64_18, q64_18_0, q64_18_1, q64_18_2, q64_18_3, q64_18_4, x64_19, q64_19_0, h77, esc_77, h76, esc_76, mayE, mayK, hsm, esc_57, t57, okPid, Bool.and_assoc]
    · simp at h77 h76
      simp [m64, x64_0, q64_0_0, x64_1, q64_1_0, q64_1_1, q64_1_2, x64_2, q64_2_0, x64_3, q64_3_0, x64_4, q64_4_0, x64_5, q64_5_0, x64_6, q64_6_0, x64_7, q64_7_0, x64_8, q64_8_0, x64_9, q64_9_0, x64_10, q64_10_0, q64_10_1, x64_11, q64_11_0, x64_12, q64_12_0, x64_13, q64_13_0, x64_14, q64_14_0, x64_15, q64_15_0, q64_15_1, x64_16, q64_16_0, x64_17, q64_17_0, x64_18, q64_18_0, q64_18_1, q64_18_2, q64_18_3, q64_18_4, x64_19, q64_19_0, h77, esc_77, h76, esc_76, mayE, mayK, hsm, esc_58, t58, okIn]
    · simp at h77 h76 h38
      cases htx : b.txn with
      | false =>
        rw [htx] at h77 h76
        simp [m64, x64_0, q64_0_0, x64_1, q64_1_0, q64_1_1, q64_1_2, x64_2, q64_2_0, x64_3, q64_3_0, x64_4, q64_4_0, x64_5, q64_5_0, x64_6, q64_6_0, x64_7, q64_7_0, x64_8, q64_8_0, x64_9, q64_9_0, x64_10, q64_10_0, q64_10_1, x64_11, q64_11_0, x64_12, q64_12_0, x64_13, q64_13_0, x64_14, q64_14_0, x64_15, q64_15_0, q64_15_1, x64_16, q64_16_0, x64_17, q64_17_0, x64_18, q64_18_0, q64_18_1, q64_18_2, q64_18_3, q64_18_4, x64_19, q64_19_0, h77, esc_77, h76, esc_76, mayE, mayK, hsm, htx]
      | true =>
        rw [htx] at h77 h76 h38
        cases hin : okIn nxt 0 1048576 with
        | false =>
          have hin' := hin
          unfold okIn at hin'
          simp [m64, x64_0, q64_0_0, x64_1, q64_1_0, q64_1_1, q64_1_2, x64_2, q64_2_0, x64_3, q64_3_0, x64_4, q64_4_0, x64_5, q64_5_0, x64_6, q64_6_0, x64_7, q64_7_0, x64_8, q64_8_0, x64_9, q64_9_0, x64_10, q64_10_0, q64_10_1, x64_11, q64_11_0, x64_12, q64_12_0, x64_13, q64_13_0, x64_14, q64_14_0, x64_15, q64_15_0, q64_15_1, x64_16, q64_16_0, x64_17, q64_17_0, x64_18, q64_18_0, q64_18_1, q64_18_2, q64_18_3, q64_18_4, x64_19, q64_19_0, h77, esc_77, h76, esc_76, mayE, mayK, hsm, htx, esc_58, t58, hin, hin']
        | true =>
          have hin' := hin
          unfold okIn at hin'
          simp [m64, x64_0, q64_0_0, x64_1, q64_1_0, q64_1_1, q64_1_2, x64_2, q64_2_0, x64_3, q64_3_0, x64_4, q64_4_0, x64_5, q64_5_0, x64_6, q64_6_0, x64_7, q64_7_0, x64_8, q64_8_0, x64_9, q64_9_0, x64_10, q64_10_0, q64_10_1, x64_11, q64_11_0, x64_12, q64_12_0, x64_13, q64_13_0, x64_14, q64_14_0, x64_15, q64_15_0, q64_15_1, x64_16, q64_16_0, x64_17, q64_17_0, x64_18, q64_18_0, q64_18_1, q64_18_2, q64_18_3, q64_18_4, x64_19, q64_19_0, h77, esc_77, h76, esc_76, mayE, mayK, hsm, htx, esc_58, t58, hin, hin', h38, esc_38]
    · simp at h77 h76
      cases hin : okIn nxt 0 1048576 with
      | false =>
        have hin' := hin
        unfold okIn at hin'
        simp [m64, x64_0, q64_0_0, x64_1, q64_1_0, q64_1_1, q64_1_2, x64_2, q64_2_0, x64_3, q64_3_0, x64_4, q64_4_0, x64_5, q64_5_0, x64_6, q64_6_0, x64_7, q64_7_0, x64_8, q64_8_0, x64_9, q64_9_0, x64_10, q64_10_0, q64_10_1, x64_11, q64_11_0, x64_12, q64_12_0, x64_13, q64_13_0, x64_14, q64_14_0, x64_15, q64_15_0, q64_15_1, x64_16, q64_16_0, x64_17, q64_17_0, x64_18, q64_18_0, q64_18_1, q64_18_2, q64_18_3, q64_18_4, x64_19, q64_19_0, h77, esc_77, h76, esc_76, mayE, mayK, hsm, esc_58, t58, hin, hin']
      | true =>
        have hin' := hin
        unfold okIn at hin'
        simp [m64, x64_0, q64_0_0, x64_1, q64_1_0, q64_1_1, q64_1_2, x64_2, q64_2_0, x64_3, q64_3_0, x64_4, q64_4_0, x64_5, q64_5_0, x64_6, q64_6_0, x64_7, q64_7_0, x64_8, q64_8_0, x64_9, q64_9_0, x64_10, q64_10_0, q64_10_1, x64_11, q64_11_0, x64_12, q64_12_0, x64_13, q64_13_0, x64_14, q64_14_0, x64_15, q64_15_0, q64_15_1, x64_16, q64_16_0, x64_17, q64_17_0, x64_18, q64_18_0, q64_18_1, q64_18_2, q64_18_3, q64_18_4, x64_19, q64_19_0, h77, esc_77, h76, esc_76, mayE, mayK, hsm, esc_58, t58, hin, hin', esc_57, t57, okPid, Bool.and_assoc]
    · simp at h77 h76
      cases hp : okPid row.pid 0 with
      | false =>
        have hp' := hp
        unfold okPid at hp'
        simp only [Int.reduceLE, decide_true, Bool.and_true] at hp'
        simp [m64, x64_0, q64_0_0, x64_1, q64_1_0, q64_1_1, q64_1_2, x64_2, q64_2_0, x64_3, q64_3_0, x64_4, q64_4_0, x64_5, q64_5_0, x64_6, q64_6_0, x64_7, q64_7_0, x64_8, q64_8_0, x64_9, q64_9_0, x64_10, q64_10_0, q64_10_1, x64_11, q64_11_0, x64_12, q64_12_0, x64_13, q64_13_0, x64_14, q64_14_0, x64_15, q64_15_0, q64_15_1, x64_16, q64_16_0, x64_17, q64_17_0, x64_18, q64_18_0, q64_18_1, q64_18_2, q64_18_3, q64_18_4, x64_19, q64_19_0, h77, esc_77, h76, esc_76, mayE, mayK, hsm, esc_57, t57, hp, hp']
      | true =>
        have hp' := hp
        unfold okPid at hp'
        simp only [Int.reduceLE, decide_true, Bool.and_true] at hp'
        cases hin : okIn row.seq 0 1048575 with
        | false =>
          have hin' := hin
          unfold okIn at hin'
          simp [m64, x64_0, q64_0_0, x64_1, q64_1_0, q64_1_1, q64_1_2, x64_2, q64_2_0, x64_3, q64_3_0, x64_4, q64_4_0, x64_5, q64_5_0, x64_6, q64_6_0, x64_7, q64_7_0, x64_8, q64_8_0, x64_9, q64_9_0, x64_10, q64_10_0, q64_10_1, x64_11, q64_11_0, x64_12, q64_12_0, x64_13, q64_13_0, x64_14, q64_14_0, x64_15, q64_15_0, q64_15_1, x64_16, q64_16_0, x64_17, q64_17_0, x64_18, q64_18_0, q64_18_1, q64_18_2, q64_18_3, q64_18_4, x64_19, q64_19_0, h77, esc_77, h76, esc_76, mayE, mayK, hsm, esc_57, t57, hp, hp', esc_58, t58, hin, hin']
        | true =>
          have hin' := hin
          unfold okIn at hin'
          by_cases hk : row.key.length ≤ 16
          · have hk' : (row.key.length : Int) ≤ 16 := by omega
            have hv : decide ((row.value.length : Int) ≤ 16) = decide (row.value.length ≤ 16) := decide_eq_decide.2 (by omega)
            simp [m64, x64_0, q64_0_0, x64_1, q64_1_0, q64_1_1, q64_1_2, x64_2, q64_2_0, x64_3, q64_3_0, x64_4, q64_4_0, x64_5, q64_5_0, x64_6, q64_6_0, x64_7, q64_7_0, x64_8, q64_8_0, x64_9, q64_9_0, x64_10, q64_10_0, q64_10_1, x64_11, q64_11_0, x64_12, q64_12_0, x64_13, q64_13_0, x64_14, q64_14_0, x64_15, q64_15_0, q64_15_1, x64_16, q64_16_0, x64_17, q64_17_0, x64_18, q64_18_0, q64_18_1, q64_18_2, q64_18_3, q64_18_4, x64_19, q64_19_0, h77, esc_77, h76, esc_76, mayE, mayK, hsm, esc_57, t57, hp, hp', esc_58, t58, hin, hin', hk, hk', hv]
          · have hk' : ¬ (row.key.length : Int) ≤ 16 := by omega
            simp [m64, x64_0, q64_0_0, x64_1, q64_1_0, q64_1_1, q64_1_2, x64_2, q64_2_0, x64_3, q64_3_0, x64_4, q64_4_0, x64_5, q64_5_0, x64_6, q64_6_0, x64_7, q64_7_0, x64_8, q64_8_0, x64_9, q64_9_0, x64_10, q64_10_0, q64_10_1, x64_11, q64_11_0, x64_12, q64_12_0, x64_13, q64_13_0, x64_14, q64_14_0, x64_15, q64_15_0, q64_15_1, x64_16, q64_16_0, x64_17, q64_17_0, x64_18, q64_18_0, q64_18_1, q64_18_2, q64_18_3, q64_18_4, x64_19, q64_19_0, h77, esc_77, h76, esc_76, mayE, mayK, hsm, esc_57, t57, hp, hp', esc_58, t58, hin, hin', hk, hk']
    · simp at h77 h76 h41
      simp [m64, x64_0, q64_0_0, x64_1, q64_1_0, q64_1_1, q64_1_2, x64_2, q64_2_0, x64_3, q64_3_0, x64_4, q64_4_0, x64_5, q64_5_0, x64_6, q64_6_0, x64_7, q64_7_0, x64_8, q64_8_0, x64_9, q64_9_0, x64_10, q64_10_0, q64_10_1, x64_11, q64_11_0, x64_12, q64_12_0, x64_13, q64_13_0, x64_14, q64_14_0, x64_15, q64_15_0, q64_15_1, x64_16, q64_16_0, x64_17, q64_17_0, x64_18, q64_18_0, q64_18_1, q64_18_2, q64_18_3, q64_18_4, x64_19, q64_19_0, h77, esc_77, h76, esc_76, mayE, mayK, hsm, h41, esc_41]
end Go.Mir.A
