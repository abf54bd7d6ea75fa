import Derived.Test.YtlpfeikoniepiaaRRL22
import Derived.Test.YtlpfeikoniepiaaRRLA
import Derived.Test.YtlpfeikoniepiaaRRMirSim
set_option linter.all false
namespace Go.Mir.A
attribute [local congr] bind_head
attribute [local simp] gc ofCells bindArgs resD St.get St.set Dat.underL Dat.underLL gc_self fillD elemsD rowsOk_nil rowsOk_cons rowsOk_app rowsOk_tk rowsOk_dp rowsOk_tl underLL_tl underLL_app underLL_tk underLL_dp nn1 nn2 take_rest take_full appD_nil Option.bind_some strip_undef strip1_undef norm_undef noTup_undef safe_undef cells_undef under_undef strip_int strip1_int norm_int noTup_int safe_int cells_int under_int strip_bool strip1_bool norm_bool noTup_bool safe_bool cells_bool under_bool strip_str strip1_str norm_str noTup_str safe_str cells_str under_str strip_agg strip1_agg norm_agg noTup_agg safe_agg cells_agg under_agg strip_tup strip1_tup norm_tup noTup_tup safe_tup cells_tup under_tup strip_slice strip1_slice norm_slice noTup_slice safe_slice cells_slice under_slice strip_nilp strip1_nilp norm_nilp noTup_nilp safe_nilp cells_nilp under_nilp strip_ptr strip1_ptr norm_ptr noTup_ptr safe_ptr cells_ptr under_ptr strip_rptr strip1_rptr norm_rptr noTup_rptr safe_rptr cells_rptr under_rptr strip_fn strip1_fn norm_fn noTup_fn safe_fn cells_fn under_fn strip_nilf strip1_nilf norm_nilf noTup_nilf safe_nilf cells_nilf under_nilf strip_iface strip1_iface norm_iface noTup_iface safe_iface cells_iface under_iface strip_nili strip1_nili norm_nili noTup_nili safe_nili cells_nili under_nili bin_add bin_sub bin_mul bin_quo bin_rem bin_eql bin_neq bin_lss bin_leq bin_gtr bin_geq bin_and bin_or bin_xor bin_andNot bin_shl bin_shr sbin_add sbin_eql sbin_neq sbin_lss sbin_leq sbin_gtr sbin_geq load_ptr load_rptr cellEq_int cellEq_bool cellEq_str cellsEq_nil cellsEq_cons rows_sl rows_str packD_one packD_nil packD_two leave_ret leave_normal leave_exit seqK_normal seqK_exit seqK_ret blockK_normal blockK_exit blockK_ret condK_bool exec_skip exec_exit exec_ret exec_loop exec_seq exec_block exec_cond ev_tmp ev_lit evs_nil evs_cons takeK_some take_tmp take_lit zk_eq keepK_some keepK_none keep_nil keep_cons putD_some putD_none put_eq get_nil get_cons steps_nil steps_cons step_none guardK_t guardK_f guardK_undef step_some pickV_bool eo_pick loadmV_ptr loadmV_rptr eo_loadm eo_load storeV_ptr eo_store storefV_ptr eo_storef clearK_ptr clearK_rptr clearK_none clear_eq nilCheckV_ptr nilCheckV_rptr nilCheckV_fn eo_nilCheck eqsV_agg eo_eqs eqbV_bool eo_eqb unV_neg unV_not eo_un convV_int eo_conv boundK_int bound_none bound_some sliceV_slice eo_slice substrV_str eo_substr fieldAddrV_ptr fieldAddrV_rptr eo_fieldAddr fieldV_agg eo_field indexV_slice eo_index indexArrV_ptr indexArrV_rptr eo_indexArr atV_str eo_at extractV_tup eo_extract extractnV_tup eo_extractn callV_fn eo_call callcV_fn eo_callc callrV_fn eo_callr callR_eq beq_st loadrV_rptr eo_loadr lenV_slice lenV_str eo_len appV_slice eo_append minV_int maxV_int eo_min2 eo_max2 eo_mov_t eo_mov_f eo_alloc eo_box eo_build eo_buildSlice eo_bin eo_mkfn callD_eq callC_eq encPs encP encB encS encR under_encP under_encS under_encR rowsOk_S rowsOk_P rowsOk_R
set_option linter.unusedSimpArgs false
set_option linter.unusedVariables false
set_option maxHeartbeats 1000000
set_option maxRecDepth 4000

def e59 (a b : List Seen) (i : Nat) : Env := [(0, .slice false (a.map encS)), (1, .slice false (b.map encS)), (12, .int .i64 a.length), (13, .int .i64 i)]
theorem t59 (a b : List Seen) (hl : a.length ≤ 9223372036854775807) : run tab 59 [.slice false (a.map encS), .slice false (b.map encS)] [] = some (.bool (decide (a.length = b.length) && sameSeen a b), []) := by
  rw [run_eq, tab_59]
  by_cases h4 : a.length = b.length
  · have h4' : ((a.length : Int) = b.length) = True := eq_true (by omega)
    simp [m59, x59_0, q59_0_0, x59_1, q59_1_0, x59_2, q59_2_0, x59_3, q59_3_0, x59_4, q59_4_0, x59_5, q59_5_0, x59_6, q59_6_0, q59_6_1, x59_7, q59_7_0, x59_8, q59_8_0, x59_9, q59_9_0, h4', eq_true h4]
    simp only [Option.bind_assoc]
    refine (loop_cont (e59 a b) (fun _ => []) a.length (fun _ => True) (fun i => some (Dat.bool (sameSeen (a.drop i) (b.drop i)), [])) trivial (fun _ => ?_) fun i hi _ => ?_)
    · rw [List.drop_length, h4, List.drop_length]
      simp [l59_0, m59, x59_0, q59_0_0, x59_1, q59_1_0, x59_2, q59_2_0, x59_3, q59_3_0, x59_4, q59_4_0, x59_5, q59_5_0, x59_6, q59_6_0, q59_6_1, x59_7, q59_7_0, x59_8, q59_8_0, x59_9, q59_9_0, e59, h4, sameSeen]
    · have hw : IntKind.wrap .i64 ((i : Int) + 1) = i + 1 := wrap64 (by omega) (by omega)
      have hi2 : i < b.length := by omega
      rw [List.drop_eq_getElem_cons hi, List.drop_eq_getElem_cons hi2]
      cases hs : sameS a[i] b[i] with
      | true =>
        have hs' := hs
        simp only [sameS] at hs'
        refine .inl ⟨?_, trivial, ?_⟩
        · simp [l59_0, m59, x59_0, q59_0_0, x59_1, q59_1_0, x59_2, q59_2_0, x59_3, q59_3_0, x59_4, q59_4_0, x59_5, q59_5_0, x59_6, q59_6_0, q59_6_1, x59_7, q59_7_0, x59_8, q59_8_0, x59_9, q59_9_0, e59, hi, hi2, hw, hs']
        · simp [sameSeen, hs]
      | false =>
        have hs' := hs
        simp only [sameS] at hs'
        refine .inr ?_
        simp [l59_0, m59, x59_0, q59_0_0, x59_1, q59_1_0, x59_2, q59_2_0, x59_3, q59_3_0, x59_4, q59_4_0, x59_5, q59_5_0, x59_6, q59_6_0, q59_6_1, x59_7, q59_7_0, x59_8, q59_8_0, x59_9, q59_9_0, e59, hi, hi2, hs', hs, sameSeen]
  · have h4' : ((a.length : Int) = b.length) = False := eq_false (by omega)
    simp [m59, x59_0, q59_0_0, x59_1, q59_1_0, x59_2, q59_2_0, x59_3, q59_3_0, x59_4, q59_4_0, x59_5, q59_5_0, x59_6, q59_6_0, q59_6_1, x59_7, q59_7_0, x59_8, q59_8_0, x59_9, q59_9_0, h4', h4]

theorem t45 (a b : Prod) (hl : a.seen.length ≤ 9223372036854775807) : run tab 45 [.agg (encP a), .agg (encP b)] [] = some (.bool (sameP a b), []) := by
  have h59 := t59 a.seen b.seen hl
  rw [run_eq, tab_45]
  by_cases h1 : a.pid = b.pid
  · by_cases h2 : a.epoch = b.epoch
    · by_cases h3 : a.next = b.next
      · simp [m45, x45_0, q45_0_0, x45_1, q45_1_0, q45_1_1, q45_1_2, q45_1_3, q45_1_4, eq_true h1, eq_true h2, eq_true h3, h59, esc_59, sameP]
      · simp [m45, x45_0, q45_0_0, x45_1, q45_1_0, q45_1_1, q45_1_2, q45_1_3, q45_1_4, eq_true h1, eq_true h2, h3, sameP]
    · simp [m45, x45_0, q45_0_0, x45_1, q45_1_0, q45_1_1, q45_1_2, q45_1_3, q45_1_4, eq_true h1, h2, sameP]
  · simp [m45, x45_0, q45_0_0, x45_1, q45_1_0, q45_1_1, q45_1_2, q45_1_3, q45_1_4, h1, sameP]

def e44 (a b : List Prod) (i : Nat) : Env := [(1, encPs b), (2, .fn 45 []), (15, encPs a), (16, .int .i64 a.length), (17, .int .i64 i)]
theorem t44 (a b : List Prod) (hl : a.length ≤ 9223372036854775807) (hs : ∀ p ∈ a, p.seen.length ≤ 9223372036854775807) : run tab 44 [encPs a, encPs b, .fn 45 []] [] = some (.bool (decide (a.length = b.length) && samePs a b), []) := by
  rw [run_eq, tab_44]
  by_cases h4 : a.length = b.length
  · have h4' : ((a.length : Int) = b.length) = True := eq_true (by omega)
    simp [m44, x44_0, q44_0_0, x44_1, q44_1_0, x44_2, q44_2_0, x44_3, q44_3_0, x44_4, q44_4_0, x44_5, q44_5_0, x44_6, q44_6_0, x44_7, q44_7_0, x44_8, q44_8_0, x44_9, q44_9_0, x44_10, q44_10_0, h4', eq_true h4]
    simp only [Option.bind_assoc]
    refine (loop_cont (e44 a b) (fun _ => []) a.length (fun _ => True) (fun i => some (Dat.bool (samePs (a.drop i) (b.drop i)), [])) trivial (fun _ => ?_) fun i hi _ => ?_)
    · rw [List.drop_length, h4, List.drop_length]
      simp [l44_0, m44, x44_0, q44_0_0, x44_1, q44_1_0, x44_2, q44_2_0, x44_3, q44_3_0, x44_4, q44_4_0, x44_5, q44_5_0, x44_6, q44_6_0, x44_7, q44_7_0, x44_8, q44_8_0, x44_9, q44_9_0, x44_10, q44_10_0, e44, h4, samePs]
    · have hw : IntKind.wrap .i64 ((i : Int) + 1) = i + 1 := wrap64 (by omega) (by omega)
      have hi2 : i < b.length := by omega
      have h45 := t45 a[i] b[i] (hs _ (List.getElem_mem hi))
      simp at h45
      rw [List.drop_eq_getElem_cons hi, List.drop_eq_getElem_cons hi2]
      cases hs : sameP a[i] b[i] with
      | true =>
        rw [hs] at h45
        refine .inl ⟨?_, trivial, ?_⟩
        · simp [l44_0, m44, x44_0, q44_0_0, x44_1, q44_1_0, x44_2, q44_2_0, x44_3, q44_3_0, x44_4, q44_4_0, x44_5, q44_5_0, x44_6, q44_6_0, x44_7, q44_7_0, x44_8, q44_8_0, x44_9, q44_9_0, x44_10, q44_10_0, e44, hi, hi2, hw, h45, esc_45]
        · simp [samePs, hs]
      | false =>
        rw [hs] at h45
        refine .inr ?_
        simp [l44_0, m44, x44_0, q44_0_0, x44_1, q44_1_0, x44_2, q44_2_0, x44_3, q44_3_0, x44_4, q44_4_0, x44_5, q44_5_0, x44_6, q44_6_0, x44_7, q44_7_0, x44_8, q44_8_0, x44_9, q44_9_0, x44_10, q44_10_0, e44, hi, hi2, h45, esc_45, hs, samePs]
  · have h4' : ((a.length : Int) = b.length) = False := eq_false (by omega)
    simp [m44, x44_0, q44_0_0, x44_1, q44_1_0, x44_2, q44_2_0, x44_3, q44_3_0, x44_4, q44_4_0, x44_5, q44_5_0, x44_6, q44_6_0, x44_7, q44_7_0, x44_8, q44_8_0, x44_9, q44_9_0, x44_10, q44_10_0, h4', h4]
theorem t21 (a b : List Prod) (hl : a.length ≤ 9223372036854775807) (hs : ∀ p ∈ a, p.seen.length ≤ 9223372036854775807) : run tab 21 [encPs a, encPs b] [] = some (.bool (decide (a.length = b.length) && samePs a b), []) := by
  have h44 := t44 a b hl hs
  simp at h44
  rw [run_eq, tab_21]
  simp [m21, x21_0, q21_0_0, x21_1, q21_1_0, h44, esc_44]
end Go.Mir.A
