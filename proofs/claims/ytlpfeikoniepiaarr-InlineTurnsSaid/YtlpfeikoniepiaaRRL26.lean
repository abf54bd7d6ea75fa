import Derived.Test.YtlpfeikoniepiaaRRL22
import Derived.Test.YtlpfeikoniepiaaRRP2
import Derived.Test.YtlpfeikoniepiaaRRMirSim
set_option linter.all false
namespace Go.Mir.A
attribute [local congr] bind_head
attribute [local simp] gc ofCells bindArgs resD St.get St.set Dat.underL Dat.underLL gc_self fillD elemsD rowsOk_nil rowsOk_cons rowsOk_app rowsOk_tk rowsOk_dp rowsOk_tl underLL_tl underLL_app underLL_tk underLL_dp nn1 nn2 take_rest take_full appD_nil Option.bind_some strip_undef strip1_undef norm_undef noTup_undef safe_undef cells_undef under_undef strip_int strip1_int norm_int noTup_int safe_int cells_int under_int strip_bool strip1_bool norm_bool noTup_bool safe_bool cells_bool under_bool strip_str strip1_str norm_str noTup_str safe_str cells_str under_str strip_agg strip1_agg norm_agg noTup_agg safe_agg cells_agg under_agg strip_tup strip1_tup norm_tup noTup_tup safe_tup cells_tup under_tup strip_slice strip1_slice norm_slice noTup_slice safe_slice cells_slice under_slice strip_nilp strip1_nilp norm_nilp noTup_nilp safe_nilp cells_nilp under_nilp strip_ptr strip1_ptr norm_ptr noTup_ptr safe_ptr cells_ptr under_ptr strip_rptr strip1_rptr norm_rptr noTup_rptr safe_rptr cells_rptr under_rptr strip_fn strip1_fn norm_fn noTup_fn safe_fn cells_fn under_fn strip_nilf strip1_nilf norm_nilf noTup_nilf safe_nilf cells_nilf under_nilf strip_iface strip1_iface norm_iface noTup_iface safe_iface cells_iface under_iface strip_nili strip1_nili norm_nili noTup_nili safe_nili cells_nili under_nili bin_add bin_sub bin_mul bin_quo bin_rem bin_eql bin_neq bin_lss bin_leq bin_gtr bin_geq bin_and bin_or bin_xor bin_andNot bin_shl bin_shr sbin_add sbin_eql sbin_neq sbin_lss sbin_leq sbin_gtr sbin_geq load_ptr load_rptr cellEq_int cellEq_bool cellEq_str cellsEq_nil cellsEq_cons rows_sl rows_str packD_one packD_nil packD_two leave_ret leave_normal leave_exit seqK_normal seqK_exit seqK_ret blockK_normal blockK_exit blockK_ret condK_bool exec_skip exec_exit exec_ret exec_loop exec_seq exec_block exec_cond ev_tmp ev_lit evs_nil evs_cons takeK_some take_tmp take_lit zk_eq keepK_some keepK_none keep_nil keep_cons putD_some putD_none put_eq get_nil get_cons steps_nil steps_cons step_none guardK_t guardK_f guardK_undef step_some pickV_bool eo_pick loadmV_ptr loadmV_rptr eo_loadm eo_load storeV_ptr eo_store storefV_ptr eo_storef clearK_ptr clearK_rptr clearK_none clear_eq nilCheckV_ptr nilCheckV_rptr nilCheckV_fn eo_nilCheck eqsV_agg eo_eqs eqbV_bool eo_eqb unV_neg unV_not eo_un convV_int eo_conv boundK_int bound_none bound_some sliceV_slice eo_slice substrV_str eo_substr fieldAddrV_ptr fieldAddrV_rptr eo_fieldAddr fieldV_agg eo_field indexV_slice eo_index indexArrV_ptr indexArrV_rptr eo_indexArr atV_str eo_at extractV_tup eo_extract extractnV_tup eo_extractn callV_fn eo_call callcV_fn eo_callc callrV_fn eo_callr callR_eq beq_st loadrV_rptr eo_loadr lenV_slice lenV_str eo_len appV_slice eo_append minV_int maxV_int eo_min2 eo_max2 eo_mov_t eo_mov_f eo_alloc eo_box eo_build eo_buildSlice eo_bin eo_mkfn callD_eq callC_eq encPs encP encB encS encR under_encP under_encS under_encR rowsOk_S rowsOk_P rowsOk_R
set_option linter.unusedSimpArgs false
set_option linter.unusedVariables false
set_option maxHeartbeats 1000000
set_option maxRecDepth 4000

theorem t16 (l : List Prod) (pid : Int) (hl : l.length ≤ 1000) : run tab 16 [encPs l, .int .i64 pid] [] = some (.slice false ((clearP l pid).map encP), []) := by
  have h20 := t20 l pid (by omega)
  simp at h20
  rw [run_eq, tab_16]
  rcases hf : findP l pid with ⟨p, known⟩
  simp [hf] at h20
  cases known with
  | false => simp [m16, x16_0, q16_0_0, x16_1, q16_1_0, q16_1_1, x16_2, q16_2_0, x16_3, q16_3_0, x16_4, q16_4_0, x16_5, q16_5_0, h20, esc_20, clearP, hf]
  | true =>
    have h33 := t33 l { p with seen := [] } hl
    simp at h33
    simp [m16, x16_0, q16_0_0, x16_1, q16_1_0, q16_1_1, x16_2, q16_2_0, x16_3, q16_3_0, x16_4, q16_4_0, x16_5, q16_5_0, h20, esc_20, clearP, hf, h33, esc_33]

def encTb (t : Tk) : List Dat := encB t.1
def encBs (t : Tk) : List Dat := [.int .i64 t.2]
theorem under_Tb (n : Nat) (l : List Tk) : Dat.underLL n (l.map encTb) = true := underLL_mk fun d hd => by
  obtain ⟨x, _, rfl⟩ := List.mem_map.1 hd
  simp [encTb, encB, Dat.underL, Dat.under, under_encR]
theorem under_Bs (n : Nat) (l : List Tk) : Dat.underLL n (l.map encBs) = true := underLL_mk fun d hd => by
  obtain ⟨x, _, rfl⟩ := List.mem_map.1 hd
  rfl
theorem rows_Tb (l : List Tk) : ∀ x ∈ l.map encTb, x.length = 5 := by
  intro x hx
  obtain ⟨p, _, rfl⟩ := List.mem_map.1 hx
  rfl
theorem rows_Bs (l : List Tk) : ∀ x ∈ l.map encBs, x.length = 1 := by
  intro x hx
  obtain ⟨p, _, rfl⟩ := List.mem_map.1 hx
  rfl
attribute [local simp] encTb encBs under_Tb under_Bs

def e18 (T : List Tk) (base : Int) (a : Nat × Nat) : Env := [(0, .slice false (T.map encTb)), (1, .slice false (T.map encBs)), (3, .int .i64 base), (6, .ptr 0 0), (9, .int .i64 a.2), (10, .int .i64 ((a.1 : Int) - 1))]
theorem t18 (T : List Tk) (b : Batch) (base : Int) (hl : T.length ≤ 1000) : run tab 18 [.slice false (T.map encTb), .slice false (T.map encBs), .agg (encB b), .int .i64 base] [] = some (.bool (dupR T.reverse b base 0), []) := by
  have hw0 : IntKind.wrap .i64 ((T.length : Int) - 1) = T.length - 1 := wrap64 (by omega) (by omega)
  rw [run_eq, tab_18]
  simp [m18, x18_0, q18_0_0, x18_1, q18_1_0, x18_2, q18_2_0, x18_3, q18_3_0, x18_5, q18_5_0, x18_6, q18_6_0, x18_7, q18_7_0, x18_8, q18_8_0, q18_8_1, x18_9, q18_9_0, x18_10, q18_10_0, q18_10_1, q18_10_2, x18_11, q18_11_0, q18_11_1, x18_4, q18_4_0, x18_12, q18_12_0, hw0]
  simp only [Option.bind_assoc]
  refine (loop_st (e18 T base) (fun _ => [encB b]) (fun a => a.1) (fun a => a.1 ≤ T.length ∧ a.1 + a.2 ≤ T.length) (fun a => some (Dat.bool (dupR (T.take a.1).reverse b base a.2), [])) (fun a ha => ?_) (T.length, 0) ⟨Nat.le_refl _, Nat.le_refl _⟩).trans (by simp)
  obtain ⟨j, n⟩ := a
  obtain ⟨h1, h2⟩ := ha
  simp only at h1 h2 ⊢
  cases j with
  | zero =>
    refine .inr ?_
    simp [l18_0, m18, x18_0, q18_0_0, x18_1, q18_1_0, x18_2, q18_2_0, x18_3, q18_3_0, x18_5, q18_5_0, x18_6, q18_6_0, x18_7, q18_7_0, x18_8, q18_8_0, q18_8_1, x18_9, q18_9_0, x18_10, q18_10_0, q18_10_1, q18_10_2, x18_11, q18_11_0, q18_11_1, x18_4, q18_4_0, x18_12, q18_12_0, e18, dupR]
  | succ j =>
    have hj : j < T.length := by omega
    have hwj : IntKind.wrap .i64 ((j : Int) - 1) = j - 1 := wrap64 (by omega) (by omega)
    have hwn : IntKind.wrap .i64 ((n : Int) + 1) = n + 1 := wrap64 (by omega) (by omega)
    have hr : (T.take (j + 1)).reverse = T[j] :: (T.take j).reverse := by rw [List.take_succ_eq_append_getElem hj, List.reverse_append]; rfl
    rw [hr, dupR]
    by_cases k1 : (T[j]).1.pid = b.pid
    · have k1' := eq_true k1
      by_cases k2 : 3 < n + 1
      · have k2' : (3 : Int) < (n : Int) + 1 := by omega
        refine .inr ?_
        simp [l18_0, m18, x18_0, q18_0_0, x18_1, q18_1_0, x18_2, q18_2_0, x18_3, q18_3_0, x18_5, q18_5_0, x18_6, q18_6_0, x18_7, q18_7_0, x18_8, q18_8_0, q18_8_1, x18_9, q18_9_0, x18_10, q18_10_0, q18_10_1, q18_10_2, x18_11, q18_11_0, q18_11_1, x18_4, q18_4_0, x18_12, q18_12_0, e18, hj, hwn, k1', k2, k2']
      · have k2' : ¬ (3 : Int) < (n : Int) + 1 := by omega
        by_cases k3 : (T[j]).1.epoch = b.epoch
        · have k3' := eq_true k3
          by_cases k4 : (T[j]).1.seq = b.seq
          · have k4' := eq_true k4
            by_cases k5 : (T[j]).1.recs.length = b.recs.length
            · have k5' := eq_true k5
              have k5'' : (((T[j]).1.recs.length : Int) = b.recs.length) = True := eq_true (by omega)
              refine .inr ?_
              simp [l18_0, m18, x18_0, q18_0_0, x18_1, q18_1_0, x18_2, q18_2_0, x18_3, q18_3_0, x18_5, q18_5_0, x18_6, q18_6_0, x18_7, q18_7_0, x18_8, q18_8_0, q18_8_1, x18_9, q18_9_0, x18_10, q18_10_0, q18_10_1, q18_10_2, x18_11, q18_11_0, q18_11_1, x18_4, q18_4_0, x18_12, q18_12_0, e18, hj, hwn, k1', k2, k2', k3', k4', k5', k5'']
            · have k5' := eq_false k5
              have k5'' : (((T[j]).1.recs.length : Int) = b.recs.length) = False := eq_false (by omega)
              refine .inl ⟨(j, n + 1), ?_, ⟨by omega, by omega⟩, by simp, ?_⟩
              · simp [l18_0, m18, x18_0, q18_0_0, x18_1, q18_1_0, x18_2, q18_2_0, x18_3, q18_3_0, x18_5, q18_5_0, x18_6, q18_6_0, x18_7, q18_7_0, x18_8, q18_8_0, q18_8_1, x18_9, q18_9_0, x18_10, q18_10_0, q18_10_1, q18_10_2, x18_11, q18_11_0, q18_11_1, x18_4, q18_4_0, x18_12, q18_12_0, e18, hj, hwn, hwj, k1', k2, k2', k3', k4', k5', k5'']
              · simp [k1', k2, k3', k4', k5']
          · have k4' := eq_false k4
            refine .inl ⟨(j, n + 1), ?_, ⟨by omega, by omega⟩, by simp, ?_⟩
            · simp [l18_0, m18, x18_0, q18_0_0, x18_1, q18_1_0, x18_2, q18_2_0, x18_3, q18_3_0, x18_5, q18_5_0, x18_6, q18_6_0, x18_7, q18_7_0, x18_8, q18_8_0, q18_8_1, x18_9, q18_9_0, x18_10, q18_10_0, q18_10_1, q18_10_2, x18_11, q18_11_0, q18_11_1, x18_4, q18_4_0, x18_12, q18_12_0, e18, hj, hwn, hwj, k1', k2, k2', k3', k4']
            · simp [k1', k2, k3', k4']
        · have k3' := eq_false k3
          refine .inr ?_
          simp [l18_0, m18, x18_0, q18_0_0, x18_1, q18_1_0, x18_2, q18_2_0, x18_3, q18_3_0, x18_5, q18_5_0, x18_6, q18_6_0, x18_7, q18_7_0, x18_8, q18_8_0, q18_8_1, x18_9, q18_9_0, x18_10, q18_10_0, q18_10_1, q18_10_2, x18_11, q18_11_0, q18_11_1, x18_4, q18_4_0, x18_12, q18_12_0, e18, hj, hwn, k1', k2, k2', k3']
    · have k1' := eq_false k1
      refine .inl ⟨(j, n), ?_, ⟨by omega, by omega⟩, by simp, ?_⟩
      · simp [l18_0, m18, x18_0, q18_0_0, x18_1, q18_1_0, x18_2, q18_2_0, x18_3, q18_3_0, x18_5, q18_5_0, x18_6, q18_6_0, x18_7, q18_7_0, x18_8, q18_8_0, q18_8_1, x18_9, q18_9_0, x18_10, q18_10_0, q18_10_1, q18_10_2, x18_11, q18_11_0, q18_11_1, x18_4, q18_4_0, x18_12, q18_12_0, e18, hj, hwj, k1']
      · simp [k1']
end Go.Mir.A
