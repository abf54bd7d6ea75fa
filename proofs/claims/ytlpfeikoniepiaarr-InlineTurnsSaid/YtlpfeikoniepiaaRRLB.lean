import Derived.Test.YtlpfeikoniepiaaRRLA
import Derived.Test.YtlpfeikoniepiaaRRMirSim
set_option linter.all false
namespace Go.Mir.A
attribute [local congr] bind_head
attribute [local simp] gc ofCells bindArgs resD St.get St.set Dat.underL Dat.underLL gc_self fillD elemsD rowsOk_nil rowsOk_cons rowsOk_app rowsOk_tk rowsOk_dp rowsOk_tl underLL_tl underLL_app underLL_tk underLL_dp nn1 nn2 take_rest take_full appD_nil Option.bind_some strip_undef strip1_undef norm_undef noTup_undef safe_undef cells_undef under_undef strip_int strip1_int norm_int noTup_int safe_int cells_int under_int strip_bool strip1_bool norm_bool noTup_bool safe_bool cells_bool under_bool strip_str strip1_str norm_str noTup_str safe_str cells_str under_str strip_agg strip1_agg norm_agg noTup_agg safe_agg cells_agg under_agg strip_tup strip1_tup norm_tup noTup_tup safe_tup cells_tup under_tup strip_slice strip1_slice norm_slice noTup_slice safe_slice cells_slice under_slice strip_nilp strip1_nilp norm_nilp noTup_nilp safe_nilp cells_nilp under_nilp strip_ptr strip1_ptr norm_ptr noTup_ptr safe_ptr cells_ptr under_ptr strip_rptr strip1_rptr norm_rptr noTup_rptr safe_rptr cells_rptr under_rptr strip_fn strip1_fn norm_fn noTup_fn safe_fn cells_fn under_fn strip_nilf strip1_nilf norm_nilf noTup_nilf safe_nilf cells_nilf under_nilf strip_iface strip1_iface norm_iface noTup_iface safe_iface cells_iface under_iface strip_nili strip1_nili norm_nili noTup_nili safe_nili cells_nili under_nili bin_add bin_sub bin_mul bin_quo bin_rem bin_eql bin_neq bin_lss bin_leq bin_gtr bin_geq bin_and bin_or bin_xor bin_andNot bin_shl bin_shr sbin_add sbin_eql sbin_neq sbin_lss sbin_leq sbin_gtr sbin_geq load_ptr load_rptr cellEq_int cellEq_bool cellEq_str cellsEq_nil cellsEq_cons rows_sl rows_str packD_one packD_nil packD_two leave_ret leave_normal leave_exit seqK_normal seqK_exit seqK_ret blockK_normal blockK_exit blockK_ret condK_bool exec_skip exec_exit exec_ret exec_loop exec_seq exec_block exec_cond ev_tmp ev_lit evs_nil evs_cons takeK_some take_tmp take_lit zk_eq keepK_some keepK_none keep_nil keep_cons putD_some putD_none put_eq get_nil get_cons steps_nil steps_cons step_none guardK_t guardK_f guardK_undef step_some pickV_bool eo_pick loadmV_ptr loadmV_rptr eo_loadm eo_load storeV_ptr eo_store storefV_ptr eo_storef clearK_ptr clearK_rptr clearK_none clear_eq nilCheckV_ptr nilCheckV_rptr nilCheckV_fn eo_nilCheck eqsV_agg eo_eqs eqbV_bool eo_eqb unV_neg unV_not eo_un convV_int eo_conv boundK_int bound_none bound_some sliceV_slice eo_slice substrV_str eo_substr fieldAddrV_ptr fieldAddrV_rptr eo_fieldAddr fieldV_agg eo_field indexV_slice eo_index indexArrV_ptr indexArrV_rptr eo_indexArr atV_str eo_at extractV_tup eo_extract extractnV_tup eo_extractn callV_fn eo_call callcV_fn eo_callc callrV_fn eo_callr callR_eq beq_st loadrV_rptr eo_loadr lenV_slice lenV_str eo_len appV_slice eo_append minV_int maxV_int eo_min2 eo_max2 eo_mov_t eo_mov_f eo_alloc eo_box eo_build eo_buildSlice eo_bin eo_mkfn callD_eq callC_eq encPs encP encB encS encR under_encP under_encS under_encR rowsOk_S rowsOk_P rowsOk_R
set_option linter.unusedSimpArgs false
set_option linter.unusedVariables false
set_option maxHeartbeats 1000000
set_option maxRecDepth 4000


def e55 (l : List Prod) (pid : Int) (i : Nat) : Env := [(0, encPs l), (1, .int .i64 pid), (6, .int .i64 i)]
theorem body55 (l : List Prod) (pid : Int) (hl : l.length ≤ 9223372036854775807) (i : Nat) : exec (run tab) tab.esc loopW 0 l55_0 (e55 l pid i) [] = if h : i < l.length then (if (l[i]'h).pid < pid then some (Ex.normal, e55 l pid (i + 1), []) else some (Ex.exit 0, [(0, encPs l), (1, .int .i64 pid), (6, .int .i64 i), (19, Dat.bool false)], [])) else
      some (Ex.exit 0, [(0, encPs l), (1, .int .i64 pid), (6, .int .i64 i), (19, Dat.bool false)], []) := by
  by_cases h1 : i < l.length
  · have hw : IntKind.wrap .i64 ((i : Int) + 1) = i + 1 := wrap64 (by omega) (by omega)
    by_cases h2 : (l[i]).pid < pid <;>
    simp [l55_0, x55_2, q55_2_0, q55_2_1, q55_2_2, x55_3, q55_3_0, e55, h1, h2, hw]
  · simp [l55_0, x55_2, q55_2_0, q55_2_1, q55_2_2, x55_3, q55_3_0, e55, h1]

def place (l : List Prod) (pid : Int) : Nat := l.findIdx fun p => decide (pid ≤ p.pid)
def there (l : List Prod) (pid : Int) : Bool := if h : place l pid < l.length then decide ((l[place l pid]).pid = pid) else false
theorem t55 (l : List Prod) (pid : Int) (hl : l.length ≤ 9223372036854775807) : run tab 55 [encPs l, .int .i64 pid] [] = some (.tup [.int .i64 (place l pid : Nat), .bool (there l pid)], []) := by
  obtain ⟨o, k1, k2, k3⟩ := loop_rounds (b := exec (run tab) tab.esc loopW 0 l55_0) (E := e55 l pid) (σ := []) l.length
    (fun i o => o = (Ex.exit 0, [(0, encPs l), (1, .int .i64 pid), (6, .int .i64 (i + (l.drop i).findIdx fun p => decide (pid ≤ p.pid) : Nat)), (19, Dat.bool false)], []))
    ⟨_, by rw [body55 l pid hl, dif_neg (by omega)], by simp, by simp⟩ (fun i hi => by
      rw [body55 l pid hl, dif_pos hi]
      have hd : l.drop i = l[i] :: l.drop (i + 1) := List.drop_eq_getElem_cons hi
      by_cases h2 : (l[i]).pid < pid
      · refine .inl ⟨if_pos h2, fun o ho => ?_⟩
        have h0 : i + (l.drop i).findIdx (fun p => decide (pid ≤ p.pid)) = i + 1 + (l.drop (i + 1)).findIdx (fun p => decide (pid ≤ p.pid)) := by
          rw [hd, List.findIdx_cons]
          simp [show ¬ pid ≤ (l[i]).pid by omega]
          omega
        simp only [h0]
        exact ho
      · refine .inr ⟨_, if_neg h2, by simp, ?_⟩
        have h0 : (l.drop i).findIdx (fun p => decide (pid ≤ p.pid)) = 0 := by rw [hd, List.findIdx_cons]; simp [show pid ≤ (l[i]).pid by omega]
        simp only [h0, Nat.add_zero])
  simp only [List.drop_zero, Nat.zero_add] at k3
  subst k3
  simp [e55] at k1
  rw [run_eq, tab_55]
  by_cases h : l.findIdx (fun p => decide (pid ≤ p.pid)) < l.length
  · simp [m55, x55_0, q55_0_0, x55_1, q55_1_0, x55_4, q55_4_0, q55_4_1, q55_4_2, k1, place, there, h]
    exact decide_eq_decide.2 Iff.rfl
  · simp [m55, x55_0, q55_0_0, x55_1, q55_1_0, x55_4, q55_4_0, q55_4_1, q55_4_2, k1, place, there, h]
end Go.Mir.A
namespace Go.Mir.A
attribute [local congr] bind_head
attribute [local simp] gc ofCells bindArgs resD St.get St.set Dat.underL Dat.underLL gc_self fillD elemsD rowsOk_nil rowsOk_cons rowsOk_app rowsOk_tk rowsOk_dp rowsOk_tl underLL_tl underLL_app underLL_tk underLL_dp nn1 nn2 take_rest take_full appD_nil Option.bind_some strip_undef strip1_undef norm_undef noTup_undef safe_undef cells_undef under_undef strip_int strip1_int norm_int noTup_int safe_int cells_int under_int strip_bool strip1_bool norm_bool noTup_bool safe_bool cells_bool under_bool strip_str strip1_str norm_str noTup_str safe_str cells_str under_str strip_agg strip1_agg norm_agg noTup_agg safe_agg cells_agg under_agg strip_tup strip1_tup norm_tup noTup_tup safe_tup cells_tup under_tup strip_slice strip1_slice norm_slice noTup_slice safe_slice cells_slice under_slice strip_nilp strip1_nilp norm_nilp noTup_nilp safe_nilp cells_nilp under_nilp strip_ptr strip1_ptr norm_ptr noTup_ptr safe_ptr cells_ptr under_ptr strip_rptr strip1_rptr norm_rptr noTup_rptr safe_rptr cells_rptr under_rptr strip_fn strip1_fn norm_fn noTup_fn safe_fn cells_fn under_fn strip_nilf strip1_nilf norm_nilf noTup_nilf safe_nilf cells_nilf under_nilf strip_iface strip1_iface norm_iface noTup_iface safe_iface cells_iface under_iface strip_nili strip1_nili norm_nili noTup_nili safe_nili cells_nili under_nili bin_add bin_sub bin_mul bin_quo bin_rem bin_eql bin_neq bin_lss bin_leq bin_gtr bin_geq bin_and bin_or bin_xor bin_andNot bin_shl bin_shr sbin_add sbin_eql sbin_neq sbin_lss sbin_leq sbin_gtr sbin_geq load_ptr load_rptr cellEq_int cellEq_bool cellEq_str cellsEq_nil cellsEq_cons rows_sl rows_str packD_one packD_nil packD_two leave_ret leave_normal leave_exit seqK_normal seqK_exit seqK_ret blockK_normal blockK_exit blockK_ret condK_bool exec_skip exec_exit exec_ret exec_loop exec_seq exec_block exec_cond ev_tmp ev_lit evs_nil evs_cons takeK_some take_tmp take_lit zk_eq keepK_some keepK_none keep_nil keep_cons putD_some putD_none put_eq get_nil get_cons steps_nil steps_cons step_none guardK_t guardK_f guardK_undef step_some pickV_bool eo_pick loadmV_ptr loadmV_rptr eo_loadm eo_load storeV_ptr eo_store storefV_ptr eo_storef clearK_ptr clearK_rptr clearK_none clear_eq nilCheckV_ptr nilCheckV_rptr nilCheckV_fn eo_nilCheck eqsV_agg eo_eqs eqbV_bool eo_eqb unV_neg unV_not eo_un convV_int eo_conv boundK_int bound_none bound_some sliceV_slice eo_slice substrV_str eo_substr fieldAddrV_ptr fieldAddrV_rptr eo_fieldAddr fieldV_agg eo_field indexV_slice eo_index indexArrV_ptr indexArrV_rptr eo_indexArr atV_str eo_at extractV_tup eo_extract extractnV_tup eo_extractn callV_fn eo_call callcV_fn eo_callc callrV_fn eo_callr callR_eq beq_st loadrV_rptr eo_loadr lenV_slice lenV_str eo_len appV_slice eo_append minV_int maxV_int eo_min2 eo_max2 eo_mov_t eo_mov_f eo_alloc eo_box eo_build eo_buildSlice eo_bin eo_mkfn callD_eq callC_eq encPs encP encB encS encR under_encP under_encS under_encR rowsOk_S rowsOk_P rowsOk_R
set_option linter.unusedSimpArgs false
set_option linter.unusedVariables false
set_option maxHeartbeats 1000000
set_option maxRecDepth 4000


theorem t53 (l : List Prod) (pid : Int) (hl : l.length ≤ 9223372036854775807) : run tab 53 [encPs l, .int .i64 pid] [] = some (.tup [.int .i64 (place l pid : Nat), .bool (there l pid)], []) := by
  have h42 := t42 l 68 0 pid (fun p => decide (pid ≤ p.pid)) [[.int .i64 pid]] hl (fun p σ' h hid => t68 p pid 0 σ' h hid) (by simp)
  simp at h42
  rw [run_eq, tab_53]
  by_cases h : l.findIdx (fun p => decide (pid ≤ p.pid)) < l.length
  · simp [m53, x53_0, q53_0_0, x53_1, q53_1_0, x53_2, q53_2_0, q53_2_1, q53_2_2, h42, esc_42, place, there, h]
    exact decide_eq_decide.2 Iff.rfl
  · simp [m53, x53_0, q53_0_0, x53_1, q53_1_0, x53_2, q53_2_0, q53_2_1, q53_2_2, h42, esc_42, place, there, h]
end Go.Mir.A
namespace Go.Mir.A
attribute [local congr] bind_head
attribute [local simp] gc ofCells bindArgs resD St.get St.set Dat.underL Dat.underLL gc_self fillD elemsD rowsOk_nil rowsOk_cons rowsOk_app rowsOk_tk rowsOk_dp rowsOk_tl underLL_tl underLL_app underLL_tk underLL_dp nn1 nn2 take_rest take_full appD_nil Option.bind_some strip_undef strip1_undef norm_undef noTup_undef safe_undef cells_undef under_undef strip_int strip1_int norm_int noTup_int safe_int cells_int under_int strip_bool strip1_bool norm_bool noTup_bool safe_bool cells_bool under_bool strip_str strip1_str norm_str noTup_str safe_str cells_str under_str strip_agg strip1_agg norm_agg noTup_agg safe_agg cells_agg under_agg strip_tup strip1_tup norm_tup noTup_tup safe_tup cells_tup under_tup strip_slice strip1_slice norm_slice noTup_slice safe_slice cells_slice under_slice strip_nilp strip1_nilp norm_nilp noTup_nilp safe_nilp cells_nilp under_nilp strip_ptr strip1_ptr norm_ptr noTup_ptr safe_ptr cells_ptr under_ptr strip_rptr strip1_rptr norm_rptr noTup_rptr safe_rptr cells_rptr under_rptr strip_fn strip1_fn norm_fn noTup_fn safe_fn cells_fn under_fn strip_nilf strip1_nilf norm_nilf noTup_nilf safe_nilf cells_nilf under_nilf strip_iface strip1_iface norm_iface noTup_iface safe_iface cells_iface under_iface strip_nili strip1_nili norm_nili noTup_nili safe_nili cells_nili under_nili bin_add bin_sub bin_mul bin_quo bin_rem bin_eql bin_neq bin_lss bin_leq bin_gtr bin_geq bin_and bin_or bin_xor bin_andNot bin_shl bin_shr sbin_add sbin_eql sbin_neq sbin_lss sbin_leq sbin_gtr sbin_geq load_ptr load_rptr cellEq_int cellEq_bool cellEq_str cellsEq_nil cellsEq_cons rows_sl rows_str packD_one packD_nil packD_two leave_ret leave_normal leave_exit seqK_normal seqK_exit seqK_ret blockK_normal blockK_exit blockK_ret condK_bool exec_skip exec_exit exec_ret exec_loop exec_seq exec_block exec_cond ev_tmp ev_lit evs_nil evs_cons takeK_some take_tmp take_lit zk_eq keepK_some keepK_none keep_nil keep_cons putD_some putD_none put_eq get_nil get_cons steps_nil steps_cons step_none guardK_t guardK_f guardK_undef step_some pickV_bool eo_pick loadmV_ptr loadmV_rptr eo_loadm eo_load storeV_ptr eo_store storefV_ptr eo_storef clearK_ptr clearK_rptr clearK_none clear_eq nilCheckV_ptr nilCheckV_rptr nilCheckV_fn eo_nilCheck eqsV_agg eo_eqs eqbV_bool eo_eqb unV_neg unV_not eo_un convV_int eo_conv boundK_int bound_none bound_some sliceV_slice eo_slice substrV_str eo_substr fieldAddrV_ptr fieldAddrV_rptr eo_fieldAddr fieldV_agg eo_field indexV_slice eo_index indexArrV_ptr indexArrV_rptr eo_indexArr atV_str eo_at extractV_tup eo_extract extractnV_tup eo_extractn callV_fn eo_call callcV_fn eo_callc callrV_fn eo_callr callR_eq beq_st loadrV_rptr eo_loadr lenV_slice lenV_str eo_len appV_slice eo_append minV_int maxV_int eo_min2 eo_max2 eo_mov_t eo_mov_f eo_alloc eo_box eo_build eo_buildSlice eo_bin eo_mkfn callD_eq callC_eq encPs encP encB encS encR under_encP under_encS under_encR rowsOk_S rowsOk_P rowsOk_R
set_option linter.unusedSimpArgs false
set_option linter.unusedVariables false
set_option maxHeartbeats 1000000
set_option maxRecDepth 4000

def setP (l : List Prod) (p : Prod) : List Prod := l.take (place l p.pid) ++ [p] ++ l.drop (if there l p.pid then place l p.pid + 1 else place l p.pid)
theorem place_le (l : List Prod) (pid : Int) : place l pid ≤ l.length := List.findIdx_le_length
theorem place_lt {l : List Prod} {pid : Int} (h : there l pid = true) : place l pid < l.length := by
  rcases Nat.lt_or_ge (place l pid) l.length with h1 | h1
  · exact h1
  · simp [there, show ¬ place l pid < l.length by omega] at h
theorem rows_encP (l : List Prod) : ∀ x ∈ l.map encP, x.length = 4 := by
  intro x hx
  obtain ⟨p, _, rfl⟩ := List.mem_map.1 hx
  rfl
theorem t37 (l : List Prod) (p : Prod) (hl : l.length ≤ 1000) : run tab 37 [encPs l, .agg (encP p)] [] = some (.slice false ((setP l p).map encP), []) := by
  have h55 := t55 l p.pid (by omega)
  simp at h55
  have hle := place_le l p.pid
  have a1 := appD_ok (esz := 4) (bytes := 48) (xs := []) (ys := (l.take (place l p.pid)).map encP) (by simp; omega) (by simp) (rows_encP _)
  have a2 := appD_ok (esz := 4) (bytes := 48) (xs := (l.take (place l p.pid)).map encP) (ys := [encP p]) (by simp; omega) (rows_encP _) (by simp [encP])
  rw [run_eq, tab_37]
  cases ht : there l p.pid with
  | true =>
    have hlt := place_lt ht
    have hlt' : place l p.pid + 1 ≤ l.length := hlt
    have hw : IntKind.wrap .i64 ((place l p.pid : Int) + 1) = place l p.pid + 1 := wrap64 (by omega) (by omega)
    have a3 := appD_ok (esz := 4) (bytes := 48) (xs := (l.take (place l p.pid) ++ [p]).map encP) (ys := (l.drop (place l p.pid + 1)).map encP) (by simp; omega) (rows_encP _) (rows_encP _)
    rw [ht] at h55
    simp at a1 a2 a3
    simp [m37, x37_0, q37_0_0, x37_1, q37_1_0, q37_1_1, x37_2, q37_2_0, x37_3, q37_3_0, x37_4, q37_4_0, x37_5, q37_5_0, x37_6, q37_6_0, x37_7, q37_7_0, h55, esc_55, hle, hlt', hw, setP, ht, a1, a2, a3]
  | false =>
    have a3 := appD_ok (esz := 4) (bytes := 48) (xs := (l.take (place l p.pid) ++ [p]).map encP) (ys := (l.drop (place l p.pid)).map encP) (by simp; omega) (rows_encP _) (rows_encP _)
    rw [ht] at h55
    simp at a1 a2 a3
    simp [m37, x37_0, q37_0_0, x37_1, q37_1_0, q37_1_1, x37_2, q37_2_0, x37_3, q37_3_0, x37_4, q37_4_0, x37_5, q37_5_0, x37_6, q37_6_0, x37_7, q37_7_0, h55, esc_55, hle, setP, ht, a1, a2, a3]
end Go.Mir.A
namespace Go.Mir.A
attribute [local congr] bind_head
attribute [local simp] gc ofCells bindArgs resD St.get St.set Dat.underL Dat.underLL gc_self fillD elemsD rowsOk_nil rowsOk_cons rowsOk_app rowsOk_tk rowsOk_dp rowsOk_tl underLL_tl underLL_app underLL_tk underLL_dp nn1 nn2 take_rest take_full appD_nil Option.bind_some strip_undef strip1_undef norm_undef noTup_undef safe_undef cells_undef under_undef strip_int strip1_int norm_int noTup_int safe_int cells_int under_int strip_bool strip1_bool norm_bool noTup_bool safe_bool cells_bool under_bool strip_str strip1_str norm_str noTup_str safe_str cells_str under_str strip_agg strip1_agg norm_agg noTup_agg safe_agg cells_agg under_agg strip_tup strip1_tup norm_tup noTup_tup safe_tup cells_tup under_tup strip_slice strip1_slice norm_slice noTup_slice safe_slice cells_slice under_slice strip_nilp strip1_nilp norm_nilp noTup_nilp safe_nilp cells_nilp under_nilp strip_ptr strip1_ptr norm_ptr noTup_ptr safe_ptr cells_ptr under_ptr strip_rptr strip1_rptr norm_rptr noTup_rptr safe_rptr cells_rptr under_rptr strip_fn strip1_fn norm_fn noTup_fn safe_fn cells_fn under_fn strip_nilf strip1_nilf norm_nilf noTup_nilf safe_nilf cells_nilf under_nilf strip_iface strip1_iface norm_iface noTup_iface safe_iface cells_iface under_iface strip_nili strip1_nili norm_nili noTup_nili safe_nili cells_nili under_nili bin_add bin_sub bin_mul bin_quo bin_rem bin_eql bin_neq bin_lss bin_leq bin_gtr bin_geq bin_and bin_or bin_xor bin_andNot bin_shl bin_shr sbin_add sbin_eql sbin_neq sbin_lss sbin_leq sbin_gtr sbin_geq load_ptr load_rptr cellEq_int cellEq_bool cellEq_str cellsEq_nil cellsEq_cons rows_sl rows_str packD_one packD_nil packD_two leave_ret leave_normal leave_exit seqK_normal seqK_exit seqK_ret blockK_normal blockK_exit blockK_ret condK_bool exec_skip exec_exit exec_ret exec_loop exec_seq exec_block exec_cond ev_tmp ev_lit evs_nil evs_cons takeK_some take_tmp take_lit zk_eq keepK_some keepK_none keep_nil keep_cons putD_some putD_none put_eq get_nil get_cons steps_nil steps_cons step_none guardK_t guardK_f guardK_undef step_some pickV_bool eo_pick loadmV_ptr loadmV_rptr eo_loadm eo_load storeV_ptr eo_store storefV_ptr eo_storef clearK_ptr clearK_rptr clearK_none clear_eq nilCheckV_ptr nilCheckV_rptr nilCheckV_fn eo_nilCheck eqsV_agg eo_eqs eqbV_bool eo_eqb unV_neg unV_not eo_un convV_int eo_conv boundK_int bound_none bound_some sliceV_slice eo_slice substrV_str eo_substr fieldAddrV_ptr fieldAddrV_rptr eo_fieldAddr fieldV_agg eo_field indexV_slice eo_index indexArrV_ptr indexArrV_rptr eo_indexArr atV_str eo_at extractV_tup eo_extract extractnV_tup eo_extractn callV_fn eo_call callcV_fn eo_callc callrV_fn eo_callr callR_eq beq_st loadrV_rptr eo_loadr lenV_slice lenV_str eo_len appV_slice eo_append minV_int maxV_int eo_min2 eo_max2 eo_mov_t eo_mov_f eo_alloc eo_box eo_build eo_buildSlice eo_bin eo_mkfn callD_eq callC_eq encPs encP encB encS encR under_encP under_encS under_encR rowsOk_S rowsOk_P rowsOk_R
set_option linter.unusedSimpArgs false
set_option linter.unusedVariables false
set_option maxHeartbeats 1000000
set_option maxRecDepth 4000

theorem t56 (a b c : Int) : run tab 56 [.int .i64 a, .int .i64 b, .int .i64 c] [] = some (.bool (decide (b ≤ a) && decide (a ≤ c)), []) := by
  rw [run_eq, tab_56]
  by_cases h : b ≤ a <;> simp [m56, x56_0, q56_0_0, x56_1, q56_1_0, q56_1_1, h]

/-- the size of a record, cut -/
def szR (r : Rec) : Int := (if (5000 : Int) < r.key.length then (5000 : Int) else (r.key.length : Int)) + (if (5000 : Int) < r.value.length then (5000 : Int) else (r.value.length : Int))
def sumR : List Rec → Int
  | [] => 0
  | r :: l => szR r + sumR l
theorem szR_b (r : Rec) : 0 ≤ szR r ∧ szR r ≤ 10000 := by unfold szR; omega
theorem sumR_b (l : List Rec) : 0 ≤ sumR l ∧ sumR l ≤ 10000 * l.length := by
  induction l with
  | nil => simp [sumR]
  | cons r l ih => have := szR_b r; simp only [sumR, List.length_cons]; omega
theorem sumR_app (a b : List Rec) : sumR (a ++ b) = sumR a + sumR b := by
  induction a with
  | nil => simp [sumR]
  | cons r l ih => simp only [List.cons_append, sumR, ih]; omega
theorem sumR_take (l : List Rec) (i : Nat) (h : i < l.length) : sumR (l.take (i + 1)) = sumR (l.take i) + szR l[i] := by
  rw [List.take_succ_eq_append_getElem h, sumR_app]; simp [sumR]
theorem sumR_le {l : List Rec} {r : Rec} (h : r ∈ l) : szR r ≤ sumR l := by
  induction l with
  | nil => cases h
  | cons x l ih =>
    have := szR_b x
    have := sumR_b l
    simp only [sumR]
    rcases List.mem_cons.1 h with rfl | h
    · omega
    · have := ih h; omega
def greatB (b : Batch) : Bool := decide (60 < b.recs.length) || decide (4000 < sumR (b.recs.take 61))
def e10 (b : Batch) (i : Nat) : Env := [(1, .ptr 0 0), (3, .int .i64 (sumR (b.recs.take i))), (4, .int .i64 i)]
theorem t10 (b : Batch) (hl : b.recs.length ≤ 9223372036854775807) : run tab 10 [.agg (encB b)] [] = some (.bool (greatB b), []) := by
  rw [run_eq, tab_10]
  simp [m10, x10_0, q10_0_0, x10_1, q10_1_0, x10_2, q10_2_0, x10_3, q10_3_0, q10_3_1, x10_5, q10_5_0, q10_5_1, q10_5_2, q10_5_3, x10_4, q10_4_0, x10_6, q10_6_0, q10_6_1]
  simp only [Option.bind_assoc]
  refine (loop_cont (e10 b) (fun _ => [encB b]) (min b.recs.length 61) (fun _ => True) (fun _ => some (Dat.bool (greatB b), [])) trivial (fun _ => ?_) fun i hi _ => ?_)
  · have hb := sumR_b (b.recs.take (min b.recs.length 61))
    by_cases h : b.recs.length ≤ 60
    · have hm : min b.recs.length 61 = b.recs.length := by omega
      have h' : ¬ (60 : Int) < b.recs.length := by omega
      have h0 : ¬ 60 < b.recs.length := by omega
      have ht : b.recs.take 61 = b.recs := List.take_of_length_le (by omega)
      simp [l10_0, m10, x10_0, q10_0_0, x10_1, q10_1_0, x10_2, q10_2_0, x10_3, q10_3_0, q10_3_1, x10_5, q10_5_0, q10_5_1, q10_5_2, q10_5_3, x10_4, q10_4_0, x10_6, q10_6_0, q10_6_1, e10, hm, h0, h', greatB, ht]
    · have hm : min b.recs.length 61 = 61 := by omega
      have h' : (60 : Int) < b.recs.length := by omega
      have h0 : 60 < b.recs.length := by omega
      have h'' : (61 : Nat) ≤ b.recs.length := by omega
      by_cases h3 : b.recs.length = 61
      · simp [l10_0, m10, x10_0, q10_0_0, x10_1, q10_1_0, x10_2, q10_2_0, x10_3, q10_3_0, q10_3_1, x10_5, q10_5_0, q10_5_1, q10_5_2, q10_5_3, x10_4, q10_4_0, x10_6, q10_6_0, q10_6_1, e10, hm, h0, h', h3, greatB]
      · have h4 : (61 : Int) < b.recs.length := by omega
        simp [l10_0, m10, x10_0, q10_0_0, x10_1, q10_1_0, x10_2, q10_2_0, x10_3, q10_3_0, q10_3_1, x10_5, q10_5_0, q10_5_1, q10_5_2, q10_5_3, x10_4, q10_4_0, x10_6, q10_6_0, q10_6_1, e10, hm, h0, h', h4, greatB]
  · have h1 : i < b.recs.length := by omega
    have h2 : (i : Int) ≤ 60 := by omega
    have hw : IntKind.wrap .i64 ((i : Int) + 1) = i + 1 := wrap64 (by omega) (by omega)
    have hb := sumR_b (b.recs.take i)
    have hb2 : (b.recs.take i).length ≤ 61 := by rw [List.length_take]; omega
    have hw1 : IntKind.wrap .i64 (sumR (b.recs.take i) + (if (5000 : Int) < (b.recs[i]).key.length then (5000 : Int) else ((b.recs[i]).key.length : Int))) = sumR (b.recs.take i) + (if (5000 : Int) < (b.recs[i]).key.length then (5000 : Int) else ((b.recs[i]).key.length : Int)) := wrap64 (by omega) (by omega)
    have hw2 : IntKind.wrap .i64 ((sumR (b.recs.take i) + (if (5000 : Int) < (b.recs[i]).key.length then (5000 : Int) else ((b.recs[i]).key.length : Int))) + (if (5000 : Int) < (b.recs[i]).value.length then (5000 : Int) else ((b.recs[i]).value.length : Int))) = (sumR (b.recs.take i) + (if (5000 : Int) < (b.recs[i]).key.length then (5000 : Int) else ((b.recs[i]).key.length : Int))) + (if (5000 : Int) < (b.recs[i]).value.length then (5000 : Int) else ((b.recs[i]).value.length : Int)) := wrap64 (by omega) (by omega)
    have ht : sumR (b.recs.take (i + 1)) = sumR (b.recs.take i) + (if (5000 : Int) < (b.recs[i]).key.length then (5000 : Int) else ((b.recs[i]).key.length : Int)) + (if (5000 : Int) < (b.recs[i]).value.length then (5000 : Int) else ((b.recs[i]).value.length : Int)) := by
      rw [sumR_take b.recs i h1]; unfold szR; omega
    refine .inl ⟨?_, trivial, rfl⟩
    simp [l10_0, m10, x10_0, q10_0_0, x10_1, q10_1_0, x10_2, q10_2_0, x10_3, q10_3_0, q10_3_1, x10_5, q10_5_0, q10_5_1, q10_5_2, q10_5_3, x10_4, q10_4_0, x10_6, q10_6_0, q10_6_1, e10, h1, h2, hw, hw1, hw2, ht]
theorem greatB_not {b : Batch} (h : greatB b = false) : b.recs.length ≤ 60 ∧ ∀ r ∈ b.recs, r.key.length ≤ 4000 ∧ r.value.length ≤ 4000 := by
  simp [greatB] at h
  refine ⟨h.1, fun r hr => ?_⟩
  have h2 := h.2
  rw [List.take_of_length_le (by omega)] at h2
  have := sumR_le hr
  unfold szR at this
  omega
end Go.Mir.A
namespace Go.Mir.A
attribute [local congr] bind_head
attribute [local simp] gc ofCells bindArgs resD St.get St.set Dat.underL Dat.underLL gc_self fillD elemsD rowsOk_nil rowsOk_cons rowsOk_app rowsOk_tk rowsOk_dp rowsOk_tl underLL_tl underLL_app underLL_tk underLL_dp nn1 nn2 take_rest take_full appD_nil Option.bind_some strip_undef strip1_undef norm_undef noTup_undef safe_undef cells_undef under_undef strip_int strip1_int norm_int noTup_int safe_int cells_int under_int strip_bool strip1_bool norm_bool noTup_bool safe_bool cells_bool under_bool strip_str strip1_str norm_str noTup_str safe_str cells_str under_str strip_agg strip1_agg norm_agg noTup_agg safe_agg cells_agg under_agg strip_tup strip1_tup norm_tup noTup_tup safe_tup cells_tup under_tup strip_slice strip1_slice norm_slice noTup_slice safe_slice cells_slice under_slice strip_nilp strip1_nilp norm_nilp noTup_nilp safe_nilp cells_nilp under_nilp strip_ptr strip1_ptr norm_ptr noTup_ptr safe_ptr cells_ptr under_ptr strip_rptr strip1_rptr norm_rptr noTup_rptr safe_rptr cells_rptr under_rptr strip_fn strip1_fn norm_fn noTup_fn safe_fn cells_fn under_fn strip_nilf strip1_nilf norm_nilf noTup_nilf safe_nilf cells_nilf under_nilf strip_iface strip1_iface norm_iface noTup_iface safe_iface cells_iface under_iface strip_nili strip1_nili norm_nili noTup_nili safe_nili cells_nili under_nili bin_add bin_sub bin_mul bin_quo bin_rem bin_eql bin_neq bin_lss bin_leq bin_gtr bin_geq bin_and bin_or bin_xor bin_andNot bin_shl bin_shr sbin_add sbin_eql sbin_neq sbin_lss sbin_leq sbin_gtr sbin_geq load_ptr load_rptr cellEq_int cellEq_bool cellEq_str cellsEq_nil cellsEq_cons rows_sl rows_str packD_one packD_nil packD_two leave_ret leave_normal leave_exit seqK_normal seqK_exit seqK_ret blockK_normal blockK_exit blockK_ret condK_bool exec_skip exec_exit exec_ret exec_loop exec_seq exec_block exec_cond ev_tmp ev_lit evs_nil evs_cons takeK_some take_tmp take_lit zk_eq keepK_some keepK_none keep_nil keep_cons putD_some putD_none put_eq get_nil get_cons steps_nil steps_cons step_none guardK_t guardK_f guardK_undef step_some pickV_bool eo_pick loadmV_ptr loadmV_rptr eo_loadm eo_load storeV_ptr eo_store storefV_ptr eo_storef clearK_ptr clearK_rptr clearK_none clear_eq nilCheckV_ptr nilCheckV_rptr nilCheckV_fn eo_nilCheck eqsV_agg eo_eqs eqbV_bool eo_eqb unV_neg unV_not eo_un convV_int eo_conv boundK_int bound_none bound_some sliceV_slice eo_slice substrV_str eo_substr fieldAddrV_ptr fieldAddrV_rptr eo_fieldAddr fieldV_agg eo_field indexV_slice eo_index indexArrV_ptr indexArrV_rptr eo_indexArr atV_str eo_at extractV_tup eo_extract extractnV_tup eo_extractn callV_fn eo_call callcV_fn eo_callc callrV_fn eo_callr callR_eq beq_st loadrV_rptr eo_loadr lenV_slice lenV_str eo_len appV_slice eo_append minV_int maxV_int eo_min2 eo_max2 eo_mov_t eo_mov_f eo_alloc eo_box eo_build eo_buildSlice eo_bin eo_mkfn callD_eq callC_eq encPs encP encB encS encR under_encP under_encS under_encR rowsOk_S rowsOk_P rowsOk_R
set_option linter.unusedSimpArgs false
set_option linter.unusedVariables false
set_option maxHeartbeats 1000000
set_option maxRecDepth 4000

section
variable (l : List Seen) (F id : Nat) (bt : Batch) (q : Seen → Bool) (σ : St)
def e39 (i : Nat) : Env := [(0, .slice false (l.map encS)), (1, .fn F [.ptr id 0]), (7, .slice false (l.map encS)), (8, .int .i64 l.length), (9, .int .i64 i)]
theorem body39 (hl : l.length ≤ 9223372036854775807) (hq : ∀ (p : Seen) (σ' : St), St.get σ' id = some (encB bt) → id < σ'.length → run tab F [.agg (encS p), .ptr id 0] σ' = some (.bool (q p), σ')) (hσ : St.get σ id = some (encB bt)) (i : Nat) :
    exec (run tab) tab.esc loopW σ.length l39_0 (e39 l F id i) σ = if h : i < l.length then (if q (l[i]'h) then some (Ex.ret, [(4, Dat.int .i64 i)], σ) else some (Ex.normal, e39 l F id (i + 1), σ)) else
      some (Ex.exit 0, [(0, .slice false (l.map encS)), (1, .fn F [.ptr id 0]), (7, .slice false (l.map encS)), (8, .int .i64 l.length), (9, .int .i64 i), (10, Dat.bool false)], σ) := by
  have hid := St.get_lt hσ
  by_cases h1 : i < l.length
  · have hc := hq l[i] (encS l[i] :: σ) (by rw [St.get_cons_old hid]; exact hσ) (by simp; omega)
    simp at hc
    have hw : IntKind.wrap .i64 ((i : Int) + 1) = i + 1 := wrap64 (by omega) (by omega)
    cases hqi : q l[i] <;>
    simp [l39_0, x39_2, q39_2_0, x39_3, q39_3_0, x39_4, q39_4_0, x39_5, q39_5_0, x39_6, q39_6_0, e39, h1, hc, hqi, gc_self, hid, hw]
  · simp [l39_0, x39_2, q39_2_0, x39_3, q39_3_0, x39_4, q39_4_0, x39_5, q39_5_0, x39_6, q39_6_0, e39, h1, gc_self, hid]

theorem t39 (hl : l.length ≤ 9223372036854775807) (hq : ∀ (p : Seen) (σ' : St), St.get σ' id = some (encB bt) → id < σ'.length → run tab F [.agg (encS p), .ptr id 0] σ' = some (.bool (q p), σ')) (hσ : St.get σ id = some (encB bt)) :
    run tab 39 [.slice false (l.map encS), .fn F [.ptr id 0]] σ = some (.int .i64 (l.findIdx q : Nat), σ) := by
  have hid := St.get_lt hσ
  obtain ⟨o, h1, h2, h3⟩ := loop_rounds (b := exec (run tab) tab.esc loopW σ.length l39_0) (E := e39 l F id) (σ := σ) l.length
    (fun i o => (i + (l.drop i).findIdx q < l.length ∧ o = (Ex.ret, [(4, Dat.int .i64 (i + (l.drop i).findIdx q : Nat))], σ)) ∨ (i + (l.drop i).findIdx q = l.length ∧ o = (Ex.exit 0, [(0, .slice false (l.map encS)), (1, .fn F [.ptr id 0]), (7, .slice false (l.map encS)), (8, .int .i64 l.length), (9, .int .i64 l.length), (10, Dat.bool false)], σ)))
    ⟨_, by rw [body39 l F id bt q σ hl hq hσ, dif_neg (by omega)], by simp, .inr ⟨by simp, rfl⟩⟩ (fun i hi => by
      rw [body39 l F id bt q σ hl hq hσ, dif_pos hi]
      have hd : l.drop i = l[i] :: l.drop (i + 1) := List.drop_eq_getElem_cons hi
      cases hqi : q l[i] with
      | true =>
        refine .inr ⟨_, if_pos rfl, by simp, .inl ?_⟩
        rw [hd, List.findIdx_cons, hqi]
        simp [hi]
      | false =>
        refine .inl ⟨by simp, fun o ho => ?_⟩
        rw [hd, List.findIdx_cons, hqi]
        simp only [cond_false]
        rw [show i + ((l.drop (i + 1)).findIdx q + 1) = i + 1 + (l.drop (i + 1)).findIdx q by omega]
        exact ho)
  simp only [List.drop_zero, Nat.zero_add] at h3
  simp [e39] at h1
  rw [run_eq, tab_39]
  rcases h3 with ⟨h3, rfl⟩ | ⟨h3, rfl⟩
  · simp [m39, x39_0, q39_0_0, x39_1, q39_1_0, x39_7, q39_7_0, h1, gc_self, hid]
  · simp [m39, x39_0, q39_0_0, x39_1, q39_1_0, x39_7, q39_7_0, h1, gc_self, hid, h3]
end
end Go.Mir.A
