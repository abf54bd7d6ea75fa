import Derived.Test.YtlpfeikoniepiaaRRMirTabA
import Derived.Test.YtlpfeikoniepiaaRRMirSim
import Derived.KernelRfl
set_option linter.all false
namespace Go.Mir.A
attribute [local congr] bind_head
attribute [local simp] gc ofCells bindArgs resD St.get St.set Dat.underL Dat.underLL gc_self fillD elemsD rowsOk_nil rowsOk_cons rowsOk_app rowsOk_tk rowsOk_dp rowsOk_tl underLL_tl underLL_app underLL_tk underLL_dp nn1 nn2 take_rest take_full appD_nil Option.bind_some strip_undef strip1_undef norm_undef noTup_undef safe_undef cells_undef under_undef strip_int strip1_int norm_int noTup_int safe_int cells_int under_int strip_bool strip1_bool norm_bool noTup_bool safe_bool cells_bool under_bool strip_str strip1_str norm_str noTup_str safe_str cells_str under_str strip_agg strip1_agg norm_agg noTup_agg safe_agg cells_agg under_agg strip_tup strip1_tup norm_tup noTup_tup safe_tup cells_tup under_tup strip_slice strip1_slice norm_slice noTup_slice safe_slice cells_slice under_slice strip_nilp strip1_nilp norm_nilp noTup_nilp safe_nilp cells_nilp under_nilp strip_ptr strip1_ptr norm_ptr noTup_ptr safe_ptr cells_ptr under_ptr strip_rptr strip1_rptr norm_rptr noTup_rptr safe_rptr cells_rptr under_rptr strip_fn strip1_fn norm_fn noTup_fn safe_fn cells_fn under_fn strip_nilf strip1_nilf norm_nilf noTup_nilf safe_nilf cells_nilf under_nilf strip_iface strip1_iface norm_iface noTup_iface safe_iface cells_iface under_iface strip_nili strip1_nili norm_nili noTup_nili safe_nili cells_nili under_nili bin_add bin_sub bin_mul bin_quo bin_rem bin_eql bin_neq bin_lss bin_leq bin_gtr bin_geq bin_and bin_or bin_xor bin_andNot bin_shl bin_shr sbin_add sbin_eql sbin_neq sbin_lss sbin_leq sbin_gtr sbin_geq load_ptr load_rptr cellEq_int cellEq_bool cellEq_str cellsEq_nil cellsEq_cons rows_sl rows_str packD_one packD_nil packD_two leave_ret leave_normal leave_exit seqK_normal seqK_exit seqK_ret blockK_normal blockK_exit blockK_ret condK_bool exec_skip exec_exit exec_ret exec_loop exec_seq exec_block exec_cond ev_tmp ev_lit evs_nil evs_cons takeK_some take_tmp take_lit zk_eq keepK_some keepK_none keep_nil keep_cons putD_some putD_none put_eq get_nil get_cons steps_nil steps_cons step_none guardK_t guardK_f guardK_undef step_some pickV_bool eo_pick loadmV_ptr loadmV_rptr eo_loadm eo_load storeV_ptr eo_store storefV_ptr eo_storef clearK_ptr clearK_rptr clearK_none clear_eq nilCheckV_ptr nilCheckV_rptr nilCheckV_fn eo_nilCheck eqsV_agg eo_eqs eqbV_bool eo_eqb unV_neg unV_not eo_un convV_int eo_conv boundK_int bound_none bound_some sliceV_slice eo_slice substrV_str eo_substr fieldAddrV_ptr fieldAddrV_rptr eo_fieldAddr fieldV_agg eo_field indexV_slice eo_index indexArrV_ptr indexArrV_rptr eo_indexArr atV_str eo_at extractV_tup eo_extract extractnV_tup eo_extractn callV_fn eo_call callcV_fn eo_callc callrV_fn eo_callr callR_eq beq_st loadrV_rptr eo_loadr lenV_slice lenV_str eo_len appV_slice eo_append minV_int maxV_int eo_min2 eo_max2 eo_mov_t eo_mov_f eo_alloc eo_box eo_build eo_buildSlice eo_bin eo_mkfn callD_eq callC_eq encPs encP encB encS encR under_encP under_encS under_encR rowsOk_S rowsOk_P rowsOk_R
set_option linter.unusedSimpArgs false
set_option linter.unusedVariables false
set_option maxHeartbeats 1000000
set_option maxRecDepth 4000

theorem t32 (b : Batch) : run tab 32 [.agg (encB b)] [] = some (.int .i64 (IntKind.wrap .i64 (b.seq + b.recs.length)), []) := by
  rw [run_eq, tab_32]
  simp [m32, x32_0, q32_0_0, x32_1, q32_1_0, q32_1_1]
theorem t36 (b : Batch) : run tab 36 [.agg (encB b)] [] = some (.int .i64 (IntKind.wrap .i64 (b.seq + b.recs.length)), []) := by
  rw [run_eq, tab_36]
  simp [m36, x36_0, q36_0_0, x36_1, q36_1_0, q36_1_1]
theorem t58 (a b c : Int) : run tab 58 [.int .i64 a, .int .i64 b, .int .i64 c] [] = some (.bool (decide (b ≤ a) && decide (a ≤ c)), []) := by
  rw [run_eq, tab_58]
  by_cases h : b ≤ a <;> simp [m58, x58_0, q58_0_0, x58_1, q58_1_0, q58_1_1, h]
theorem t81 (a b c : Int) : run tab 81 [.int .i64 a, .int .i64 b, .int .i64 c] [] = some (.bool (decide (b ≤ a) && decide (a ≤ c)), []) := by
  rw [run_eq, tab_81]
  by_cases h : b ≤ a <;> simp [m81, x81_0, q81_0_0, x81_1, q81_1_0, q81_1_1, h]
theorem t80 (a b : Int) : run tab 80 [.int .i64 a, .int .i64 b] [] = some (.bool (decide (1 ≤ a) && decide (a ≤ 8) && decide (0 ≤ b) && decide (b ≤ 100)), []) := by
  rw [run_eq, tab_80]
  by_cases h : 1 ≤ a <;> by_cases h2 : a ≤ 8 <;> by_cases h3 : 0 ≤ b <;> simp [m80, x80_0, q80_0_0, x80_1, q80_1_0, q80_1_1, q80_1_2, h, h2, h3]
theorem t57 (a b : Int) : run tab 57 [.int .i64 a, .int .i64 b] [] = some (.bool (decide (1 ≤ a) && decide (a ≤ 8) && decide (0 ≤ b) && decide (b ≤ 100)), []) := by
  rw [run_eq, tab_57]
  by_cases h : 1 ≤ a <;> by_cases h2 : a ≤ 8 <;> simp [m57, x57_0, q57_0_0, x57_1, q57_1_0, q57_1_1, h, h2, callD, esc_58, t58, Dat.norm]
theorem t11 : run tab 11 [] [] = some (.bool true, []) := run_of_runF (k := 60) (by kernel_rfl)
theorem t43 (p : Prod) (pid : Int) (id : Nat) (σ : St) (h : St.get σ id = some [.int .i64 pid]) (hid : id < σ.length) : run tab 43 [.agg (encP p), .ptr id 0] σ = some (.bool (decide (p.pid = pid)), σ) := by
  rw [run_eq, tab_43]
  simp [m43, x43_0, q43_0_0, x43_1, q43_1_0, h, hid, gc_self, show id ≠ σ.length by omega, show (id == σ.length) = false by simp; omega]
theorem t68 (p : Prod) (pid : Int) (id : Nat) (σ : St) (h : St.get σ id = some [.int .i64 pid]) (hid : id < σ.length) : run tab 68 [.agg (encP p), .ptr id 0] σ = some (.bool (decide (pid ≤ p.pid)), σ) := by
  rw [run_eq, tab_68]
  simp [m68, x68_0, q68_0_0, x68_1, q68_1_0, h, hid, gc_self, show id ≠ σ.length by omega, show (id == σ.length) = false by simp; omega]
theorem t40 (s : Seen) (b : Batch) (id : Nat) (σ : St) (h : St.get σ id = some (encB b)) (hid : id < σ.length) : run tab 40 [.agg (encS s), .ptr id 0] σ = some (.bool (decide (s.seq = b.seq) && decide (s.count = b.recs.length)), σ) := by
  simp at h
  rw [run_eq, tab_40]
  by_cases h2 : s.seq = b.seq <;>
  simp [m40, x40_0, q40_0_0, x40_1, q40_1_0, q40_1_1, q40_1_2, h, h2, hid, gc_self, show id ≠ σ.length by omega, show (id == σ.length) = false by simp; omega]
end Go.Mir.A
namespace Go.Mir.A
attribute [local congr] bind_head
attribute [local simp] gc ofCells bindArgs resD St.get St.set Dat.underL Dat.underLL gc_self fillD elemsD rowsOk_nil rowsOk_cons rowsOk_app rowsOk_tk rowsOk_dp rowsOk_tl underLL_tl underLL_app underLL_tk underLL_dp nn1 nn2 take_rest take_full appD_nil Option.bind_some strip_undef strip1_undef norm_undef noTup_undef safe_undef cells_undef under_undef strip_int strip1_int norm_int noTup_int safe_int cells_int under_int strip_bool strip1_bool norm_bool noTup_bool safe_bool cells_bool under_bool strip_str strip1_str norm_str noTup_str safe_str cells_str under_str strip_agg strip1_agg norm_agg noTup_agg safe_agg cells_agg under_agg strip_tup strip1_tup norm_tup noTup_tup safe_tup cells_tup under_tup strip_slice strip1_slice norm_slice noTup_slice safe_slice cells_slice under_slice strip_nilp strip1_nilp norm_nilp noTup_nilp safe_nilp cells_nilp under_nilp strip_ptr strip1_ptr norm_ptr noTup_ptr safe_ptr cells_ptr under_ptr strip_rptr strip1_rptr norm_rptr noTup_rptr safe_rptr cells_rptr under_rptr strip_fn strip1_fn norm_fn noTup_fn safe_fn cells_fn under_fn strip_nilf strip1_nilf norm_nilf noTup_nilf safe_nilf cells_nilf under_nilf strip_iface strip1_iface norm_iface noTup_iface safe_iface cells_iface under_iface strip_nili strip1_nili norm_nili noTup_nili safe_nili cells_nili under_nili bin_add bin_sub bin_mul bin_quo bin_rem bin_eql bin_neq bin_lss bin_leq bin_gtr bin_geq bin_and bin_or bin_xor bin_andNot bin_shl bin_shr sbin_add sbin_eql sbin_neq sbin_lss sbin_leq sbin_gtr sbin_geq load_ptr load_rptr cellEq_int cellEq_bool cellEq_str cellsEq_nil cellsEq_cons rows_sl rows_str packD_one packD_nil packD_two leave_ret leave_normal leave_exit seqK_normal seqK_exit seqK_ret blockK_normal blockK_exit blockK_ret condK_bool exec_skip exec_exit exec_ret exec_loop exec_seq exec_block exec_cond ev_tmp ev_lit evs_nil evs_cons takeK_some take_tmp take_lit zk_eq keepK_some keepK_none keep_nil keep_cons putD_some putD_none put_eq get_nil get_cons steps_nil steps_cons step_none guardK_t guardK_f guardK_undef step_some pickV_bool eo_pick loadmV_ptr loadmV_rptr eo_loadm eo_load storeV_ptr eo_store storefV_ptr eo_storef clearK_ptr clearK_rptr clearK_none clear_eq nilCheckV_ptr nilCheckV_rptr nilCheckV_fn eo_nilCheck eqsV_agg eo_eqs eqbV_bool eo_eqb unV_neg unV_not eo_un convV_int eo_conv boundK_int bound_none bound_some sliceV_slice eo_slice substrV_str eo_substr fieldAddrV_ptr fieldAddrV_rptr eo_fieldAddr fieldV_agg eo_field indexV_slice eo_index indexArrV_ptr indexArrV_rptr eo_indexArr atV_str eo_at extractV_tup eo_extract extractnV_tup eo_extractn callV_fn eo_call callcV_fn eo_callc callrV_fn eo_callr callR_eq beq_st loadrV_rptr eo_loadr lenV_slice lenV_str eo_len appV_slice eo_append minV_int maxV_int eo_min2 eo_max2 eo_mov_t eo_mov_f eo_alloc eo_box eo_build eo_buildSlice eo_bin eo_mkfn callD_eq callC_eq encPs encP encB encS encR under_encP under_encS under_encR rowsOk_S rowsOk_P rowsOk_R
set_option linter.unusedSimpArgs false
set_option linter.unusedVariables false
set_option maxHeartbeats 1000000
set_option maxRecDepth 4000

section
variable (l : List Prod) (F id : Nat) (pid : Int) (q : Prod → Bool) (σ : St)
def e42 (i : Nat) : Env := [(0, encPs l), (1, .fn F [.ptr id 0]), (7, encPs l), (8, .int .i64 l.length), (9, .int .i64 i)]
theorem body42 (hl : l.length ≤ 9223372036854775807) (hq : ∀ (p : Prod) (σ' : St), St.get σ' id = some [.int .i64 pid] → id < σ'.length → run tab F [.agg (encP p), .ptr id 0] σ' = some (.bool (q p), σ')) (hσ : St.get σ id = some [.int .i64 pid]) (i : Nat) :
    exec (run tab) tab.esc loopW σ.length l42_0 (e42 l F id i) σ = if h : i < l.length then (if q (l[i]'h) then some (Ex.ret, [(4, Dat.int .i64 i)], σ) else some (Ex.normal, e42 l F id (i + 1), σ)) else
      some (Ex.exit 0, [(0, encPs l), (1, .fn F [.ptr id 0]), (7, encPs l), (8, .int .i64 l.length), (9, .int .i64 i), (10, Dat.bool false)], σ) := by
  have hid := St.get_lt hσ
  by_cases h1 : i < l.length
  · have hc := hq l[i] (encP l[i] :: σ) (by rw [St.get_cons_old hid]; exact hσ) (by simp; omega)
    simp at hc
    have hw : IntKind.wrap .i64 ((i : Int) + 1) = i + 1 := wrap64 (by omega) (by omega)
    cases hqi : q l[i] <;>
    simp [l42_0, x42_2, q42_2_0, x42_3, q42_3_0, x42_4, q42_4_0, x42_5, q42_5_0, x42_6, q42_6_0, e42, h1, hc, hqi, gc_self, hid, hw]
  · simp [l42_0, x42_2, q42_2_0, x42_3, q42_3_0, x42_4, q42_4_0, x42_5, q42_5_0, x42_6, q42_6_0, e42, h1, gc_self, hid]

theorem t42 (hl : l.length ≤ 9223372036854775807) (hq : ∀ (p : Prod) (σ' : St), St.get σ' id = some [.int .i64 pid] → id < σ'.length → run tab F [.agg (encP p), .ptr id 0] σ' = some (.bool (q p), σ')) (hσ : St.get σ id = some [.int .i64 pid]) :
    run tab 42 [encPs l, .fn F [.ptr id 0]] σ = some (.int .i64 (l.findIdx q : Nat), σ) := by
  have hid := St.get_lt hσ
  obtain ⟨o, h1, h2, h3⟩ := loop_rounds (b := exec (run tab) tab.esc loopW σ.length l42_0) (E := e42 l F id) (σ := σ) l.length
    (fun i o => (i + (l.drop i).findIdx q < l.length ∧ o = (Ex.ret, [(4, Dat.int .i64 (i + (l.drop i).findIdx q : Nat))], σ)) ∨ (i + (l.drop i).findIdx q = l.length ∧ o = (Ex.exit 0, [(0, encPs l), (1, .fn F [.ptr id 0]), (7, encPs l), (8, .int .i64 l.length), (9, .int .i64 l.length), (10, Dat.bool false)], σ)))
    ⟨_, by rw [body42 l F id pid q σ hl hq hσ, dif_neg (by omega)], by simp, .inr ⟨by simp, rfl⟩⟩ (fun i hi => by
      rw [body42 l F id pid q σ hl hq hσ, dif_pos hi]
      have hd : l.drop i = l[i] :: l.drop (i + 1) := List.drop_eq_getElem_cons hi
      cases hqi : q l[i] with
      | true =>
        refine .inr ⟨_, if_pos rfl, by simp, .inl ?_⟩
        rw [hd, List.findIdx_cons, hqi]
        simp [hi]
      | false =>
        refine .inl ⟨by simp, fun o ho => ?_⟩
        rw [hd, List.findIdx_cons, hqi]
        simp only [cond_false]
        rw [show i + ((l.drop (i + 1)).findIdx q + 1) = i + 1 + (l.drop (i + 1)).findIdx q by omega]
        exact ho)
  simp only [List.drop_zero, Nat.zero_add] at h3
  simp [e42] at h1
  rw [run_eq, tab_42]
  rcases h3 with ⟨h3, rfl⟩ | ⟨h3, rfl⟩
  · simp [m42, x42_0, q42_0_0, x42_1, q42_1_0, x42_7, q42_7_0, h1, gc_self, hid]
  · simp [m42, x42_0, q42_0_0, x42_1, q42_1_0, x42_7, q42_7_0, h1, gc_self, hid, h3]
end
end Go.Mir.A
namespace Go.Mir.A
attribute [local congr] bind_head
attribute [local simp] gc ofCells bindArgs resD St.get St.set Dat.underL Dat.underLL gc_self fillD elemsD rowsOk_nil rowsOk_cons rowsOk_app rowsOk_tk rowsOk_dp rowsOk_tl underLL_tl underLL_app underLL_tk underLL_dp nn1 nn2 take_rest take_full appD_nil Option.bind_some strip_undef strip1_undef norm_undef noTup_undef safe_undef cells_undef under_undef strip_int strip1_int norm_int noTup_int safe_int cells_int under_int strip_bool strip1_bool norm_bool noTup_bool safe_bool cells_bool under_bool strip_str strip1_str norm_str noTup_str safe_str cells_str under_str strip_agg strip1_agg norm_agg noTup_agg safe_agg cells_agg under_agg strip_tup strip1_tup norm_tup noTup_tup safe_tup cells_tup under_tup strip_slice strip1_slice norm_slice noTup_slice safe_slice cells_slice under_slice strip_nilp strip1_nilp norm_nilp noTup_nilp safe_nilp cells_nilp under_nilp strip_ptr strip1_ptr norm_ptr noTup_ptr safe_ptr cells_ptr under_ptr strip_rptr strip1_rptr norm_rptr noTup_rptr safe_rptr cells_rptr under_rptr strip_fn strip1_fn norm_fn noTup_fn safe_fn cells_fn under_fn strip_nilf strip1_nilf norm_nilf noTup_nilf safe_nilf cells_nilf under_nilf strip_iface strip1_iface norm_iface noTup_iface safe_iface cells_iface under_iface strip_nili strip1_nili norm_nili noTup_nili safe_nili cells_nili under_nili bin_add bin_sub bin_mul bin_quo bin_rem bin_eql bin_neq bin_lss bin_leq bin_gtr bin_geq bin_and bin_or bin_xor bin_andNot bin_shl bin_shr sbin_add sbin_eql sbin_neq sbin_lss sbin_leq sbin_gtr sbin_geq load_ptr load_rptr cellEq_int cellEq_bool cellEq_str cellsEq_nil cellsEq_cons rows_sl rows_str packD_one packD_nil packD_two leave_ret leave_normal leave_exit seqK_normal seqK_exit seqK_ret blockK_normal blockK_exit blockK_ret condK_bool exec_skip exec_exit exec_ret exec_loop exec_seq exec_block exec_cond ev_tmp ev_lit evs_nil evs_cons takeK_some take_tmp take_lit zk_eq keepK_some keepK_none keep_nil keep_cons putD_some putD_none put_eq get_nil get_cons steps_nil steps_cons step_none guardK_t guardK_f guardK_undef step_some pickV_bool eo_pick loadmV_ptr loadmV_rptr eo_loadm eo_load storeV_ptr eo_store storefV_ptr eo_storef clearK_ptr clearK_rptr clearK_none clear_eq nilCheckV_ptr nilCheckV_rptr nilCheckV_fn eo_nilCheck eqsV_agg eo_eqs eqbV_bool eo_eqb unV_neg unV_not eo_un convV_int eo_conv boundK_int bound_none bound_some sliceV_slice eo_slice substrV_str eo_substr fieldAddrV_ptr fieldAddrV_rptr eo_fieldAddr fieldV_agg eo_field indexV_slice eo_index indexArrV_ptr indexArrV_rptr eo_indexArr atV_str eo_at extractV_tup eo_extract extractnV_tup eo_extractn callV_fn eo_call callcV_fn eo_callc callrV_fn eo_callr callR_eq beq_st loadrV_rptr eo_loadr lenV_slice lenV_str eo_len appV_slice eo_append minV_int maxV_int eo_min2 eo_max2 eo_mov_t eo_mov_f eo_alloc eo_box eo_build eo_buildSlice eo_bin eo_mkfn callD_eq callC_eq encPs encP encB encS encR under_encP under_encS under_encR rowsOk_S rowsOk_P rowsOk_R
set_option linter.unusedSimpArgs false
set_option linter.unusedVariables false
set_option maxHeartbeats 1000000
set_option maxRecDepth 4000

def zeroP : Prod := ⟨0, 0, 0, []⟩
def findP (l : List Prod) (pid : Int) : Prod × Bool := if h : l.findIdx (fun p => decide (p.pid = pid)) < l.length then (l[l.findIdx (fun p => decide (p.pid = pid))], true) else (zeroP, false)

theorem t20 (l : List Prod) (pid : Int) (hl : l.length ≤ 9223372036854775807) : run tab 20 [encPs l, .int .i64 pid] [] = some (.tup [.agg (encP (findP l pid).1), .bool (findP l pid).2], []) := by
  have h42 := t42 l 43 0 pid (fun p => decide (p.pid = pid)) [[.int .i64 0, .int .i64 0, .int .i64 0, .slice true []], [.int .i64 pid]] hl (fun p σ' h hid => t43 p pid 0 σ' h hid) (by simp)
  simp at h42
  have hle : l.findIdx (fun p => decide (p.pid = pid)) ≤ l.length := List.findIdx_le_length
  rw [run_eq, tab_20]
  by_cases h : l.findIdx (fun p => decide (p.pid = pid)) < l.length
  · have h' : ¬ ((l.findIdx (fun p => decide (p.pid = pid)) : Int) = l.length) := by omega
    have h'' : ¬ (l.findIdx (fun p => decide (p.pid = pid)) = l.length) := by omega
    simp [m20, x20_0, q20_0_0, x20_1, q20_1_0, x20_2, q20_2_0, x20_3, q20_3_0, x20_4, q20_4_0, h42, esc_42, findP, h, h', h'']
  · have h' : ((l.findIdx (fun p => decide (p.pid = pid)) : Int) = l.length) := by omega
    have h'' : (l.findIdx (fun p => decide (p.pid = pid)) = l.length) := by omega
    simp [m20, x20_0, q20_0_0, x20_1, q20_1_0, x20_2, q20_2_0, x20_3, q20_3_0, x20_4, q20_4_0, h42, esc_42, findP, h, h', h'', zeroP]

def e35 (l : List Prod) (pid : Int) (i : Nat) : Env := [(0, encPs l), (1, .int .i64 pid), (4, .ptr 0 0), (6, .int .i64 i)]
def z35 : St := [[.int .i64 0, .int .i64 0, .int .i64 0, .slice true []]]
theorem body35 (l : List Prod) (pid : Int) (hl : l.length ≤ 9223372036854775807) (i : Nat) : exec (run tab) tab.esc loopW 0 l35_0 (e35 l pid i) z35 = if h : i < l.length then (if (l[i]'h).pid = pid then some (Ex.ret, [(4, Dat.ptr 0 0), (5, Dat.bool true)], [encP (l[i]'h)]) else some (Ex.normal, e35 l pid (i + 1), z35)) else
      some (Ex.exit 0, [(0, encPs l), (1, .int .i64 pid), (4, .ptr 0 0), (6, .int .i64 i), (10, Dat.bool false)], z35) := by
  by_cases h1 : i < l.length
  · have hw : IntKind.wrap .i64 ((i : Int) + 1) = i + 1 := wrap64 (by omega) (by omega)
    by_cases h2 : (l[i]).pid = pid <;>
    simp [l35_0, x35_2, q35_2_0, x35_3, q35_3_0, x35_4, q35_4_0, q35_4_1, x35_5, q35_5_0, e35, z35, h1, h2, hw]
  · simp [l35_0, x35_2, q35_2_0, x35_3, q35_3_0, x35_4, q35_4_0, q35_4_1, x35_5, q35_5_0, e35, z35, h1]
theorem t35 (l : List Prod) (pid : Int) (hl : l.length ≤ 9223372036854775807) : run tab 35 [encPs l, .int .i64 pid] [] = some (.tup [.agg (encP (findP l pid).1), .bool (findP l pid).2], []) := by
  obtain ⟨o, h1, h2, h3⟩ := loop_rounds (b := exec (run tab) tab.esc loopW 0 l35_0) (E := e35 l pid) (σ := z35) l.length
    (fun i o => (∃ h : i + (l.drop i).findIdx (fun p => decide (p.pid = pid)) < l.length, o = (Ex.ret, [(4, Dat.ptr 0 0), (5, Dat.bool true)], [encP (l[i + (l.drop i).findIdx (fun p => decide (p.pid = pid))])])) ∨ (i + (l.drop i).findIdx (fun p => decide (p.pid = pid)) = l.length ∧ o = (Ex.exit 0, [(0, encPs l), (1, .int .i64 pid), (4, .ptr 0 0), (6, .int .i64 l.length), (10, Dat.bool false)], z35)))
    ⟨_, by rw [body35 l pid hl, dif_neg (by omega)], by simp, .inr ⟨by simp, rfl⟩⟩ (fun i hi => by
      rw [body35 l pid hl, dif_pos hi]
      have hd : l.drop i = l[i] :: l.drop (i + 1) := List.drop_eq_getElem_cons hi
      by_cases hqi : (l[i]).pid = pid
      · refine .inr ⟨_, if_pos hqi, by simp, .inl ?_⟩
        have h0 : (l.drop i).findIdx (fun p => decide (p.pid = pid)) = 0 := by rw [hd, List.findIdx_cons]; simp [hqi]
        simp only [h0, Nat.add_zero]
        exact ⟨hi, trivial⟩
      · refine .inl ⟨by simp [hqi], fun o ho => ?_⟩
        have h0 : i + (l.drop i).findIdx (fun p => decide (p.pid = pid)) = i + 1 + (l.drop (i + 1)).findIdx (fun p => decide (p.pid = pid)) := by rw [hd, List.findIdx_cons]; simp [hqi]; omega
        simp only [h0]
        exact ho)
  simp only [List.drop_zero, Nat.zero_add] at h3
  simp [e35, z35] at h1
  rw [run_eq, tab_35]
  rcases h3 with ⟨h3, rfl⟩ | ⟨h3, rfl⟩
  · simp [m35, x35_0, q35_0_0, x35_1, q35_1_0, x35_6, q35_6_0, h1, findP, h3]
  · simp [m35, x35_0, q35_0_0, x35_1, q35_1_0, x35_6, q35_6_0, h1, findP, h3, z35, zeroP]
end Go.Mir.A
namespace Go.Mir.A
attribute [local congr] bind_head
attribute [local simp] gc ofCells bindArgs resD St.get St.set Dat.underL Dat.underLL gc_self fillD elemsD rowsOk_nil rowsOk_cons rowsOk_app rowsOk_tk rowsOk_dp rowsOk_tl underLL_tl underLL_app underLL_tk underLL_dp nn1 nn2 take_rest take_full appD_nil Option.bind_some strip_undef strip1_undef norm_undef noTup_undef safe_undef cells_undef under_undef strip_int strip1_int norm_int noTup_int safe_int cells_int under_int strip_bool strip1_bool norm_bool noTup_bool safe_bool cells_bool under_bool strip_str strip1_str norm_str noTup_str safe_str cells_str under_str strip_agg strip1_agg norm_agg noTup_agg safe_agg cells_agg under_agg strip_tup strip1_tup norm_tup noTup_tup safe_tup cells_tup under_tup strip_slice strip1_slice norm_slice noTup_slice safe_slice cells_slice under_slice strip_nilp strip1_nilp norm_nilp noTup_nilp safe_nilp cells_nilp under_nilp strip_ptr strip1_ptr norm_ptr noTup_ptr safe_ptr cells_ptr under_ptr strip_rptr strip1_rptr norm_rptr noTup_rptr safe_rptr cells_rptr under_rptr strip_fn strip1_fn norm_fn noTup_fn safe_fn cells_fn under_fn strip_nilf strip1_nilf norm_nilf noTup_nilf safe_nilf cells_nilf under_nilf strip_iface strip1_iface norm_iface noTup_iface safe_iface cells_iface under_iface strip_nili strip1_nili norm_nili noTup_nili safe_nili cells_nili under_nili bin_add bin_sub bin_mul bin_quo bin_rem bin_eql bin_neq bin_lss bin_leq bin_gtr bin_geq bin_and bin_or bin_xor bin_andNot bin_shl bin_shr sbin_add sbin_eql sbin_neq sbin_lss sbin_leq sbin_gtr sbin_geq load_ptr load_rptr cellEq_int cellEq_bool cellEq_str cellsEq_nil cellsEq_cons rows_sl rows_str packD_one packD_nil packD_two leave_ret leave_normal leave_exit seqK_normal seqK_exit seqK_ret blockK_normal blockK_exit blockK_ret condK_bool exec_skip exec_exit exec_ret exec_loop exec_seq exec_block exec_cond ev_tmp ev_lit evs_nil evs_cons takeK_some take_tmp take_lit zk_eq keepK_some keepK_none keep_nil keep_cons putD_some putD_none put_eq get_nil get_cons steps_nil steps_cons step_none guardK_t guardK_f guardK_undef step_some pickV_bool eo_pick loadmV_ptr loadmV_rptr eo_loadm eo_load storeV_ptr eo_store storefV_ptr eo_storef clearK_ptr clearK_rptr clearK_none clear_eq nilCheckV_ptr nilCheckV_rptr nilCheckV_fn eo_nilCheck eqsV_agg eo_eqs eqbV_bool eo_eqb unV_neg unV_not eo_un convV_int eo_conv boundK_int bound_none bound_some sliceV_slice eo_slice substrV_str eo_substr fieldAddrV_ptr fieldAddrV_rptr eo_fieldAddr fieldV_agg eo_field indexV_slice eo_index indexArrV_ptr indexArrV_rptr eo_indexArr atV_str eo_at extractV_tup eo_extract extractnV_tup eo_extractn callV_fn eo_call callcV_fn eo_callc callrV_fn eo_callr callR_eq beq_st loadrV_rptr eo_loadr lenV_slice lenV_str eo_len appV_slice eo_append minV_int maxV_int eo_min2 eo_max2 eo_mov_t eo_mov_f eo_alloc eo_box eo_build eo_buildSlice eo_bin eo_mkfn callD_eq callC_eq encPs encP encB encS encR under_encP under_encS under_encR rowsOk_S rowsOk_P rowsOk_R
set_option linter.unusedSimpArgs false
set_option linter.unusedVariables false
set_option maxHeartbeats 1000000
set_option maxRecDepth 4000

/-- one seen batch, entry's way -/
def okS (least next : Int) (s : Seen) : Bool := decide (least ≤ s.seq) && decide (s.seq ≤ next) && (decide (1 ≤ s.count) && decide (s.count ≤ 4)) && (decide (-1 ≤ s.base) && decide (s.base ≤ 1048576))
def leastAt (l : List Seen) : Nat → Int
  | 0 => 0
  | i + 1 => match l[i]? with
    | some s => s.seq + s.count
    | none => 0
def e41 (p : Prod) (i : Nat) : Env := [(1, .ptr 0 0), (3, .int .i64 (leastAt p.seen i)), (25, .slice false (p.seen.map encS)), (26, .int .i64 p.seen.length), (27, .int .i64 i)]
theorem body41 (p : Prod) (hn : p.next ≤ 1048576) (hl : p.seen.length ≤ 3) (i : Nat) (h0 : 0 ≤ leastAt p.seen i) : exec (run tab) tab.esc loopW 0 l41_0 (e41 p i) [encP p] = if h : i < p.seen.length then (if okS (leastAt p.seen i) p.next (p.seen[i]'h) then some (Ex.normal, e41 p (i + 1), [encP p]) else some (Ex.ret, [(2, Dat.bool false)], [])) else
      some (Ex.exit 0, [(1, .ptr 0 0), (3, .int .i64 (leastAt p.seen i)), (25, .slice false (p.seen.map encS)), (26, .int .i64 p.seen.length), (27, .int .i64 i), (28, Dat.bool false)], [encP p]) := by
  by_cases h1 : i < p.seen.length
  · have hw : IntKind.wrap .i64 ((i : Int) + 1) = i + 1 := wrap64 (by omega) (by omega)
    have hle : leastAt p.seen (i + 1) = (p.seen[i]).seq + (p.seen[i]).count := by simp [leastAt, h1]
    by_cases h2 : (p.seen[i]).seq < leastAt p.seen i
    · have h2' : ¬ leastAt p.seen i ≤ (p.seen[i]).seq := by omega
      simp [l41_0, x41_5, q41_5_0, x41_6, q41_6_0, x41_7, q41_7_0, q41_7_1, q41_7_2, q41_7_3, x41_8, q41_8_0, x41_9, q41_9_0, x41_10, q41_10_0, e41, h1, h2, hw, esc_58, t58, okS, h2']
    · have h2' : leastAt p.seen i ≤ (p.seen[i]).seq := by omega
      by_cases h3 : p.next < (p.seen[i]).seq
      · have h3' : ¬ (p.seen[i]).seq ≤ p.next := by omega
        simp [l41_0, x41_5, q41_5_0, x41_6, q41_6_0, x41_7, q41_7_0, q41_7_1, q41_7_2, q41_7_3, x41_8, q41_8_0, x41_9, q41_9_0, x41_10, q41_10_0, e41, h1, h2, h3, hw, esc_58, t58, okS, h2', h3']
      · have h3' : (p.seen[i]).seq ≤ p.next := by omega
        by_cases h4 : 1 ≤ (p.seen[i]).count ∧ (p.seen[i]).count ≤ 4
        · have hw2 : IntKind.wrap .i64 ((p.seen[i]).seq + (p.seen[i]).count) = (p.seen[i]).seq + (p.seen[i]).count := wrap64 (by omega) (by omega)
          by_cases h5 : -1 ≤ (p.seen[i]).base ∧ (p.seen[i]).base ≤ 1048576
          · simp [l41_0, x41_5, q41_5_0, x41_6, q41_6_0, x41_7, q41_7_0, q41_7_1, q41_7_2, q41_7_3, x41_8, q41_8_0, x41_9, q41_9_0, x41_10, q41_10_0, e41, h1, h2, h3, h4.1, h4.2, h5.1, h5.2, hw, hw2, esc_58, t58, okS, h2', h3', hle]
          · have h5' : (decide (-1 ≤ (p.seen[i]).base) && decide ((p.seen[i]).base ≤ 1048576)) = false := by simp; omega
            simp [l41_0, x41_5, q41_5_0, x41_6, q41_6_0, x41_7, q41_7_0, q41_7_1, q41_7_2, q41_7_3, x41_8, q41_8_0, x41_9, q41_9_0, x41_10, q41_10_0, e41, h1, h2, h3, h4.1, h4.2, h5', hw, esc_58, t58, okS, h2', h3']
        · have h4' : (decide (1 ≤ (p.seen[i]).count) && decide ((p.seen[i]).count ≤ 4)) = false := by simp; omega
          simp [l41_0, x41_5, q41_5_0, x41_6, q41_6_0, x41_7, q41_7_0, q41_7_1, q41_7_2, q41_7_3, x41_8, q41_8_0, x41_9, q41_9_0, x41_10, q41_10_0, e41, h1, h2, h3, h4', hw, esc_58, t58, okS, h2', h3']
  · simp [l41_0, x41_5, q41_5_0, x41_6, q41_6_0, x41_7, q41_7_0, q41_7_1, q41_7_2, q41_7_3, x41_8, q41_8_0, x41_9, q41_9_0, x41_10, q41_10_0, e41, h1]
end Go.Mir.A
namespace Go.Mir.A
attribute [local congr] bind_head
attribute [local simp] gc ofCells bindArgs resD St.get St.set Dat.underL Dat.underLL gc_self fillD elemsD rowsOk_nil rowsOk_cons rowsOk_app rowsOk_tk rowsOk_dp rowsOk_tl underLL_tl underLL_app underLL_tk underLL_dp nn1 nn2 take_rest take_full appD_nil Option.bind_some strip_undef strip1_undef norm_undef noTup_undef safe_undef cells_undef under_undef strip_int strip1_int norm_int noTup_int safe_int cells_int under_int strip_bool strip1_bool norm_bool noTup_bool safe_bool cells_bool under_bool strip_str strip1_str norm_str noTup_str safe_str cells_str under_str strip_agg strip1_agg norm_agg noTup_agg safe_agg cells_agg under_agg strip_tup strip1_tup norm_tup noTup_tup safe_tup cells_tup under_tup strip_slice strip1_slice norm_slice noTup_slice safe_slice cells_slice under_slice strip_nilp strip1_nilp norm_nilp noTup_nilp safe_nilp cells_nilp under_nilp strip_ptr strip1_ptr norm_ptr noTup_ptr safe_ptr cells_ptr under_ptr strip_rptr strip1_rptr norm_rptr noTup_rptr safe_rptr cells_rptr under_rptr strip_fn strip1_fn norm_fn noTup_fn safe_fn cells_fn under_fn strip_nilf strip1_nilf norm_nilf noTup_nilf safe_nilf cells_nilf under_nilf strip_iface strip1_iface norm_iface noTup_iface safe_iface cells_iface under_iface strip_nili strip1_nili norm_nili noTup_nili safe_nili cells_nili under_nili bin_add bin_sub bin_mul bin_quo bin_rem bin_eql bin_neq bin_lss bin_leq bin_gtr bin_geq bin_and bin_or bin_xor bin_andNot bin_shl bin_shr sbin_add sbin_eql sbin_neq sbin_lss sbin_leq sbin_gtr sbin_geq load_ptr load_rptr cellEq_int cellEq_bool cellEq_str cellsEq_nil cellsEq_cons rows_sl rows_str packD_one packD_nil packD_two leave_ret leave_normal leave_exit seqK_normal seqK_exit seqK_ret blockK_normal blockK_exit blockK_ret condK_bool exec_skip exec_exit exec_ret exec_loop exec_seq exec_block exec_cond ev_tmp ev_lit evs_nil evs_cons takeK_some take_tmp take_lit zk_eq keepK_some keepK_none keep_nil keep_cons putD_some putD_none put_eq get_nil get_cons steps_nil steps_cons step_none guardK_t guardK_f guardK_undef step_some pickV_bool eo_pick loadmV_ptr loadmV_rptr eo_loadm eo_load storeV_ptr eo_store storefV_ptr eo_storef clearK_ptr clearK_rptr clearK_none clear_eq nilCheckV_ptr nilCheckV_rptr nilCheckV_fn eo_nilCheck eqsV_agg eo_eqs eqbV_bool eo_eqb unV_neg unV_not eo_un convV_int eo_conv boundK_int bound_none bound_some sliceV_slice eo_slice substrV_str eo_substr fieldAddrV_ptr fieldAddrV_rptr eo_fieldAddr fieldV_agg eo_field indexV_slice eo_index indexArrV_ptr indexArrV_rptr eo_indexArr atV_str eo_at extractV_tup eo_extract extractnV_tup eo_extractn callV_fn eo_call callcV_fn eo_callc callrV_fn eo_callr callR_eq beq_st loadrV_rptr eo_loadr lenV_slice lenV_str eo_len appV_slice eo_append minV_int maxV_int eo_min2 eo_max2 eo_mov_t eo_mov_f eo_alloc eo_box eo_build eo_buildSlice eo_bin eo_mkfn callD_eq callC_eq encPs encP encB encS encR under_encP under_encS under_encR rowsOk_S rowsOk_P rowsOk_R
set_option linter.unusedSimpArgs false
set_option linter.unusedVariables false
set_option maxHeartbeats 1000000
set_option maxRecDepth 4000


def okAll : List Seen → Int → Int → Bool
  | [], least, next => decide (least ≤ next)
  | s :: r, least, next => okS least next s && okAll r (s.seq + s.count) next
def knownP (p : Prod) : Bool := (decide (1 ≤ p.pid) && decide (p.pid ≤ 8) && decide (0 ≤ p.epoch) && decide (p.epoch ≤ 100)) && (decide (0 ≤ p.next) && decide (p.next ≤ 1048576)) && decide (p.seen.length ≤ 3) && okAll p.seen 0 p.next

theorem loop41 (p : Prod) (hn : p.next ≤ 1048576) (hl : p.seen.length ≤ 3) : ∃ o, loopW (exec (run tab) tab.esc loopW 0 l41_0) (e41 p 0) [encP p] = some o ∧ o.1 ≠ .normal ∧
    ((o = (Ex.ret, [(2, Dat.bool false)], []) ∧ okAll p.seen 0 p.next = false) ∨ (o = (Ex.exit 0, [(1, .ptr 0 0), (3, .int .i64 (leastAt p.seen p.seen.length)), (25, .slice false (p.seen.map encS)), (26, .int .i64 p.seen.length), (27, .int .i64 p.seen.length), (28, Dat.bool false)], [encP p]) ∧ okAll p.seen 0 p.next = decide (leastAt p.seen p.seen.length ≤ p.next))) := by
  have := loop_inv (b := exec (run tab) tab.esc loopW 0 l41_0) (E := e41 p) (σ := [encP p]) p.seen.length (fun i => 0 ≤ leastAt p.seen i)
    (fun i o => (o = (Ex.ret, [(2, Dat.bool false)], []) ∧ okAll (p.seen.drop i) (leastAt p.seen i) p.next = false) ∨ (o = (Ex.exit 0, [(1, .ptr 0 0), (3, .int .i64 (leastAt p.seen p.seen.length)), (25, .slice false (p.seen.map encS)), (26, .int .i64 p.seen.length), (27, .int .i64 p.seen.length), (28, Dat.bool false)], [encP p]) ∧ okAll (p.seen.drop i) (leastAt p.seen i) p.next = decide (leastAt p.seen p.seen.length ≤ p.next)))
    (by simp [leastAt]) (fun hI => ⟨_, by rw [body41 p hn hl _ hI, dif_neg (by omega)], by simp, .inr ⟨rfl, by simp [okAll]⟩⟩) (fun i hi hI => by
      rw [body41 p hn hl i hI, dif_pos hi]
      have hd : p.seen.drop i = p.seen[i] :: p.seen.drop (i + 1) := List.drop_eq_getElem_cons hi
      have hle : leastAt p.seen (i + 1) = (p.seen[i]).seq + (p.seen[i]).count := by simp [leastAt, hi]
      cases hok : okS (leastAt p.seen i) p.next p.seen[i] with
      | true =>
        refine .inl ⟨by simp, ?_, fun o ho => ?_⟩
        · rw [hle]
          simp [okS] at hok
          omega
        · rw [hd]
          simp only [okAll, hok, Bool.true_and]
          rw [← hle]
          exact ho
      | false =>
        refine .inr ?_
        simp only [hok, Bool.false_eq_true, if_false]
        refine ⟨_, rfl, by simp, .inl ⟨rfl, ?_⟩⟩
        rw [hd]
        simp only [okAll, hok, Bool.false_and])
  simpa [leastAt] using this

theorem t41 (p : Prod) (hl : p.seen.length ≤ 9223372036854775807) : run tab 41 [.agg (encP p)] [] = some (.bool (knownP p), []) := by
  rw [run_eq, tab_41]
  by_cases h1 : (decide (1 ≤ p.pid) && decide (p.pid ≤ 8) && decide (0 ≤ p.epoch) && decide (p.epoch ≤ 100)) = true
  · by_cases h2 : (decide (0 ≤ p.next) && decide (p.next ≤ 1048576)) = true
    · by_cases h3 : (3 : Int) < p.seen.length
      · have h3' : ¬ p.seen.length ≤ 3 := by omega
        simp [m41, x41_0, q41_0_0, x41_1, q41_1_0, q41_1_1, q41_1_2, x41_2, q41_2_0, x41_3, q41_3_0, x41_4, q41_4_0, x41_11, q41_11_0, esc_57, esc_58, t57, t58, h1, h2, h3, knownP, h3']
      · have h3' : p.seen.length ≤ 3 := by omega
        have hn : p.next ≤ 1048576 := by simp at h2; exact h2.2
        obtain ⟨o, k1, k2, k3⟩ := loop41 p hn h3'
        simp [e41, leastAt] at k1
        rcases k3 with ⟨rfl, k3⟩ | ⟨rfl, k3⟩
        · simp [m41, x41_0, q41_0_0, x41_1, q41_1_0, q41_1_1, q41_1_2, x41_2, q41_2_0, x41_3, q41_3_0, x41_4, q41_4_0, x41_11, q41_11_0, esc_57, esc_58, t57, t58, h1, h2, h3, knownP, h3', k1, k3]
        · simp [m41, x41_0, q41_0_0, x41_1, q41_1_0, q41_1_1, q41_1_2, x41_2, q41_2_0, x41_3, q41_3_0, x41_4, q41_4_0, x41_11, q41_11_0, esc_57, esc_58, t57, t58, h1, h2, h3, knownP, h3', k1, k3]
    · simp only [Bool.not_eq_true] at h2
      simp [m41, x41_0, q41_0_0, x41_1, q41_1_0, q41_1_1, q41_1_2, x41_2, q41_2_0, x41_3, q41_3_0, x41_4, q41_4_0, x41_11, q41_11_0, esc_57, esc_58, t57, t58, h1, h2, knownP]
  · simp only [Bool.not_eq_true] at h1
    simp [m41, x41_0, q41_0_0, x41_1, q41_1_0, q41_1_1, q41_1_2, x41_2, q41_2_0, x41_3, q41_3_0, x41_4, q41_4_0, x41_11, q41_11_0, esc_57, esc_58, t57, t58, h1, knownP]
end Go.Mir.A
namespace Go.Mir.A
attribute [local congr] bind_head
attribute [local simp] gc ofCells bindArgs resD St.get St.set Dat.underL Dat.underLL gc_self fillD elemsD rowsOk_nil rowsOk_cons rowsOk_app rowsOk_tk rowsOk_dp rowsOk_tl underLL_tl underLL_app underLL_tk underLL_dp nn1 nn2 take_rest take_full appD_nil Option.bind_some strip_undef strip1_undef norm_undef noTup_undef safe_undef cells_undef under_undef strip_int strip1_int norm_int noTup_int safe_int cells_int under_int strip_bool strip1_bool norm_bool noTup_bool safe_bool cells_bool under_bool strip_str strip1_str norm_str noTup_str safe_str cells_str under_str strip_agg strip1_agg norm_agg noTup_agg safe_agg cells_agg under_agg strip_tup strip1_tup norm_tup noTup_tup safe_tup cells_tup under_tup strip_slice strip1_slice norm_slice noTup_slice safe_slice cells_slice under_slice strip_nilp strip1_nilp norm_nilp noTup_nilp safe_nilp cells_nilp under_nilp strip_ptr strip1_ptr norm_ptr noTup_ptr safe_ptr cells_ptr under_ptr strip_rptr strip1_rptr norm_rptr noTup_rptr safe_rptr cells_rptr under_rptr strip_fn strip1_fn norm_fn noTup_fn safe_fn cells_fn under_fn strip_nilf strip1_nilf norm_nilf noTup_nilf safe_nilf cells_nilf under_nilf strip_iface strip1_iface norm_iface noTup_iface safe_iface cells_iface under_iface strip_nili strip1_nili norm_nili noTup_nili safe_nili cells_nili under_nili bin_add bin_sub bin_mul bin_quo bin_rem bin_eql bin_neq bin_lss bin_leq bin_gtr bin_geq bin_and bin_or bin_xor bin_andNot bin_shl bin_shr sbin_add sbin_eql sbin_neq sbin_lss sbin_leq sbin_gtr sbin_geq load_ptr load_rptr cellEq_int cellEq_bool cellEq_str cellsEq_nil cellsEq_cons rows_sl rows_str packD_one packD_nil packD_two leave_ret leave_normal leave_exit seqK_normal seqK_exit seqK_ret blockK_normal blockK_exit blockK_ret condK_bool exec_skip exec_exit exec_ret exec_loop exec_seq exec_block exec_cond ev_tmp ev_lit evs_nil evs_cons takeK_some take_tmp take_lit zk_eq keepK_some keepK_none keep_nil keep_cons putD_some putD_none put_eq get_nil get_cons steps_nil steps_cons step_none guardK_t guardK_f guardK_undef step_some pickV_bool eo_pick loadmV_ptr loadmV_rptr eo_loadm eo_load storeV_ptr eo_store storefV_ptr eo_storef clearK_ptr clearK_rptr clearK_none clear_eq nilCheckV_ptr nilCheckV_rptr nilCheckV_fn eo_nilCheck eqsV_agg eo_eqs eqbV_bool eo_eqb unV_neg unV_not eo_un convV_int eo_conv boundK_int bound_none bound_some sliceV_slice eo_slice substrV_str eo_substr fieldAddrV_ptr fieldAddrV_rptr eo_fieldAddr fieldV_agg eo_field indexV_slice eo_index indexArrV_ptr indexArrV_rptr eo_indexArr atV_str eo_at extractV_tup eo_extract extractnV_tup eo_extractn callV_fn eo_call callcV_fn eo_callc callrV_fn eo_callr callR_eq beq_st loadrV_rptr eo_loadr lenV_slice lenV_str eo_len appV_slice eo_append minV_int maxV_int eo_min2 eo_max2 eo_mov_t eo_mov_f eo_alloc eo_box eo_build eo_buildSlice eo_bin eo_mkfn callD_eq callC_eq encPs encP encB encS encR under_encP under_encS under_encR rowsOk_S rowsOk_P rowsOk_R
set_option linter.unusedSimpArgs false
set_option linter.unusedVariables false
set_option maxHeartbeats 1000000
set_option maxRecDepth 4000


def mayPs : List Prod → Int → Bool
  | [], _ => true
  | p :: r, last => decide (last < p.pid) && knownP p && mayPs r p.pid
def lastAt (l : List Prod) : Nat → Int
  | 0 => 0
  | i + 1 => match l[i]? with
    | some p => p.pid
    | none => 0
def e19 (l : List Prod) (i : Nat) : Env := [(3, .int .i64 (lastAt l i)), (6, encPs l), (7, .int .i64 l.length), (8, .int .i64 i)]
theorem body19 (l : List Prod) (hl : l.length ≤ 9223372036854775807) (hs : ∀ p ∈ l, p.seen.length ≤ 9223372036854775807) (i : Nat) : exec (run tab) tab.esc loopW 0 l19_0 (e19 l i) [] = if h : i < l.length then (if (decide (lastAt l i < (l[i]'h).pid) && knownP (l[i]'h)) = true then some (Ex.normal, e19 l (i + 1), []) else some (Ex.ret, [(2, Dat.bool false)], [])) else
      some (Ex.exit 0, [(3, .int .i64 (lastAt l i)), (6, encPs l), (7, .int .i64 l.length), (8, .int .i64 i), (9, Dat.bool false)], []) := by
  by_cases h1 : i < l.length
  · have hw : IntKind.wrap .i64 ((i : Int) + 1) = i + 1 := wrap64 (by omega) (by omega)
    have hle : lastAt l (i + 1) = (l[i]).pid := by simp [lastAt, h1]
    have hk := t41 l[i] (hs _ (List.getElem_mem h1))
    simp at hk
    by_cases h2 : (l[i]).pid ≤ lastAt l i
    · have h2' : ¬ lastAt l i < (l[i]).pid := by omega
      simp [l19_0, x19_3, q19_3_0, x19_4, q19_4_0, x19_5, q19_5_0, q19_5_1, x19_6, q19_6_0, x19_7, q19_7_0, x19_8, q19_8_0, e19, h1, h2, hw, h2']
    · have h2' : lastAt l i < (l[i]).pid := by omega
      cases hkn : knownP l[i] with
      | true => rw [hkn] at hk; simp [l19_0, x19_3, q19_3_0, x19_4, q19_4_0, x19_5, q19_5_0, q19_5_1, x19_6, q19_6_0, x19_7, q19_7_0, x19_8, q19_8_0, e19, h1, h2, hw, h2', hk, hkn, esc_41, hle]
      | false => rw [hkn] at hk; simp [l19_0, x19_3, q19_3_0, x19_4, q19_4_0, x19_5, q19_5_0, q19_5_1, x19_6, q19_6_0, x19_7, q19_7_0, x19_8, q19_8_0, e19, h1, h2, hw, h2', hk, hkn, esc_41]
  · simp [l19_0, x19_3, q19_3_0, x19_4, q19_4_0, x19_5, q19_5_0, q19_5_1, x19_6, q19_6_0, x19_7, q19_7_0, x19_8, q19_8_0, e19, h1]
theorem t19 (l : List Prod) (hl : l.length ≤ 9223372036854775807) (hs : ∀ p ∈ l, p.seen.length ≤ 9223372036854775807) : run tab 19 [encPs l] [] = some (.bool (mayPs l 0), []) := by
  obtain ⟨o, k1, k2, k3⟩ := loop_rounds (b := exec (run tab) tab.esc loopW 0 l19_0) (E := e19 l) (σ := []) l.length
    (fun i o => (o = (Ex.ret, [(2, Dat.bool false)], []) ∧ mayPs (l.drop i) (lastAt l i) = false) ∨ (o = (Ex.exit 0, [(3, .int .i64 (lastAt l l.length)), (6, encPs l), (7, .int .i64 l.length), (8, .int .i64 l.length), (9, Dat.bool false)], []) ∧ mayPs (l.drop i) (lastAt l i) = true))
    ⟨_, by rw [body19 l hl hs, dif_neg (by omega)], by simp, .inr ⟨rfl, by simp [mayPs]⟩⟩ (fun i hi => by
      rw [body19 l hl hs, dif_pos hi]
      have hd : l.drop i = l[i] :: l.drop (i + 1) := List.drop_eq_getElem_cons hi
      have hle : lastAt l (i + 1) = (l[i]).pid := by simp [lastAt, hi]
      cases hok : (decide (lastAt l i < (l[i]).pid) && knownP l[i]) with
      | true =>
        refine .inl ⟨by simp, fun o ho => ?_⟩
        rw [hd]
        simp only [mayPs, hok, Bool.true_and]
        rw [← hle]
        exact ho
      | false =>
        refine .inr ?_
        simp only [Bool.false_eq_true, if_false]
        refine ⟨_, rfl, by simp, .inl ⟨rfl, ?_⟩⟩
        rw [hd]
        simp only [mayPs, hok, Bool.false_and])
  simp [e19, lastAt] at k1
  rw [run_eq, tab_19]
  rcases k3 with ⟨rfl, k3⟩ | ⟨rfl, k3⟩
  · simp [lastAt] at k3
    simp [m19, x19_0, q19_0_0, x19_1, q19_1_0, x19_2, q19_2_0, x19_9, q19_9_0, k1, k3]
  · simp [lastAt] at k3
    simp [lastAt] at k1
    simp [m19, x19_0, q19_0_0, x19_1, q19_1_0, x19_2, q19_2_0, x19_9, q19_9_0, k1, k3]
end Go.Mir.A
namespace Go.Mir.A
attribute [local congr] bind_head
attribute [local simp] gc ofCells bindArgs resD St.get St.set Dat.underL Dat.underLL gc_self fillD elemsD rowsOk_nil rowsOk_cons rowsOk_app rowsOk_tk rowsOk_dp rowsOk_tl underLL_tl underLL_app underLL_tk underLL_dp nn1 nn2 take_rest take_full appD_nil Option.bind_some strip_undef strip1_undef norm_undef noTup_undef safe_undef cells_undef under_undef strip_int strip1_int norm_int noTup_int safe_int cells_int under_int strip_bool strip1_bool norm_bool noTup_bool safe_bool cells_bool under_bool strip_str strip1_str norm_str noTup_str safe_str cells_str under_str strip_agg strip1_agg norm_agg noTup_agg safe_agg cells_agg under_agg strip_tup strip1_tup norm_tup noTup_tup safe_tup cells_tup under_tup strip_slice strip1_slice norm_slice noTup_slice safe_slice cells_slice under_slice strip_nilp strip1_nilp norm_nilp noTup_nilp safe_nilp cells_nilp under_nilp strip_ptr strip1_ptr norm_ptr noTup_ptr safe_ptr cells_ptr under_ptr strip_rptr strip1_rptr norm_rptr noTup_rptr safe_rptr cells_rptr under_rptr strip_fn strip1_fn norm_fn noTup_fn safe_fn cells_fn under_fn strip_nilf strip1_nilf norm_nilf noTup_nilf safe_nilf cells_nilf under_nilf strip_iface strip1_iface norm_iface noTup_iface safe_iface cells_iface under_iface strip_nili strip1_nili norm_nili noTup_nili safe_nili cells_nili under_nili bin_add bin_sub bin_mul bin_quo bin_rem bin_eql bin_neq bin_lss bin_leq bin_gtr bin_geq bin_and bin_or bin_xor bin_andNot bin_shl bin_shr sbin_add sbin_eql sbin_neq sbin_lss sbin_leq sbin_gtr sbin_geq load_ptr load_rptr cellEq_int cellEq_bool cellEq_str cellsEq_nil cellsEq_cons rows_sl rows_str packD_one packD_nil packD_two leave_ret leave_normal leave_exit seqK_normal seqK_exit seqK_ret blockK_normal blockK_exit blockK_ret condK_bool exec_skip exec_exit exec_ret exec_loop exec_seq exec_block exec_cond ev_tmp ev_lit evs_nil evs_cons takeK_some take_tmp take_lit zk_eq keepK_some keepK_none keep_nil keep_cons putD_some putD_none put_eq get_nil get_cons steps_nil steps_cons step_none guardK_t guardK_f guardK_undef step_some pickV_bool eo_pick loadmV_ptr loadmV_rptr eo_loadm eo_load storeV_ptr eo_store storefV_ptr eo_storef clearK_ptr clearK_rptr clearK_none clear_eq nilCheckV_ptr nilCheckV_rptr nilCheckV_fn eo_nilCheck eqsV_agg eo_eqs eqbV_bool eo_eqb unV_neg unV_not eo_un convV_int eo_conv boundK_int bound_none bound_some sliceV_slice eo_slice substrV_str eo_substr fieldAddrV_ptr fieldAddrV_rptr eo_fieldAddr fieldV_agg eo_field indexV_slice eo_index indexArrV_ptr indexArrV_rptr eo_indexArr atV_str eo_at extractV_tup eo_extract extractnV_tup eo_extractn callV_fn eo_call callcV_fn eo_callc callrV_fn eo_callr callR_eq beq_st loadrV_rptr eo_loadr lenV_slice lenV_str eo_len appV_slice eo_append minV_int maxV_int eo_min2 eo_max2 eo_mov_t eo_mov_f eo_alloc eo_box eo_build eo_buildSlice eo_bin eo_mkfn callD_eq callC_eq encPs encP encB encS encR under_encP under_encS under_encR rowsOk_S rowsOk_P rowsOk_R
set_option linter.unusedSimpArgs false
set_option linter.unusedVariables false
set_option maxHeartbeats 1000000
set_option maxRecDepth 4000


def sameS (a b : Seen) : Bool := decide (a.seq = b.seq) && (decide (a.count = b.count) && decide (a.base = b.base))
def e22 (i : Nat) : Env := [(2, .ptr 0 0), (3, .ptr 1 0), (5, .int .i64 i)]
theorem body22 (a b : Prod) (hl : a.seen.length ≤ 9223372036854775807) (hab : a.seen.length = b.seen.length) (i : Nat) : exec (run tab) tab.esc loopW 0 l22_0 (e22 i) [encP b, encP a] = if h : i < a.seen.length then (if sameS (a.seen[i]'h) (b.seen[i]'(hab ▸ h)) = true then some (Ex.normal, e22 (i + 1), [encP b, encP a]) else some (Ex.ret, [(4, Dat.bool false)], [])) else
      some (Ex.exit 0, [(2, .ptr 0 0), (3, .ptr 1 0), (5, .int .i64 i), (38, Dat.bool false)], [encP b, encP a]) := by
  by_cases h1 : i < a.seen.length
  · have h1' : i < b.seen.length := by omega
    have hw : IntKind.wrap .i64 ((i : Int) + 1) = i + 1 := wrap64 (by omega) (by omega)
    cases hs : sameS a.seen[i] b.seen[i] with
    | true =>
      simp only [sameS] at hs
      simp [l22_0, x22_4, q22_4_0, x22_5, q22_5_0, x22_6, q22_6_0, q22_6_1, x22_7, q22_7_0, e22, h1, h1', hw, hs, sameS]
    | false =>
      simp only [sameS] at hs
      simp [l22_0, x22_4, q22_4_0, x22_5, q22_5_0, x22_6, q22_6_0, q22_6_1, x22_7, q22_7_0, e22, h1, h1', hw, hs, sameS]
  · simp [l22_0, x22_4, q22_4_0, x22_5, q22_5_0, x22_6, q22_6_0, q22_6_1, x22_7, q22_7_0, e22, h1]

def sameSeen : List Seen → List Seen → Bool
  | [], [] => true
  | a :: x, b :: y => sameS a b && sameSeen x y
  | _, _ => false
def sameP (a b : Prod) : Bool := decide (a.pid = b.pid) && (decide (a.epoch = b.epoch) && (decide (a.next = b.next) && (decide (a.seen.length = b.seen.length) && sameSeen a.seen b.seen)))
theorem t22 (a b : Prod) (hl : a.seen.length ≤ 9223372036854775807) : run tab 22 [.agg (encP a), .agg (encP b)] [] = some (.bool (sameP a b), []) := by
  rw [run_eq, tab_22]
  by_cases h1 : a.pid = b.pid
  · by_cases h2 : a.epoch = b.epoch
    · by_cases h3 : a.next = b.next
      · by_cases h4 : (a.seen.length : Int) = b.seen.length
        · have h4' : a.seen.length = b.seen.length := by omega
          obtain ⟨o, k1, k2, k3⟩ := loop_rounds (b := exec (run tab) tab.esc loopW 0 l22_0) (E := e22) (σ := [encP b, encP a]) a.seen.length
            (fun i o => (o = (Ex.ret, [(4, Dat.bool false)], []) ∧ sameSeen (a.seen.drop i) (b.seen.drop i) = false) ∨ (o = (Ex.exit 0, [(2, .ptr 0 0), (3, .ptr 1 0), (5, .int .i64 a.seen.length), (38, Dat.bool false)], [encP b, encP a]) ∧ sameSeen (a.seen.drop i) (b.seen.drop i) = true))
            ⟨_, by rw [body22 a b hl h4', dif_neg (by omega)], by simp, .inr ⟨rfl, by rw [List.drop_length, h4', List.drop_length]; rfl⟩⟩ (fun i hi => by
              rw [body22 a b hl h4', dif_pos hi]
              have hd : a.seen.drop i = a.seen[i] :: a.seen.drop (i + 1) := List.drop_eq_getElem_cons hi
              have hd' : b.seen.drop i = b.seen[i] :: b.seen.drop (i + 1) := List.drop_eq_getElem_cons (by omega)
              cases hok : sameS a.seen[i] b.seen[i] with
              | true =>
                refine .inl ⟨by simp, fun o ho => ?_⟩
                rw [hd, hd']
                simp only [sameSeen, hok, Bool.true_and]
                exact ho
              | false =>
                refine .inr ?_
                simp only [Bool.false_eq_true, if_false]
                refine ⟨_, rfl, by simp, .inl ⟨rfl, ?_⟩⟩
                rw [hd, hd']
                simp only [sameSeen, hok, Bool.false_and])
          simp only [List.drop_zero] at k3
          simp [e22, h1, h2, h3, h4'] at k1
          rcases k3 with ⟨rfl, k3⟩ | ⟨rfl, k3⟩
          · simp [m22, x22_0, q22_0_0, x22_1, q22_1_0, q22_1_1, q22_1_2, q22_1_3, q22_1_4, x22_2, q22_2_0, x22_3, q22_3_0, x22_8, q22_8_0, h1, h2, h3, h4', sameP, k1, k3]
          · simp [h1, h2, h3, h4'] at k1
            simp [m22, x22_0, q22_0_0, x22_1, q22_1_0, q22_1_1, q22_1_2, q22_1_3, q22_1_4, x22_2, q22_2_0, x22_3, q22_3_0, x22_8, q22_8_0, h1, h2, h3, h4', sameP, k1, k3]
        · have h4' : ¬ a.seen.length = b.seen.length := by omega
          simp [m22, x22_0, q22_0_0, x22_1, q22_1_0, q22_1_1, q22_1_2, q22_1_3, q22_1_4, x22_2, q22_2_0, x22_3, q22_3_0, x22_8, q22_8_0, h1, h2, h3, h4, h4', sameP]
      · simp [m22, x22_0, q22_0_0, x22_1, q22_1_0, q22_1_1, q22_1_2, q22_1_3, q22_1_4, x22_2, q22_2_0, x22_3, q22_3_0, x22_8, q22_8_0, h1, h2, h3, sameP]
    · simp [m22, x22_0, q22_0_0, x22_1, q22_1_0, q22_1_1, q22_1_2, q22_1_3, q22_1_4, x22_2, q22_2_0, x22_3, q22_3_0, x22_8, q22_8_0, h1, h2, sameP]
  · simp [m22, x22_0, q22_0_0, x22_1, q22_1_0, q22_1_1, q22_1_2, q22_1_3, q22_1_4, x22_2, q22_2_0, x22_3, q22_3_0, x22_8, q22_8_0, h1, sameP]
end Go.Mir.A
namespace Go.Mir.A
attribute [local congr] bind_head
attribute [local simp] gc ofCells bindArgs resD St.get St.set Dat.underL Dat.underLL gc_self fillD elemsD rowsOk_nil rowsOk_cons rowsOk_app rowsOk_tk rowsOk_dp rowsOk_tl underLL_tl underLL_app underLL_tk underLL_dp nn1 nn2 take_rest take_full appD_nil Option.bind_some strip_undef strip1_undef norm_undef noTup_undef safe_undef cells_undef under_undef strip_int strip1_int norm_int noTup_int safe_int cells_int under_int strip_bool strip1_bool norm_bool noTup_bool safe_bool cells_bool under_bool strip_str strip1_str norm_str noTup_str safe_str cells_str under_str strip_agg strip1_agg norm_agg noTup_agg safe_agg cells_agg under_agg strip_tup strip1_tup norm_tup noTup_tup safe_tup cells_tup under_tup strip_slice strip1_slice norm_slice noTup_slice safe_slice cells_slice under_slice strip_nilp strip1_nilp norm_nilp noTup_nilp safe_nilp cells_nilp under_nilp strip_ptr strip1_ptr norm_ptr noTup_ptr safe_ptr cells_ptr under_ptr strip_rptr strip1_rptr norm_rptr noTup_rptr safe_rptr cells_rptr under_rptr strip_fn strip1_fn norm_fn noTup_fn safe_fn cells_fn under_fn strip_nilf strip1_nilf norm_nilf noTup_nilf safe_nilf cells_nilf under_nilf strip_iface strip1_iface norm_iface noTup_iface safe_iface cells_iface under_iface strip_nili strip1_nili norm_nili noTup_nili safe_nili cells_nili under_nili bin_add bin_sub bin_mul bin_quo bin_rem bin_eql bin_neq bin_lss bin_leq bin_gtr bin_geq bin_and bin_or bin_xor bin_andNot bin_shl bin_shr sbin_add sbin_eql sbin_neq sbin_lss sbin_leq sbin_gtr sbin_geq load_ptr load_rptr cellEq_int cellEq_bool cellEq_str cellsEq_nil cellsEq_cons rows_sl rows_str packD_one packD_nil packD_two leave_ret leave_normal leave_exit seqK_normal seqK_exit seqK_ret blockK_normal blockK_exit blockK_ret condK_bool exec_skip exec_exit exec_ret exec_loop exec_seq exec_block exec_cond ev_tmp ev_lit evs_nil evs_cons takeK_some take_tmp take_lit zk_eq keepK_some keepK_none keep_nil keep_cons putD_some putD_none put_eq get_nil get_cons steps_nil steps_cons step_none guardK_t guardK_f guardK_undef step_some pickV_bool eo_pick loadmV_ptr loadmV_rptr eo_loadm eo_load storeV_ptr eo_store storefV_ptr eo_storef clearK_ptr clearK_rptr clearK_none clear_eq nilCheckV_ptr nilCheckV_rptr nilCheckV_fn eo_nilCheck eqsV_agg eo_eqs eqbV_bool eo_eqb unV_neg unV_not eo_un convV_int eo_conv boundK_int bound_none bound_some sliceV_slice eo_slice substrV_str eo_substr fieldAddrV_ptr fieldAddrV_rptr eo_fieldAddr fieldV_agg eo_field indexV_slice eo_index indexArrV_ptr indexArrV_rptr eo_indexArr atV_str eo_at extractV_tup eo_extract extractnV_tup eo_extractn callV_fn eo_call callcV_fn eo_callc callrV_fn eo_callr callR_eq beq_st loadrV_rptr eo_loadr lenV_slice lenV_str eo_len appV_slice eo_append minV_int maxV_int eo_min2 eo_max2 eo_mov_t eo_mov_f eo_alloc eo_box eo_build eo_buildSlice eo_bin eo_mkfn callD_eq callC_eq encPs encP encB encS encR under_encP under_encS under_encR rowsOk_S rowsOk_P rowsOk_R
set_option linter.unusedSimpArgs false
set_option linter.unusedVariables false
set_option maxHeartbeats 1000000
set_option maxRecDepth 4000


theorem under_encP0 (p : Prod) : Dat.underL 0 (encP p) = true := by simp [encP, Dat.underL, Dat.under, under_encS]
def e14 (a b : List Prod) (i : Nat) : Env := [(0, encPs a), (1, encPs b), (5, .int .i64 i)]
theorem body14 (a b : List Prod) (hl : a.length ≤ 9223372036854775807) (hs : ∀ p ∈ a, p.seen.length ≤ 9223372036854775807) (hab : a.length = b.length) (i : Nat) : exec (run tab) tab.esc loopW 0 l14_0 (e14 a b i) [] = if h : i < a.length then (if sameP (a[i]'h) (b[i]'(hab ▸ h)) = true then some (Ex.normal, e14 a b (i + 1), []) else some (Ex.ret, [(4, Dat.bool false)], [])) else
      some (Ex.exit 0, [(0, encPs a), (1, encPs b), (5, .int .i64 i), (14, Dat.bool false)], []) := by
  by_cases h1 : i < a.length
  · have h1' : i < b.length := by omega
    have hw : IntKind.wrap .i64 ((i : Int) + 1) = i + 1 := wrap64 (by omega) (by omega)
    have hk := t22 a[i] b[i] (hs _ (List.getElem_mem h1))
    simp at hk
    cases hkn : sameP a[i] b[i] with
    | true => rw [hkn] at hk; simp [l14_0, x14_4, q14_4_0, x14_5, q14_5_0, x14_6, q14_6_0, q14_6_1, x14_7, q14_7_0, e14, h1, h1', hw, hk, hkn, esc_22, callC]
    | false => rw [hkn] at hk; simp [l14_0, x14_4, q14_4_0, x14_5, q14_5_0, x14_6, q14_6_0, q14_6_1, x14_7, q14_7_0, e14, h1, h1', hw, hk, hkn, esc_22, callC]
  · simp [l14_0, x14_4, q14_4_0, x14_5, q14_5_0, x14_6, q14_6_0, q14_6_1, x14_7, q14_7_0, e14, h1]

def samePs : List Prod → List Prod → Bool
  | [], [] => true
  | a :: x, b :: y => sameP a b && samePs x y
  | _, _ => false
theorem t14 (a b : List Prod) (hl : a.length ≤ 9223372036854775807) (hs : ∀ p ∈ a, p.seen.length ≤ 9223372036854775807) : run tab 14 [encPs a, encPs b] [] = some (.bool (decide (a.length = b.length) && samePs a b), []) := by
  rw [run_eq, tab_14]
  by_cases h4 : (a.length : Int) = b.length
  · have h4' : a.length = b.length := by omega
    obtain ⟨o, k1, k2, k3⟩ := loop_rounds (b := exec (run tab) tab.esc loopW 0 l14_0) (E := e14 a b) (σ := []) a.length
      (fun i o => (o = (Ex.ret, [(4, Dat.bool false)], []) ∧ samePs (a.drop i) (b.drop i) = false) ∨ (o = (Ex.exit 0, [(0, encPs a), (1, encPs b), (5, .int .i64 a.length), (14, Dat.bool false)], []) ∧ samePs (a.drop i) (b.drop i) = true))
      ⟨_, by rw [body14 a b hl hs h4', dif_neg (by omega)], by simp, .inr ⟨rfl, by rw [List.drop_length, h4', List.drop_length]; rfl⟩⟩ (fun i hi => by
        rw [body14 a b hl hs h4', dif_pos hi]
        have hd : a.drop i = a[i] :: a.drop (i + 1) := List.drop_eq_getElem_cons hi
        have hd' : b.drop i = b[i] :: b.drop (i + 1) := List.drop_eq_getElem_cons (by omega)
        cases hok : sameP a[i] b[i] with
        | true =>
          refine .inl ⟨by simp, fun o ho => ?_⟩
          rw [hd, hd']
          simp only [samePs, hok, Bool.true_and]
          exact ho
        | false =>
          refine .inr ?_
          simp only [Bool.false_eq_true, if_false]
          refine ⟨_, rfl, by simp, .inl ⟨rfl, ?_⟩⟩
          rw [hd, hd']
          simp only [samePs, hok, Bool.false_and])
    simp only [List.drop_zero] at k3
    rcases k3 with ⟨rfl, k3⟩ | ⟨rfl, k3⟩
    · simp [e14, h4'] at k1
      simp [m14, x14_0, q14_0_0, x14_1, q14_1_0, x14_2, q14_2_0, x14_3, q14_3_0, x14_8, q14_8_0, h4', k1, k3]
    · simp [e14, h4'] at k1
      simp [m14, x14_0, q14_0_0, x14_1, q14_1_0, x14_2, q14_2_0, x14_3, q14_3_0, x14_8, q14_8_0, h4', k1, k3]
  · have h4' : ¬ a.length = b.length := by omega
    simp [m14, x14_0, q14_0_0, x14_1, q14_1_0, x14_2, q14_2_0, x14_3, q14_3_0, x14_8, q14_8_0, h4, h4']
end Go.Mir.A
namespace Go.Mir.A
attribute [local congr] bind_head
attribute [local simp] gc ofCells bindArgs resD St.get St.set Dat.underL Dat.underLL gc_self fillD elemsD rowsOk_nil rowsOk_cons rowsOk_app rowsOk_tk rowsOk_dp rowsOk_tl underLL_tl underLL_app underLL_tk underLL_dp nn1 nn2 take_rest take_full appD_nil Option.bind_some strip_undef strip1_undef norm_undef noTup_undef safe_undef cells_undef under_undef strip_int strip1_int norm_int noTup_int safe_int cells_int under_int strip_bool strip1_bool norm_bool noTup_bool safe_bool cells_bool under_bool strip_str strip1_str norm_str noTup_str safe_str cells_str under_str strip_agg strip1_agg norm_agg noTup_agg safe_agg cells_agg under_agg strip_tup strip1_tup norm_tup noTup_tup safe_tup cells_tup under_tup strip_slice strip1_slice norm_slice noTup_slice safe_slice cells_slice under_slice strip_nilp strip1_nilp norm_nilp noTup_nilp safe_nilp cells_nilp under_nilp strip_ptr strip1_ptr norm_ptr noTup_ptr safe_ptr cells_ptr under_ptr strip_rptr strip1_rptr norm_rptr noTup_rptr safe_rptr cells_rptr under_rptr strip_fn strip1_fn norm_fn noTup_fn safe_fn cells_fn under_fn strip_nilf strip1_nilf norm_nilf noTup_nilf safe_nilf cells_nilf under_nilf strip_iface strip1_iface norm_iface noTup_iface safe_iface cells_iface under_iface strip_nili strip1_nili norm_nili noTup_nili safe_nili cells_nili under_nili bin_add bin_sub bin_mul bin_quo bin_rem bin_eql bin_neq bin_lss bin_leq bin_gtr bin_geq bin_and bin_or bin_xor bin_andNot bin_shl bin_shr sbin_add sbin_eql sbin_neq sbin_lss sbin_leq sbin_gtr sbin_geq load_ptr load_rptr cellEq_int cellEq_bool cellEq_str cellsEq_nil cellsEq_cons rows_sl rows_str packD_one packD_nil packD_two leave_ret leave_normal leave_exit seqK_normal seqK_exit seqK_ret blockK_normal blockK_exit blockK_ret condK_bool exec_skip exec_exit exec_ret exec_loop exec_seq exec_block exec_cond ev_tmp ev_lit evs_nil evs_cons takeK_some take_tmp take_lit zk_eq keepK_some keepK_none keep_nil keep_cons putD_some putD_none put_eq get_nil get_cons steps_nil steps_cons step_none guardK_t guardK_f guardK_undef step_some pickV_bool eo_pick loadmV_ptr loadmV_rptr eo_loadm eo_load storeV_ptr eo_store storefV_ptr eo_storef clearK_ptr clearK_rptr clearK_none clear_eq nilCheckV_ptr nilCheckV_rptr nilCheckV_fn eo_nilCheck eqsV_agg eo_eqs eqbV_bool eo_eqb unV_neg unV_not eo_un convV_int eo_conv boundK_int bound_none bound_some sliceV_slice eo_slice substrV_str eo_substr fieldAddrV_ptr fieldAddrV_rptr eo_fieldAddr fieldV_agg eo_field indexV_slice eo_index indexArrV_ptr indexArrV_rptr eo_indexArr atV_str eo_at extractV_tup eo_extract extractnV_tup eo_extractn callV_fn eo_call callcV_fn eo_callc callrV_fn eo_callr callR_eq beq_st loadrV_rptr eo_loadr lenV_slice lenV_str eo_len appV_slice eo_append minV_int maxV_int eo_min2 eo_max2 eo_mov_t eo_mov_f eo_alloc eo_box eo_build eo_buildSlice eo_bin eo_mkfn callD_eq callC_eq encPs encP encB encS encR under_encP under_encS under_encR rowsOk_S rowsOk_P rowsOk_R
set_option linter.unusedSimpArgs false
set_option linter.unusedVariables false
set_option maxHeartbeats 1000000
set_option maxRecDepth 4000

def e9 (l : List Prod) (i : Nat) : Env := [(0, encPs l), (3, .int .i64 i)]
theorem body9 (l : List Prod) (i : Nat) (hl : l.length ≤ 9223372036854775807) : exec (run tab) tab.esc loopW 0 l9_0 (e9 l i) [] =
    if h : i < l.length ∧ i ≤ 40 then (if 40 < (l[i]'h.1).seen.length then some (Ex.ret, [(2, Dat.bool true)], []) else some (Ex.normal, e9 l (i + 1), [])) else some (Ex.exit 0, [(0, encPs l), (3, Dat.int .i64 i), (11, Dat.bool false)], []) := by
  by_cases h1 : i < l.length
  · by_cases h2 : (i : Int) ≤ 40
    · have h2' : i ≤ 40 := by omega
      by_cases h3 : (40 : Int) < (l[i]).seen.length
      · have h3' : 40 < (l[i]).seen.length := by omega
        simp [l9_0, x9_2, q9_2_0, q9_2_1, x9_3, q9_3_0, x9_4, q9_4_0, q9_4_1, x9_5, q9_5_0, e9, h1, h2, h2', h3, h3']
      · have h3' : ¬ 40 < (l[i]).seen.length := by omega
        have hw : IntKind.wrap .i64 ((i : Int) + 1) = i + 1 := wrap64 (by omega) (by omega)
        simp [l9_0, x9_2, q9_2_0, q9_2_1, x9_3, q9_3_0, x9_4, q9_4_0, q9_4_1, x9_5, q9_5_0, e9, h1, h2, h2', h3, h3', hw]
    · have h2' : ¬ i ≤ 40 := by omega
      simp [l9_0, x9_2, q9_2_0, q9_2_1, x9_3, q9_3_0, x9_4, q9_4_0, q9_4_1, x9_5, q9_5_0, e9, h1, h2, h2']
  · simp [l9_0, x9_2, q9_2_0, q9_2_1, x9_3, q9_3_0, x9_4, q9_4_0, q9_4_1, x9_5, q9_5_0, e9, h1]

theorem loop9 (l : List Prod) (hl : l.length ≤ 9223372036854775807) : ∃ o, loopW (exec (run tab) tab.esc loopW 0 l9_0) (e9 l 0) [] = some o ∧ o.1 ≠ .normal ∧
    (o = (Ex.ret, [(2, Dat.bool true)], []) ∨ ((∃ j : Nat, o = (Ex.exit 0, [(0, encPs l), (3, Dat.int .i64 j), (11, Dat.bool false)], [])) ∧ (l.length ≤ 40 → ∀ k (hk : k < l.length), 0 ≤ k → (l[k]).seen.length ≤ 40))) := by
  refine loop_rounds l.length (fun i o => o = (Ex.ret, [(2, Dat.bool true)], []) ∨ ((∃ j : Nat, o = (Ex.exit 0, [(0, encPs l), (3, Dat.int .i64 j), (11, Dat.bool false)], [])) ∧ (l.length ≤ 40 → ∀ k (hk : k < l.length), i ≤ k → (l[k]).seen.length ≤ 40))) ?_ fun i hi => ?_
  · exact ⟨_, by rw [body9 l _ hl, dif_neg (by omega)], by simp, .inr ⟨⟨_, rfl⟩, fun _ k hk hik => by omega⟩⟩
  · rw [body9 l i hl]
    by_cases h40 : i ≤ 40
    · rw [dif_pos ⟨hi, h40⟩]
      by_cases hs : 40 < (l[i]).seen.length
      · rw [if_pos hs]
        exact .inr ⟨_, rfl, by simp, .inl rfl⟩
      · rw [if_neg hs]
        refine .inl ⟨rfl, fun o ho => ?_⟩
        rcases ho with ho | ⟨ho, hk⟩
        · exact .inl ho
        · refine .inr ⟨ho, fun hl40 k hk2 hik => ?_⟩
          by_cases hki : k = i
          · subst hki; omega
          · exact hk hl40 k hk2 (by omega)
    · rw [dif_neg (by omega)]
      exact .inr ⟨_, rfl, by simp, .inr ⟨⟨_, rfl⟩, fun hl40 => by omega⟩⟩

theorem t9 (l : List Prod) (hl : l.length ≤ 9223372036854775807) : ∃ r, run tab 9 [encPs l] [] = some (.bool r, []) ∧ (r = false → l.length ≤ 40 ∧ ∀ k (hk : k < l.length), (l[k]).seen.length ≤ 40) := by
  obtain ⟨o, h1, h2, h3⟩ := loop9 l hl
  rw [run_eq, tab_9]
  simp [e9] at h1
  rcases h3 with rfl | ⟨⟨j, rfl⟩, hk⟩
  · exact ⟨true, by simp [m9, x9_0, q9_0_0, x9_1, q9_1_0, x9_6, q9_6_0, h1], by simp⟩
  · refine ⟨decide (40 < (l.length : Int)), by simp [m9, x9_0, q9_0_0, x9_1, q9_1_0, x9_6, q9_6_0, h1], fun h => ?_⟩
    have : l.length ≤ 40 := by simp at h; omega
    exact ⟨this, fun k hk2 => hk this k hk2 (Nat.zero_le _)⟩
end Go.Mir.A
