import Derived.Test.YtlpfeikoniepiaaRRLC
import Derived.Test.YtlpfeikoniepiaaRRLB
import Derived.Test.YtlpfeikoniepiaaRRMirSim
set_option linter.all false
namespace Go.Mir.A
attribute [local congr] bind_head
attribute [local simp] gc ofCells bindArgs resD St.get St.set Dat.underL Dat.underLL gc_self fillD elemsD rowsOk_nil rowsOk_cons rowsOk_app rowsOk_tk rowsOk_dp rowsOk_tl underLL_tl underLL_app underLL_tk underLL_dp nn1 nn2 take_rest take_full appD_nil Option.bind_some strip_undef strip1_undef norm_undef noTup_undef safe_undef cells_undef under_undef strip_int strip1_int norm_int noTup_int safe_int cells_int under_int strip_bool strip1_bool norm_bool noTup_bool safe_bool cells_bool under_bool strip_str strip1_str norm_str noTup_str safe_str cells_str under_str strip_agg strip1_agg norm_agg noTup_agg safe_agg cells_agg under_agg strip_tup strip1_tup norm_tup noTup_tup safe_tup cells_tup under_tup strip_slice strip1_slice norm_slice noTup_slice safe_slice cells_slice under_slice strip_nilp strip1_nilp norm_nilp noTup_nilp safe_nilp cells_nilp under_nilp strip_ptr strip1_ptr norm_ptr noTup_ptr safe_ptr cells_ptr under_ptr strip_rptr strip1_rptr norm_rptr noTup_rptr safe_rptr cells_rptr under_rptr strip_fn strip1_fn norm_fn noTup_fn safe_fn cells_fn under_fn strip_nilf strip1_nilf norm_nilf noTup_nilf safe_nilf cells_nilf under_nilf strip_iface strip1_iface norm_iface noTup_iface safe_iface cells_iface under_iface strip_nili strip1_nili norm_nili noTup_nili safe_nili cells_nili under_nili bin_add bin_sub bin_mul bin_quo bin_rem bin_eql bin_neq bin_lss bin_leq bin_gtr bin_geq bin_and bin_or bin_xor bin_andNot bin_shl bin_shr sbin_add sbin_eql sbin_neq sbin_lss sbin_leq sbin_gtr sbin_geq load_ptr load_rptr cellEq_int cellEq_bool cellEq_str cellsEq_nil cellsEq_cons rows_sl rows_str packD_one packD_nil packD_two leave_ret leave_normal leave_exit seqK_normal seqK_exit seqK_ret blockK_normal blockK_exit blockK_ret condK_bool exec_skip exec_exit exec_ret exec_loop exec_seq exec_block exec_cond ev_tmp ev_lit evs_nil evs_cons takeK_some take_tmp take_lit zk_eq keepK_some keepK_none keep_nil keep_cons putD_some putD_none put_eq get_nil get_cons steps_nil steps_cons step_none guardK_t guardK_f guardK_undef step_some pickV_bool eo_pick loadmV_ptr loadmV_rptr eo_loadm eo_load storeV_ptr eo_store storefV_ptr eo_storef clearK_ptr clearK_rptr clearK_none clear_eq nilCheckV_ptr nilCheckV_rptr nilCheckV_fn eo_nilCheck eqsV_agg eo_eqs eqbV_bool eo_eqb unV_neg unV_not eo_un convV_int eo_conv boundK_int bound_none bound_some sliceV_slice eo_slice substrV_str eo_substr fieldAddrV_ptr fieldAddrV_rptr eo_fieldAddr fieldV_agg eo_field indexV_slice eo_index indexArrV_ptr indexArrV_rptr eo_indexArr atV_str eo_at extractV_tup eo_extract extractnV_tup eo_extractn callV_fn eo_call callcV_fn eo_callc callrV_fn eo_callr callR_eq beq_st loadrV_rptr eo_loadr lenV_slice lenV_str eo_len appV_slice eo_append minV_int maxV_int eo_min2 eo_max2 eo_mov_t eo_mov_f eo_alloc eo_box eo_build eo_buildSlice eo_bin eo_mkfn callD_eq callC_eq encPs encP encB encS encR under_encP under_encS under_encR rowsOk_S rowsOk_P rowsOk_R
set_option linter.unusedSimpArgs false
set_option linter.unusedVariables false
set_option maxHeartbeats 1000000
set_option maxRecDepth 4000

theorem findP_mem {l : List Prod} {pid : Int} {p : Prod} (h : findP l pid = (p, true)) : p ∈ l ∧ p.pid = pid := by
  unfold findP at h
  split at h
  · rename_i h1
    injection h with h2 h3
    subst h2
    refine ⟨List.getElem_mem h1, ?_⟩
    have := List.findIdx_getElem (w := h1)
    exact of_decide_eq_true this
  · injection h with h2 h3; cases h3
theorem findP_none {l : List Prod} {pid : Int} {p : Prod} (h : findP l pid = (p, false)) : p = zeroP ∧ ∀ x ∈ l, x.pid ≠ pid := by
  unfold findP at h
  split at h
  · injection h with h2 h3; cases h3
  · rename_i h1
    injection h with h2 h3
    refine ⟨h2.symm, fun x hx hp => h1 ?_⟩
    exact List.findIdx_lt_length_of_exists ⟨x, hx, by simp [hp]⟩
def seenIdx (p : Prod) (b : Batch) : Nat := p.seen.findIdx fun s : Seen => decide (s.seq = b.seq) && decide (s.count = (b.recs.length : Int))
/-- what a batch is: its base, whether it is a duplicate, the error -/
def checkP (l : List Prod) (b : Batch) : Int × Bool × Int :=
  if mayPs l 0 = false ∨ mayB b = false then (0, false, 2) else
    if (findP l b.pid).2 = true ∧ b.epoch < (findP l b.pid).1.epoch then (0, false, 100) else
      if (findP l b.pid).2 = true ∧ b.epoch = (findP l b.pid).1.epoch then
        if h : seenIdx (findP l b.pid).1 b < (findP l b.pid).1.seen.length then ((findP l b.pid).1.seen[seenIdx (findP l b.pid).1 b].base, true, 0)
        else if b.seq = (findP l b.pid).1.next then (-1, false, 0) else (0, false, 101)
      else if b.seq = 0 then (-1, false, 0) else (0, false, 101)
def encC (c : Int × Bool × Int) : Dat := .tup [.int .i64 c.1, .bool c.2.1, .int .i64 c.2.2]
theorem t17 (l : List Prod) (b : Batch) (hl : okL l) (hb : b.recs.length ≤ 1000) : run tab 17 [encPs l, .agg (encB b)] [] = some (encC (checkP l b), []) := by
  have h19 := t19 l (by have := hl.1; omega) (fun p hp => by have := (hl.2 p hp).1; omega)
  have h38 := t38 b hb
  have h20 := t20 l b.pid (by have := hl.1; omega)
  simp at h19 h38 h20
  rw [run_eq, tab_17]
  cases hm : mayPs l 0 with
  | false =>
    rw [hm] at h19
    simp [m17, x17_0, q17_0_0, x17_1, q17_1_0, q17_1_1, x17_2, q17_2_0, x17_3, q17_3_0, q17_3_1, x17_4, q17_4_0, x17_5, q17_5_0, q17_5_1, x17_6, q17_6_0, q17_6_1, x17_7, q17_7_0, x17_8, q17_8_0, x17_9, q17_9_0, x17_10, q17_10_0, x17_11, q17_11_0, q17_11_1, x17_12, q17_12_0, x17_13, q17_13_0, x17_14, q17_14_0, x17_15, q17_15_0, x17_16, q17_16_0, x17_17, q17_17_0, h19, esc_19, hm, checkP, encC]
  | true =>
    rw [hm] at h19
    cases hb2 : mayB b with
    | false =>
      rw [hb2] at h38
      simp [m17, x17_0, q17_0_0, x17_1, q17_1_0, q17_1_1, x17_2, q17_2_0, x17_3, q17_3_0, q17_3_1, x17_4, q17_4_0, x17_5, q17_5_0, q17_5_1, x17_6, q17_6_0, q17_6_1, x17_7, q17_7_0, x17_8, q17_8_0, x17_9, q17_9_0, x17_10, q17_10_0, x17_11, q17_11_0, q17_11_1, x17_12, q17_12_0, x17_13, q17_13_0, x17_14, q17_14_0, x17_15, q17_15_0, x17_16, q17_16_0, x17_17, q17_17_0, h19, esc_19, hm, h38, esc_38, hb2, checkP, encC]
    | true =>
      rw [hb2] at h38
      rcases hf : findP l b.pid with ⟨p, known⟩
      simp [hf] at h20
      cases known with
      | false =>
        obtain ⟨rfl, -⟩ := findP_none hf
        by_cases h0 : b.seq = 0
        · have h0 := eq_true h0
          simp [m17, x17_0, q17_0_0, x17_1, q17_1_0, q17_1_1, x17_2, q17_2_0, x17_3, q17_3_0, q17_3_1, x17_4, q17_4_0, x17_5, q17_5_0, q17_5_1, x17_6, q17_6_0, q17_6_1, x17_7, q17_7_0, x17_8, q17_8_0, x17_9, q17_9_0, x17_10, q17_10_0, x17_11, q17_11_0, q17_11_1, x17_12, q17_12_0, x17_13, q17_13_0, x17_14, q17_14_0, x17_15, q17_15_0, x17_16, q17_16_0, x17_17, q17_17_0, h19, esc_19, hm, h38, esc_38, hb2, h20, esc_20, checkP, encC, hf, zeroP, h0]
        · simp [m17, x17_0, q17_0_0, x17_1, q17_1_0, q17_1_1, x17_2, q17_2_0, x17_3, q17_3_0, q17_3_1, x17_4, q17_4_0, x17_5, q17_5_0, q17_5_1, x17_6, q17_6_0, q17_6_1, x17_7, q17_7_0, x17_8, q17_8_0, x17_9, q17_9_0, x17_10, q17_10_0, x17_11, q17_11_0, q17_11_1, x17_12, q17_12_0, x17_13, q17_13_0, x17_14, q17_14_0, x17_15, q17_15_0, x17_16, q17_16_0, x17_17, q17_17_0, h19, esc_19, hm, h38, esc_38, hb2, h20, esc_20, checkP, encC, hf, zeroP, h0]
      | true =>
        obtain ⟨hp, -⟩ := findP_mem hf
        have hps := (hl.2 p hp).1
        by_cases he1 : b.epoch < p.epoch
        · simp [m17, x17_0, q17_0_0, x17_1, q17_1_0, q17_1_1, x17_2, q17_2_0, x17_3, q17_3_0, q17_3_1, x17_4, q17_4_0, x17_5, q17_5_0, q17_5_1, x17_6, q17_6_0, q17_6_1, x17_7, q17_7_0, x17_8, q17_8_0, x17_9, q17_9_0, x17_10, q17_10_0, x17_11, q17_11_0, q17_11_1, x17_12, q17_12_0, x17_13, q17_13_0, x17_14, q17_14_0, x17_15, q17_15_0, x17_16, q17_16_0, x17_17, q17_17_0, h19, esc_19, hm, h38, esc_38, hb2, h20, esc_20, checkP, encC, hf, he1]
        · by_cases he2 : b.epoch = p.epoch
          · have he2 := eq_true he2
            have h39 := t39 p.seen 40 0 b (fun s : Seen => decide (s.seq = b.seq) && decide (s.count = (b.recs.length : Int))) [encP p, encB b] (by omega) (fun s σ' h hid => t40 s b 0 σ' h hid) (by simp)
            simp at h39
            by_cases hi : seenIdx p b < p.seen.length
            · have hi' := hi
              unfold seenIdx at hi'
              simp [m17, x17_0, q17_0_0, x17_1, q17_1_0, q17_1_1, x17_2, q17_2_0, x17_3, q17_3_0, q17_3_1, x17_4, q17_4_0, x17_5, q17_5_0, q17_5_1, x17_6, q17_6_0, q17_6_1, x17_7, q17_7_0, x17_8, q17_8_0, x17_9, q17_9_0, x17_10, q17_10_0, x17_11, q17_11_0, q17_11_1, x17_12, q17_12_0, x17_13, q17_13_0, x17_14, q17_14_0, x17_15, q17_15_0, x17_16, q17_16_0, x17_17, q17_17_0, h19, esc_19, hm, h38, esc_38, hb2, h20, esc_20, checkP, encC, hf, he1, he2, h39, esc_39, hi, hi', seenIdx]
            · have hi' := hi
              unfold seenIdx at hi'
              by_cases hn : b.seq = p.next
              · have hn := eq_true hn
                simp [m17, x17_0, q17_0_0, x17_1, q17_1_0, q17_1_1, x17_2, q17_2_0, x17_3, q17_3_0, q17_3_1, x17_4, q17_4_0, x17_5, q17_5_0, q17_5_1, x17_6, q17_6_0, q17_6_1, x17_7, q17_7_0, x17_8, q17_8_0, x17_9, q17_9_0, x17_10, q17_10_0, x17_11, q17_11_0, q17_11_1, x17_12, q17_12_0, x17_13, q17_13_0, x17_14, q17_14_0, x17_15, q17_15_0, x17_16, q17_16_0, x17_17, q17_17_0, h19, esc_19, hm, h38, esc_38, hb2, h20, esc_20, checkP, encC, hf, he1, he2, h39, esc_39, hi, hi', hn]
              · simp [m17, x17_0, q17_0_0, x17_1, q17_1_0, q17_1_1, x17_2, q17_2_0, x17_3, q17_3_0, q17_3_1, x17_4, q17_4_0, x17_5, q17_5_0, q17_5_1, x17_6, q17_6_0, q17_6_1, x17_7, q17_7_0, x17_8, q17_8_0, x17_9, q17_9_0, x17_10, q17_10_0, x17_11, q17_11_0, q17_11_1, x17_12, q17_12_0, x17_13, q17_13_0, x17_14, q17_14_0, x17_15, q17_15_0, x17_16, q17_16_0, x17_17, q17_17_0, h19, esc_19, hm, h38, esc_38, hb2, h20, esc_20, checkP, encC, hf, he1, he2, h39, esc_39, hi, hi', hn]
          · by_cases h0 : b.seq = 0
            · have h0 := eq_true h0
              simp [m17, x17_0, q17_0_0, x17_1, q17_1_0, q17_1_1, x17_2, q17_2_0, x17_3, q17_3_0, q17_3_1, x17_4, q17_4_0, x17_5, q17_5_0, q17_5_1, x17_6, q17_6_0, q17_6_1, x17_7, q17_7_0, x17_8, q17_8_0, x17_9, q17_9_0, x17_10, q17_10_0, x17_11, q17_11_0, q17_11_1, x17_12, q17_12_0, x17_13, q17_13_0, x17_14, q17_14_0, x17_15, q17_15_0, x17_16, q17_16_0, x17_17, q17_17_0, h19, esc_19, hm, h38, esc_38, hb2, h20, esc_20, checkP, encC, hf, he1, he2, h0]
            · simp [m17, x17_0, q17_0_0, x17_1, q17_1_0, q17_1_1, x17_2, q17_2_0, x17_3, q17_3_0, q17_3_1, x17_4, q17_4_0, x17_5, q17_5_0, q17_5_1, x17_6, q17_6_0, q17_6_1, x17_7, q17_7_0, x17_8, q17_8_0, x17_9, q17_9_0, x17_10, q17_10_0, x17_11, q17_11_0, q17_11_1, x17_12, q17_12_0, x17_13, q17_13_0, x17_14, q17_14_0, x17_15, q17_15_0, x17_16, q17_16_0, x17_17, q17_17_0, h19, esc_19, hm, h38, esc_38, hb2, h20, esc_20, checkP, encC, hf, he1, he2, h0]
end Go.Mir.A
