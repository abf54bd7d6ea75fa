import Derived.Test.YtlpfeikoniepiaaRRL19
import Derived.Test.YtlpfeikoniepiaaRRMirSim
set_option linter.all false
namespace Go.Mir.A
attribute [local congr] bind_head
attribute [local simp] gc ofCells bindArgs resD St.get St.set Dat.underL Dat.underLL gc_self fillD elemsD rowsOk_nil rowsOk_cons rowsOk_app rowsOk_tk rowsOk_dp rowsOk_tl underLL_tl underLL_app underLL_tk underLL_dp nn1 nn2 take_rest take_full appD_nil Option.bind_some strip_undef strip1_undef norm_undef noTup_undef safe_undef cells_undef under_undef strip_int strip1_int norm_int noTup_int safe_int cells_int under_int strip_bool strip1_bool norm_bool noTup_bool safe_bool cells_bool under_bool strip_str strip1_str norm_str noTup_str safe_str cells_str under_str strip_agg strip1_agg norm_agg noTup_agg safe_agg cells_agg under_agg strip_tup strip1_tup norm_tup noTup_tup safe_tup cells_tup under_tup strip_slice strip1_slice norm_slice noTup_slice safe_slice cells_slice under_slice strip_nilp strip1_nilp norm_nilp noTup_nilp safe_nilp cells_nilp under_nilp strip_ptr strip1_ptr norm_ptr noTup_ptr safe_ptr cells_ptr under_ptr strip_rptr strip1_rptr norm_rptr noTup_rptr safe_rptr cells_rptr under_rptr strip_fn strip1_fn norm_fn noTup_fn safe_fn cells_fn under_fn strip_nilf strip1_nilf norm_nilf noTup_nilf safe_nilf cells_nilf under_nilf strip_iface strip1_iface norm_iface noTup_iface safe_iface cells_iface under_iface strip_nili strip1_nili norm_nili noTup_nili safe_nili cells_nili under_nili bin_add bin_sub bin_mul bin_quo bin_rem bin_eql bin_neq bin_lss bin_leq bin_gtr bin_geq bin_and bin_or bin_xor bin_andNot bin_shl bin_shr sbin_add sbin_eql sbin_neq sbin_lss sbin_leq sbin_gtr sbin_geq load_ptr load_rptr cellEq_int cellEq_bool cellEq_str cellsEq_nil cellsEq_cons rows_sl rows_str packD_one packD_nil packD_two leave_ret leave_normal leave_exit seqK_normal seqK_exit seqK_ret blockK_normal blockK_exit blockK_ret condK_bool exec_skip exec_exit exec_ret exec_loop exec_seq exec_block exec_cond ev_tmp ev_lit evs_nil evs_cons takeK_some take_tmp take_lit zk_eq keepK_some keepK_none keep_nil keep_cons putD_some putD_none put_eq get_nil get_cons steps_nil steps_cons step_none guardK_t guardK_f guardK_undef step_some pickV_bool eo_pick loadmV_ptr loadmV_rptr eo_loadm eo_load storeV_ptr eo_store storefV_ptr eo_storef clearK_ptr clearK_rptr clearK_none clear_eq nilCheckV_ptr nilCheckV_rptr nilCheckV_fn eo_nilCheck eqsV_agg eo_eqs eqbV_bool eo_eqb unV_neg unV_not eo_un convV_int eo_conv boundK_int bound_none bound_some sliceV_slice eo_slice substrV_str eo_substr fieldAddrV_ptr fieldAddrV_rptr eo_fieldAddr fieldV_agg eo_field indexV_slice eo_index indexArrV_ptr indexArrV_rptr eo_indexArr atV_str eo_at extractV_tup eo_extract extractnV_tup eo_extractn callV_fn eo_call callcV_fn eo_callc callrV_fn eo_callr callR_eq beq_st loadrV_rptr eo_loadr lenV_slice lenV_str eo_len appV_slice eo_append minV_int maxV_int eo_min2 eo_max2 eo_mov_t eo_mov_f eo_alloc eo_box eo_build eo_buildSlice eo_bin eo_mkfn callD_eq callC_eq encPs encP encB encS encR under_encP under_encS under_encR rowsOk_S rowsOk_P rowsOk_R
set_option linter.unusedSimpArgs false
set_option linter.unusedVariables false
set_option maxHeartbeats 1000000
set_option maxRecDepth 4000

def qSeen (b : Batch) (s : Seen) : Bool := decide (s.seq = b.seq) && decide (s.count = (b.recs.length : Int))
def dupOr (l : List Seen) (b : Batch) (x : Int × Bool × Int) : Int × Bool × Int := match l.find? (qSeen b) with
  | some s => (s.base, true, 0)
  | none => x
theorem dupOr_idx (b : Batch) (x : Int × Bool × Int) : ∀ l : List Seen, (if h : l.findIdx (qSeen b) < l.length then (l[l.findIdx (qSeen b)].base, true, 0) else x) = dupOr l b x := by
  intro l
  induction l with
  | nil => simp [dupOr]
  | cons s r ih =>
    unfold dupOr at ih ⊢
    rw [List.find?_cons]
    cases hq : qSeen b s with
    | true => simp [List.findIdx_cons, hq]
    | false =>
      simp only [List.findIdx_cons, hq, cond_false, List.length_cons, Nat.add_lt_add_iff_right, List.getElem_cons_succ]
      exact ih
theorem dupOr_cons (s : Seen) (r : List Seen) (b : Batch) (x : Int × Bool × Int) : dupOr (s :: r) b x = if qSeen b s then (s.base, true, 0) else dupOr r b x := by
  unfold dupOr
  rw [List.find?_cons]
  cases qSeen b s <;> rfl
theorem checkP_eq (l : List Prod) (b : Batch) : checkP l b =
  if mayPs l 0 = false ∨ mayB b = false then (0, false, 2) else
    if (findP l b.pid).2 = true ∧ b.epoch < (findP l b.pid).1.epoch then (0, false, 100) else
      if (findP l b.pid).2 = true ∧ b.epoch = (findP l b.pid).1.epoch then
        dupOr (findP l b.pid).1.seen b (if b.seq = (findP l b.pid).1.next then (-1, false, 0) else (0, false, 101))
      else if b.seq = 0 then (-1, false, 0) else (0, false, 101) := by
  rw [← dupOr_idx]; rfl

def e34 (i : Nat) : Env := [(3, .ptr 0 0), (7, .ptr 1 0), (9, .int .i64 i)]
theorem t34 (l : List Prod) (b : Batch) (hl : okL l) (hb : b.recs.length ≤ 1000) : run tab 34 [encPs l, .agg (encB b)] [] = some (encC (checkP l b), []) := by
  have h54 := t54 l hl
  have h15 := t15 b hb
  have h35 := t35 l b.pid (by have := hl.1; omega)
  simp at h54 h15 h35
  rw [run_eq, tab_34, checkP_eq]
  cases hm : mayPs l 0 with
  | false =>
    rw [hm] at h54
    simp [m34, x34_0, q34_0_0, x34_1, q34_1_0, q34_1_1, x34_2, q34_2_0, x34_3, q34_3_0, q34_3_1, x34_4, q34_4_0, q34_4_1, x34_5, q34_5_0, x34_6, q34_6_0, x34_7, q34_7_0, x34_8, q34_8_0, x34_9, q34_9_0, x34_10, q34_10_0, x34_11, q34_11_0, x34_13, q34_13_0, q34_13_1, q34_13_2, q34_13_3, x34_14, q34_14_0, q34_14_1, x34_12, q34_12_0, x34_15, q34_15_0, x34_16, q34_16_0, x34_17, q34_17_0, h54, esc_54, encC]
  | true =>
    rw [hm] at h54
    cases hb2 : mayB b with
    | false =>
      rw [hb2] at h15
      simp [m34, x34_0, q34_0_0, x34_1, q34_1_0, q34_1_1, x34_2, q34_2_0, x34_3, q34_3_0, q34_3_1, x34_4, q34_4_0, q34_4_1, x34_5, q34_5_0, x34_6, q34_6_0, x34_7, q34_7_0, x34_8, q34_8_0, x34_9, q34_9_0, x34_10, q34_10_0, x34_11, q34_11_0, x34_13, q34_13_0, q34_13_1, q34_13_2, q34_13_3, x34_14, q34_14_0, q34_14_1, x34_12, q34_12_0, x34_15, q34_15_0, x34_16, q34_16_0, x34_17, q34_17_0, h54, esc_54, h15, esc_15, encC]
    | true =>
      rw [hb2] at h15
      rcases hf : findP l b.pid with ⟨p, known⟩
      simp [hf] at h35
      cases known with
      | false =>
        obtain ⟨rfl, -⟩ := findP_none hf
        by_cases h0 : b.seq = 0
        · have h0 := eq_true h0
          simp [m34, x34_0, q34_0_0, x34_1, q34_1_0, q34_1_1, x34_2, q34_2_0, x34_3, q34_3_0, q34_3_1, x34_4, q34_4_0, q34_4_1, x34_5, q34_5_0, x34_6, q34_6_0, x34_7, q34_7_0, x34_8, q34_8_0, x34_9, q34_9_0, x34_10, q34_10_0, x34_11, q34_11_0, x34_13, q34_13_0, q34_13_1, q34_13_2, q34_13_3, x34_14, q34_14_0, q34_14_1, x34_12, q34_12_0, x34_15, q34_15_0, x34_16, q34_16_0, x34_17, q34_17_0, h54, esc_54, h15, esc_15, h35, esc_35, encC, hf, zeroP, h0]
        · simp [m34, x34_0, q34_0_0, x34_1, q34_1_0, q34_1_1, x34_2, q34_2_0, x34_3, q34_3_0, q34_3_1, x34_4, q34_4_0, q34_4_1, x34_5, q34_5_0, x34_6, q34_6_0, x34_7, q34_7_0, x34_8, q34_8_0, x34_9, q34_9_0, x34_10, q34_10_0, x34_11, q34_11_0, x34_13, q34_13_0, q34_13_1, q34_13_2, q34_13_3, x34_14, q34_14_0, q34_14_1, x34_12, q34_12_0, x34_15, q34_15_0, x34_16, q34_16_0, x34_17, q34_17_0, h54, esc_54, h15, esc_15, h35, esc_35, encC, hf, zeroP, h0]
      | true =>
        obtain ⟨hp, -⟩ := findP_mem hf
        have hps := (hl.2 p hp).1
        by_cases he1 : p.epoch < b.epoch
        · have he1' : ¬ b.epoch < p.epoch := by omega
          have he2 : ¬ b.epoch = p.epoch := by omega
          by_cases h0 : b.seq = 0
          · have h0 := eq_true h0
            simp [m34, x34_0, q34_0_0, x34_1, q34_1_0, q34_1_1, x34_2, q34_2_0, x34_3, q34_3_0, q34_3_1, x34_4, q34_4_0, q34_4_1, x34_5, q34_5_0, x34_6, q34_6_0, x34_7, q34_7_0, x34_8, q34_8_0, x34_9, q34_9_0, x34_10, q34_10_0, x34_11, q34_11_0, x34_13, q34_13_0, q34_13_1, q34_13_2, q34_13_3, x34_14, q34_14_0, q34_14_1, x34_12, q34_12_0, x34_15, q34_15_0, x34_16, q34_16_0, x34_17, q34_17_0, h54, esc_54, h15, esc_15, h35, esc_35, encC, he1, he1', he2, h0]
          · simp [m34, x34_0, q34_0_0, x34_1, q34_1_0, q34_1_1, x34_2, q34_2_0, x34_3, q34_3_0, q34_3_1, x34_4, q34_4_0, q34_4_1, x34_5, q34_5_0, x34_6, q34_6_0, x34_7, q34_7_0, x34_8, q34_8_0, x34_9, q34_9_0, x34_10, q34_10_0, x34_11, q34_11_0, x34_13, q34_13_0, q34_13_1, q34_13_2, q34_13_3, x34_14, q34_14_0, q34_14_1, x34_12, q34_12_0, x34_15, q34_15_0, x34_16, q34_16_0, x34_17, q34_17_0, h54, esc_54, h15, esc_15, h35, esc_35, encC, he1, he1', he2, h0]
        · by_cases he2 : b.epoch < p.epoch
          · simp [m34, x34_0, q34_0_0, x34_1, q34_1_0, q34_1_1, x34_2, q34_2_0, x34_3, q34_3_0, q34_3_1, x34_4, q34_4_0, q34_4_1, x34_5, q34_5_0, x34_6, q34_6_0, x34_7, q34_7_0, x34_8, q34_8_0, x34_9, q34_9_0, x34_10, q34_10_0, x34_11, q34_11_0, x34_13, q34_13_0, q34_13_1, q34_13_2, q34_13_3, x34_14, q34_14_0, q34_14_1, x34_12, q34_12_0, x34_15, q34_15_0, x34_16, q34_16_0, x34_17, q34_17_0, h54, esc_54, h15, esc_15, h35, esc_35, encC, he1, he2]
          · have he3 : (b.epoch = p.epoch) = True := eq_true (by omega)
            simp [m34, x34_0, q34_0_0, x34_1, q34_1_0, q34_1_1, x34_2, q34_2_0, x34_3, q34_3_0, q34_3_1, x34_4, q34_4_0, q34_4_1, x34_5, q34_5_0, x34_6, q34_6_0, x34_7, q34_7_0, x34_8, q34_8_0, x34_9, q34_9_0, x34_10, q34_10_0, x34_11, q34_11_0, x34_13, q34_13_0, q34_13_1, q34_13_2, q34_13_3, x34_14, q34_14_0, q34_14_1, x34_12, q34_12_0, x34_15, q34_15_0, x34_16, q34_16_0, x34_17, q34_17_0, h54, esc_54, h15, esc_15, h35, esc_35, he1, he2, he3]
            simp only [Option.bind_assoc]
            refine (loop_cont e34 (fun _ => [encP p, encB b]) p.seen.length (fun _ => True) (fun i => some (encC (dupOr (p.seen.drop i) b (if b.seq = p.next then (-1, false, 0) else (0, false, 101))), [])) trivial (fun _ => ?_) fun i hi _ => ?_)
            · by_cases hn : b.seq = p.next
              · have hn := eq_true hn
                simp [l34_0, m34, x34_0, q34_0_0, x34_1, q34_1_0, q34_1_1, x34_2, q34_2_0, x34_3, q34_3_0, q34_3_1, x34_4, q34_4_0, q34_4_1, x34_5, q34_5_0, x34_6, q34_6_0, x34_7, q34_7_0, x34_8, q34_8_0, x34_9, q34_9_0, x34_10, q34_10_0, x34_11, q34_11_0, x34_13, q34_13_0, q34_13_1, q34_13_2, q34_13_3, x34_14, q34_14_0, q34_14_1, x34_12, q34_12_0, x34_15, q34_15_0, x34_16, q34_16_0, x34_17, q34_17_0, e34, encC, hn, dupOr]
              · simp [l34_0, m34, x34_0, q34_0_0, x34_1, q34_1_0, q34_1_1, x34_2, q34_2_0, x34_3, q34_3_0, q34_3_1, x34_4, q34_4_0, q34_4_1, x34_5, q34_5_0, x34_6, q34_6_0, x34_7, q34_7_0, x34_8, q34_8_0, x34_9, q34_9_0, x34_10, q34_10_0, x34_11, q34_11_0, x34_13, q34_13_0, q34_13_1, q34_13_2, q34_13_3, x34_14, q34_14_0, q34_14_1, x34_12, q34_12_0, x34_15, q34_15_0, x34_16, q34_16_0, x34_17, q34_17_0, e34, encC, hn, dupOr]
            · have hw : IntKind.wrap .i64 ((i : Int) + 1) = i + 1 := wrap64 (by omega) (by omega)
              rw [List.drop_eq_getElem_cons hi, dupOr_cons]
              by_cases k1 : (p.seen[i]).seq = b.seq
              · have k1 := eq_true k1
                by_cases k2 : (p.seen[i]).count = b.recs.length
                · have k2 := eq_true k2
                  refine .inr ?_
                  simp [l34_0, m34, x34_0, q34_0_0, x34_1, q34_1_0, q34_1_1, x34_2, q34_2_0, x34_3, q34_3_0, q34_3_1, x34_4, q34_4_0, q34_4_1, x34_5, q34_5_0, x34_6, q34_6_0, x34_7, q34_7_0, x34_8, q34_8_0, x34_9, q34_9_0, x34_10, q34_10_0, x34_11, q34_11_0, x34_13, q34_13_0, q34_13_1, q34_13_2, q34_13_3, x34_14, q34_14_0, q34_14_1, x34_12, q34_12_0, x34_15, q34_15_0, x34_16, q34_16_0, x34_17, q34_17_0, e34, hi, k1, k2, qSeen, encC]
                · refine .inl ⟨?_, trivial, ?_⟩
                  · simp [l34_0, m34, x34_0, q34_0_0, x34_1, q34_1_0, q34_1_1, x34_2, q34_2_0, x34_3, q34_3_0, q34_3_1, x34_4, q34_4_0, q34_4_1, x34_5, q34_5_0, x34_6, q34_6_0, x34_7, q34_7_0, x34_8, q34_8_0, x34_9, q34_9_0, x34_10, q34_10_0, x34_11, q34_11_0, x34_13, q34_13_0, q34_13_1, q34_13_2, q34_13_3, x34_14, q34_14_0, q34_14_1, x34_12, q34_12_0, x34_15, q34_15_0, x34_16, q34_16_0, x34_17, q34_17_0, e34, hi, hw, k1, k2]
                  · simp [qSeen, k2]
              · refine .inl ⟨?_, trivial, ?_⟩
                · simp [l34_0, m34, x34_0, q34_0_0, x34_1, q34_1_0, q34_1_1, x34_2, q34_2_0, x34_3, q34_3_0, q34_3_1, x34_4, q34_4_0, q34_4_1, x34_5, q34_5_0, x34_6, q34_6_0, x34_7, q34_7_0, x34_8, q34_8_0, x34_9, q34_9_0, x34_10, q34_10_0, x34_11, q34_11_0, x34_13, q34_13_0, q34_13_1, q34_13_2, q34_13_3, x34_14, q34_14_0, q34_14_1, x34_12, q34_12_0, x34_15, q34_15_0, x34_16, q34_16_0, x34_17, q34_17_0, e34, hi, hw, k1]
                · simp [qSeen, k1]
end Go.Mir.A
