import Derived.Test.YtlpfeikoniepiaaRRI4
set_option linter.all false
namespace Go.Mir.A
attribute [local congr] bind_head
attribute [local simp] encW encO encPt encE under_encB under_encW under_encO under_encE rowsOk_B rowsOk_W rowsOk_O rowsOk_E gc ofCells bindArgs resD St.get St.set Dat.underL Dat.underLL gc_self fillD elemsD rowsOk_nil rowsOk_cons rowsOk_app rowsOk_tk rowsOk_dp rowsOk_tl underLL_tl underLL_app underLL_tk underLL_dp nn1 nn2 take_rest take_full appD_nil Option.bind_some strip_undef strip1_undef norm_undef noTup_undef safe_undef cells_undef under_undef strip_int strip1_int norm_int noTup_int safe_int cells_int under_int strip_bool strip1_bool norm_bool noTup_bool safe_bool cells_bool under_bool strip_str strip1_str norm_str noTup_str safe_str cells_str under_str strip_agg strip1_agg norm_agg noTup_agg safe_agg cells_agg under_agg strip_tup strip1_tup norm_tup noTup_tup safe_tup cells_tup under_tup strip_slice strip1_slice norm_slice noTup_slice safe_slice cells_slice under_slice strip_nilp strip1_nilp norm_nilp noTup_nilp safe_nilp cells_nilp under_nilp strip_ptr strip1_ptr norm_ptr noTup_ptr safe_ptr cells_ptr under_ptr strip_rptr strip1_rptr norm_rptr noTup_rptr safe_rptr cells_rptr under_rptr strip_fn strip1_fn norm_fn noTup_fn safe_fn cells_fn under_fn strip_nilf strip1_nilf norm_nilf noTup_nilf safe_nilf cells_nilf under_nilf strip_iface strip1_iface norm_iface noTup_iface safe_iface cells_iface under_iface strip_nili strip1_nili norm_nili noTup_nili safe_nili cells_nili under_nili bin_add bin_sub bin_mul bin_quo bin_rem bin_eql bin_neq bin_lss bin_leq bin_gtr bin_geq bin_and bin_or bin_xor bin_andNot bin_shl bin_shr sbin_add sbin_eql sbin_neq sbin_lss sbin_leq sbin_gtr sbin_geq load_ptr load_rptr cellEq_int cellEq_bool cellEq_str cellsEq_nil cellsEq_cons rows_sl rows_str packD_one packD_nil packD_two leave_ret leave_normal leave_exit seqK_normal seqK_exit seqK_ret blockK_normal blockK_exit blockK_ret condK_bool exec_skip exec_exit exec_ret exec_loop exec_seq exec_block exec_cond ev_tmp ev_lit evs_nil evs_cons takeK_some take_tmp take_lit zk_eq keepK_some keepK_none keep_nil keep_cons putD_some putD_none put_eq get_nil get_cons steps_nil steps_cons step_none guardK_t guardK_f guardK_undef step_some pickV_bool eo_pick loadmV_ptr loadmV_rptr eo_loadm eo_load storeV_ptr eo_store storefV_ptr eo_storef clearK_ptr clearK_rptr clearK_none clear_eq nilCheckV_ptr nilCheckV_rptr nilCheckV_fn eo_nilCheck eqsV_agg eo_eqs eqbV_bool eo_eqb unV_neg unV_not eo_un convV_int eo_conv boundK_int bound_none bound_some sliceV_slice eo_slice substrV_str eo_substr fieldAddrV_ptr fieldAddrV_rptr eo_fieldAddr fieldV_agg eo_field indexV_slice eo_index indexArrV_ptr indexArrV_rptr eo_indexArr atV_str eo_at extractV_tup eo_extract extractnV_tup eo_extractn callV_fn eo_call callcV_fn eo_callc callrV_fn eo_callr callR_eq beq_st loadrV_rptr eo_loadr lenV_slice lenV_str eo_len appV_slice eo_append minV_int maxV_int eo_min2 eo_max2 eo_mov_t eo_mov_f eo_alloc eo_box eo_build eo_buildSlice eo_bin eo_mkfn callD_eq callC_eq encPs encP encB encS encR under_encP under_encS under_encR rowsOk_S rowsOk_P rowsOk_R
set_option linter.unusedSimpArgs false
set_option linter.unusedVariables false
set_option maxHeartbeats 1000000
set_option maxRecDepth 4000

structure okPt (n : Nat) (p : Part) : Prop where
  rows : p.rows.length ≤ 1500 * n
  opn : p.opn.length ≤ n
  bats : ∀ o ∈ p.opn, o.bats.length ≤ 8 ∧ ∀ b ∈ o.bats, mayB b = true
  prods : okN (n + 3) p.prods
  fin : 0 ≤ p.fin ∧ p.fin ≤ 1048576
def resP (p : Part) (r : Option Part) : Dat := .tup [.agg (encPt (r.getD p)), .int .i64 (if r.isSome then 0 else 70)]
theorem openP_mem {p : Part} {pid : Int} (h : (openP p pid).2 = true) : (openP p pid).1 ∈ p.opn ∧ (openP p pid).1.pid = pid := by
  unfold openP at h ⊢
  cases hf : p.opn.filter fun o => decide (o.pid = pid) with
  | nil => rw [hf] at h; simp at h
  | cons o r =>
    have : o ∈ p.opn.filter fun o => decide (o.pid = pid) := by rw [hf]; exact List.mem_cons_self ..
    have := List.mem_filter.1 this
    exact ⟨this.1, by simpa using this.2⟩
theorem openP_not {p : Part} {pid : Int} (h : (openP p pid).2 = false) : (openP p pid).1 = ⟨pid, 0, []⟩ ∧ ∀ o ∈ p.opn, o.pid ≠ pid := by
  unfold openP at h ⊢
  cases hf : p.opn.filter fun o => decide (o.pid = pid) with
  | nil =>
    refine ⟨rfl, fun o ho hp => ?_⟩
    have : o ∈ p.opn.filter fun o => decide (o.pid = pid) := List.mem_filter.2 ⟨ho, by simpa using hp⟩
    rw [hf] at this; cases this
  | cons o r => rw [hf] at h; simp at h
theorem openP_bats {n : Nat} {p : Part} (h : okPt n p) (pid : Int) : (openP p pid).1.bats.length ≤ 8 ∧ ∀ b ∈ (openP p pid).1.bats, mayB b = true := by
  cases hk : (openP p pid).2 with
  | true => exact h.bats _ (openP_mem hk).1
  | false => rw [(openP_not hk).1]; exact ⟨by simp, fun b hb => by cases hb⟩

def dataP (p : Part) (x : Entry) : Option Part :=
  if (takeP p.prods x.b (if x.b.txn then -1 else p.fin)).2 ≠ 0 ∨ ((openP p x.b.pid).2 = true ∧ x.b.txn = false) ∨ ((openP p x.b.pid).2 = true ∧ (openP p x.b.pid).1.epoch ≠ x.b.epoch) ∨ (openP p x.b.pid).1.bats.length = 8 then none
  else if x.b.txn then some (withP { p with prods := (takeP p.prods x.b (-1)).1 } ⟨(openP p x.b.pid).1.pid, x.b.epoch, (openP p x.b.pid).1.bats ++ [x.b]⟩)
  else some (addP { p with prods := (takeP p.prods x.b p.fin).1 } x.b)
theorem take_ok_seq {l : List Prod} {b : Batch} {base : Int} (hb : -1 ≤ base ∧ base ≤ 1048576) (h : (takeP l b base).2 = 0) : mayB b = true := (check_ok (take_err hb h)).2.1
theorem t70 {n : Nat} (p : Part) (x : Entry) (hn : n ≤ 990) (hp : okPt n p) (hl : x.b.recs.length ≤ 1000) : run tab 70 [.agg (encPt p), .agg (encE x)] [] = some (resP p (dataP p x), []) := by
  have h65 := t65 p x.b.pid (by have := hp.opn; omega)
  have hbt := openP_bats hp x.b.pid
  have hL := okN_L hp.prods (by omega)
  have hf := hp.fin
  have hr := hp.rows
  simp at h65
  rw [run_eq, tab_70]
  cases htx : x.b.txn with
  | false =>
    have h12 := t12 p.prods x.b p.fin hL hl
    simp [encT, htx] at h12
    by_cases he : (takeP p.prods x.b p.fin).2 = 0
    · cases hk : (openP p x.b.pid).2 with
      | true =>
        rw [hk] at h65
        simp [m70, x70_0, q70_0_0, x70_1, q70_1_0, q70_1_1, x70_2, q70_2_0, x70_3, q70_3_0, x70_4, q70_4_0, x70_5, q70_5_0, q70_5_1, x70_6, q70_6_0, x70_7, q70_7_0, x70_8, q70_8_0, q70_8_1, x70_9, q70_9_0, q70_9_1, x70_10, q70_10_0, x70_11, q70_11_0, x70_12, q70_12_0, x70_13, q70_13_0, x70_14, q70_14_0, x70_15, q70_15_0, q70_15_1, q70_15_2, x70_16, q70_16_0, htx, h65, esc_65, h12, esc_12, eq_true he, dataP, hk, resP]
      | false =>
        rw [hk] at h65
        have ho := (openP_not hk).1
        have hmb := take_ok_seq (by omega) he
        obtain ⟨k1, k2, k3, k4, k5, k6, k7, k8⟩ := mayB_get hmb
        have h82 := t82 { p with prods := (takeP p.prods x.b p.fin).1 } x.b (by simp only; omega) hl (by simp only; omega) (by omega)
        simp [htx] at h82
        rw [ho] at h65
        simp at h65
        simp [m70, x70_0, q70_0_0, x70_1, q70_1_0, q70_1_1, x70_2, q70_2_0, x70_3, q70_3_0, x70_4, q70_4_0, x70_5, q70_5_0, q70_5_1, x70_6, q70_6_0, x70_7, q70_7_0, x70_8, q70_8_0, q70_8_1, x70_9, q70_9_0, q70_9_1, x70_10, q70_10_0, x70_11, q70_11_0, x70_12, q70_12_0, x70_13, q70_13_0, x70_14, q70_14_0, x70_15, q70_15_0, q70_15_1, q70_15_2, x70_16, q70_16_0, htx, h65, esc_65, h12, esc_12, eq_true he, dataP, hk, ho, resP, h82, esc_82]
    · simp [m70, x70_0, q70_0_0, x70_1, q70_1_0, q70_1_1, x70_2, q70_2_0, x70_3, q70_3_0, x70_4, q70_4_0, x70_5, q70_5_0, q70_5_1, x70_6, q70_6_0, x70_7, q70_7_0, x70_8, q70_8_0, q70_8_1, x70_9, q70_9_0, q70_9_1, x70_10, q70_10_0, x70_11, q70_11_0, x70_12, q70_12_0, x70_13, q70_13_0, x70_14, q70_14_0, x70_15, q70_15_0, q70_15_1, q70_15_2, x70_16, q70_16_0, htx, h65, esc_65, h12, esc_12, eq_false he, dataP, resP]
  | true =>
    have h12 := t12 p.prods x.b (-1) hL hl
    simp [encT, htx] at h12
    by_cases he : (takeP p.prods x.b (-1)).2 = 0
    · have h83 := t83 { p with prods := (takeP p.prods x.b (-1)).1 } ⟨(openP p x.b.pid).1.pid, x.b.epoch, (openP p x.b.pid).1.bats ++ [x.b]⟩ (by have := hp.opn; simp only; omega)
      have a1 := app_one (enc := encB) (n := 5) (bytes := 56) (fun _ => rfl) (openP p x.b.pid).1.bats x.b (by omega)
      simp [htx] at h83 a1
      by_cases h8 : (openP p x.b.pid).1.bats.length = 8
      · have h8' : (((openP p x.b.pid).1.bats.length : Int) = 8) = True := eq_true (by omega)
        cases hk : (openP p x.b.pid).2 with
        | true =>
          rw [hk] at h65
          by_cases hep : (openP p x.b.pid).1.epoch = x.b.epoch
          · simp [m70, x70_0, q70_0_0, x70_1, q70_1_0, q70_1_1, x70_2, q70_2_0, x70_3, q70_3_0, x70_4, q70_4_0, x70_5, q70_5_0, q70_5_1, x70_6, q70_6_0, x70_7, q70_7_0, x70_8, q70_8_0, q70_8_1, x70_9, q70_9_0, q70_9_1, x70_10, q70_10_0, x70_11, q70_11_0, x70_12, q70_12_0, x70_13, q70_13_0, x70_14, q70_14_0, x70_15, q70_15_0, q70_15_1, q70_15_2, x70_16, q70_16_0, htx, h65, esc_65, h12, esc_12, eq_true he, dataP, hk, resP, eq_true hep, h8', eq_true h8]
          · simp [m70, x70_0, q70_0_0, x70_1, q70_1_0, q70_1_1, x70_2, q70_2_0, x70_3, q70_3_0, x70_4, q70_4_0, x70_5, q70_5_0, q70_5_1, x70_6, q70_6_0, x70_7, q70_7_0, x70_8, q70_8_0, q70_8_1, x70_9, q70_9_0, q70_9_1, x70_10, q70_10_0, x70_11, q70_11_0, x70_12, q70_12_0, x70_13, q70_13_0, x70_14, q70_14_0, x70_15, q70_15_0, q70_15_1, q70_15_2, x70_16, q70_16_0, htx, h65, esc_65, h12, esc_12, eq_true he, dataP, hk, resP, eq_false hep]
        | false =>
          rw [(openP_not hk).1] at h8
          simp at h8
      · have h8' : (((openP p x.b.pid).1.bats.length : Int) = 8) = False := eq_false (by omega)
        cases hk : (openP p x.b.pid).2 with
        | true =>
          rw [hk] at h65
          by_cases hep : (openP p x.b.pid).1.epoch = x.b.epoch
          · simp [m70, x70_0, q70_0_0, x70_1, q70_1_0, q70_1_1, x70_2, q70_2_0, x70_3, q70_3_0, x70_4, q70_4_0, x70_5, q70_5_0, q70_5_1, x70_6, q70_6_0, x70_7, q70_7_0, x70_8, q70_8_0, q70_8_1, x70_9, q70_9_0, q70_9_1, x70_10, q70_10_0, x70_11, q70_11_0, x70_12, q70_12_0, x70_13, q70_13_0, x70_14, q70_14_0, x70_15, q70_15_0, q70_15_1, q70_15_2, x70_16, q70_16_0, htx, h65, esc_65, h12, esc_12, eq_true he, dataP, hk, resP, eq_true hep, h8', eq_false h8, a1, h83, esc_83]
          · simp [m70, x70_0, q70_0_0, x70_1, q70_1_0, q70_1_1, x70_2, q70_2_0, x70_3, q70_3_0, x70_4, q70_4_0, x70_5, q70_5_0, q70_5_1, x70_6, q70_6_0, x70_7, q70_7_0, x70_8, q70_8_0, q70_8_1, x70_9, q70_9_0, q70_9_1, x70_10, q70_10_0, x70_11, q70_11_0, x70_12, q70_12_0, x70_13, q70_13_0, x70_14, q70_14_0, x70_15, q70_15_0, q70_15_1, q70_15_2, x70_16, q70_16_0, htx, h65, esc_65, h12, esc_12, eq_true he, dataP, hk, resP, eq_false hep]
        | false =>
          rw [hk] at h65
          simp [m70, x70_0, q70_0_0, x70_1, q70_1_0, q70_1_1, x70_2, q70_2_0, x70_3, q70_3_0, x70_4, q70_4_0, x70_5, q70_5_0, q70_5_1, x70_6, q70_6_0, x70_7, q70_7_0, x70_8, q70_8_0, q70_8_1, x70_9, q70_9_0, q70_9_1, x70_10, q70_10_0, x70_11, q70_11_0, x70_12, q70_12_0, x70_13, q70_13_0, x70_14, q70_14_0, x70_15, q70_15_0, q70_15_1, q70_15_2, x70_16, q70_16_0, htx, h65, esc_65, h12, esc_12, eq_true he, dataP, hk, resP, h8', eq_false h8, a1, h83, esc_83]
    · simp [m70, x70_0, q70_0_0, x70_1, q70_1_0, q70_1_1, x70_2, q70_2_0, x70_3, q70_3_0, x70_4, q70_4_0, x70_5, q70_5_0, q70_5_1, x70_6, q70_6_0, x70_7, q70_7_0, x70_8, q70_8_0, q70_8_1, x70_9, q70_9_0, q70_9_1, x70_10, q70_10_0, x70_11, q70_11_0, x70_12, q70_12_0, x70_13, q70_13_0, x70_14, q70_14_0, x70_15, q70_15_0, q70_15_1, q70_15_2, x70_16, q70_16_0, htx, h65, esc_65, h12, esc_12, eq_false he, dataP, resP]
end Go.Mir.A
