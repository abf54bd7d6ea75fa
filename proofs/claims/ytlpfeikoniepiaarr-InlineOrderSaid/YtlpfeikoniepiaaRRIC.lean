import Derived.Test.YtlpfeikoniepiaaRRIB
import Derived.Test.YtlpfeikoniepiaaRRP3
set_option linter.all false
namespace Go.Mir.A
attribute [local congr] bind_head
attribute [local simp] encW encO encPt encE under_encB under_encW under_encO under_encE rowsOk_B rowsOk_W rowsOk_O rowsOk_E gc ofCells bindArgs resD St.get St.set Dat.underL Dat.underLL gc_self fillD elemsD rowsOk_nil rowsOk_cons rowsOk_app rowsOk_tk rowsOk_dp rowsOk_tl underLL_tl underLL_app underLL_tk underLL_dp nn1 nn2 take_rest take_full appD_nil Option.bind_some strip_undef strip1_undef norm_undef noTup_undef safe_undef cells_undef under_undef strip_int strip1_int norm_int noTup_int safe_int cells_int under_int strip_bool strip1_bool norm_bool noTup_bool safe_bool cells_bool under_bool strip_str strip1_str norm_str noTup_str safe_str cells_str under_str strip_agg strip1_agg norm_agg noTup_agg safe_agg cells_agg under_agg strip_tup strip1_tup norm_tup noTup_tup safe_tup cells_tup under_tup strip_slice strip1_slice norm_slice noTup_slice safe_slice cells_slice under_slice strip_nilp strip1_nilp norm_nilp noTup_nilp safe_nilp cells_nilp under_nilp strip_ptr strip1_ptr norm_ptr noTup_ptr safe_ptr cells_ptr under_ptr strip_rptr strip1_rptr norm_rptr noTup_rptr safe_rptr cells_rptr under_rptr strip_fn strip1_fn norm_fn noTup_fn safe_fn cells_fn under_fn strip_nilf strip1_nilf norm_nilf noTup_nilf safe_nilf cells_nilf under_nilf strip_iface strip1_iface norm_iface noTup_iface safe_iface cells_iface under_iface strip_nili strip1_nili norm_nili noTup_nili safe_nili cells_nili under_nili bin_add bin_sub bin_mul bin_quo bin_rem bin_eql bin_neq bin_lss bin_leq bin_gtr bin_geq bin_and bin_or bin_xor bin_andNot bin_shl bin_shr sbin_add sbin_eql sbin_neq sbin_lss sbin_leq sbin_gtr sbin_geq load_ptr load_rptr cellEq_int cellEq_bool cellEq_str cellsEq_nil cellsEq_cons rows_sl rows_str packD_one packD_nil packD_two leave_ret leave_normal leave_exit seqK_normal seqK_exit seqK_ret blockK_normal blockK_exit blockK_ret condK_bool exec_skip exec_exit exec_ret exec_loop exec_seq exec_block exec_cond ev_tmp ev_lit evs_nil evs_cons takeK_some take_tmp take_lit keepK_some keepK_none keep_nil keep_cons putD_some putD_none put_eq get_nil get_cons steps_nil steps_cons step_none guardK_t guardK_f guardK_undef step_some pickV_bool eo_pick loadmV_ptr loadmV_rptr eo_loadm eo_load storeV_ptr eo_store storefV_ptr eo_storef clearK_ptr clearK_rptr clearK_none clear_eq nilCheckV_ptr nilCheckV_rptr nilCheckV_fn eo_nilCheck eqsV_agg eo_eqs eqbV_bool eo_eqb unV_neg unV_not eo_un convV_int eo_conv boundK_int bound_none bound_some sliceV_slice eo_slice substrV_str eo_substr fieldAddrV_ptr fieldAddrV_rptr eo_fieldAddr fieldV_agg eo_field indexV_slice eo_index indexArrV_ptr indexArrV_rptr eo_indexArr atV_str eo_at extractV_tup eo_extract extractnV_tup eo_extractn callV_fn eo_call callcV_fn eo_callc callrV_fn eo_callr callR_eq beq_st loadrV_rptr eo_loadr lenV_slice lenV_str eo_len appV_slice eo_append minV_int maxV_int eo_min2 eo_max2 eo_mov_t eo_mov_f eo_alloc eo_box eo_build eo_buildSlice eo_bin eo_mkfn callD_eq callC_eq encPs encP encB encS encR under_encP under_encS under_encR rowsOk_S rowsOk_P rowsOk_R
set_option linter.unusedSimpArgs false
set_option linter.unusedVariables false
set_option maxHeartbeats 1000000
set_option maxRecDepth 4000
set_option maxHeartbeats 4000000

theorem mayE_B {x : Entry} (h : mayE x = true) (hk : x.kind = 0) : mayB x.b = true := by
  have := mayE_K h
  unfold mayK at this
  rw [if_neg (by omega), if_pos hk] at this
  exact this
def e6 (l : List Entry) (a : Nat × Part) : Env := [(0, .slice false (l.map encE)), (3, .ptr 0 0), (5, .slice true (a.2.rows.map encW)), (6, .int .i64 a.2.fin), (7, .int .i64 a.1)]
def e6a (l : List Entry) (p : Part) (i j : Nat) : Env := [(0, .slice false (l.map encE)), (3, .ptr 0 0), (5, .slice true (p.rows.map encW)), (6, .int .i64 p.fin), (7, .int .i64 i), (8, .ptr 1 0), (9, .int .i64 ((j : Int) - 1))]
def e6b (l : List Entry) (p : Part) (i k : Nat) : Env := [(0, .slice false (l.map encE)), (3, .ptr 0 0), (5, .slice true (p.rows.map encW)), (6, .int .i64 p.fin), (7, .int .i64 i), (8, .ptr 1 0), (10, .int .i64 k)]
theorem mem_bk {l : List Entry} {pid : Int} {j k : Nat} {b : Batch} (hmay : ∀ x ∈ l, mayE x = true) (h : b ∈ bk l pid j k) : mayB b = true := by
  unfold bk at h
  obtain ⟨x, hx, rfl⟩ := List.mem_map.1 h
  obtain ⟨h1, h2⟩ := List.mem_filter.1 hx
  simp only [dt, Bool.and_eq_true, decide_eq_true_eq] at h2
  exact mayE_B (hmay x (List.mem_of_mem_take (List.mem_of_mem_drop h1))) h2.1
theorem bk_len (l : List Entry) (pid : Int) (j k : Nat) : (bk l pid j k).length ≤ k := by
  unfold bk
  rw [List.length_map]
  refine Nat.le_trans (List.length_filter_le ..) ?_
  rw [List.length_drop, List.length_take]; omega
/-- the second inner loop: a transaction's rows, at its mark -/
theorem loop6b (l : List Entry) (pf pi : Part) (i : Nat) (hn : l.length ≤ 200) (hi : i < l.length) (hmay : ∀ x ∈ l, mayE x = true) (hrec : ∀ x ∈ l, x.b.recs.length ≤ 40) (hrow : pi.rows.length ≤ 300000) (hfin : 0 ≤ pi.fin ∧ pi.fin ≤ 1048576) {β : Type} (T : Option β) (j : Nat) (hj : j ≤ i)
    (cont : Ex × Env × St → Option β) (e0 : Env) (he0 : e0 = e6b l pi i j)
    (hcont : ∀ e : Env, (∃ K : Nat, e = [(0, .slice false (l.map encE)), (3, .ptr 0 0), (5, .slice true (((if (l[i]).yes then bk l (l[i]).b.pid j i else []).foldl addP pi).rows.map encW)), (6, .int .i64 ((if (l[i]).yes then bk l (l[i]).b.pid j i else []).foldl addP pi).fin), (7, .int .i64 i), (8, .ptr 1 0), (10, .int .i64 K), (104, .bool false)]) → cont (.exit 4, e, [encE l[i], encPt pf]) = T) :
    (loopW (exec (run tab) tab.esc loopW 0 l6_1) e0 [encE l[i], encPt pf]).bind cont = T := by
  subst he0
  have hbi : (bk l (l[i]).b.pid j j).foldl addP pi = pi := by rw [bk_same]; rfl
  cases hy : (l[i]).yes with
  | false =>
    rw [loopW_eq]
    have hex : exec (run tab) tab.esc loopW 0 l6_1 (e6b l pi i j) [encE l[i], encPt pf] = some (.exit 4, [(0, .slice false (l.map encE)), (3, .ptr 0 0), (5, .slice true (pi.rows.map encW)), (6, .int .i64 pi.fin), (7, .int .i64 i), (8, .ptr 1 0), (10, .int .i64 j), (104, .bool false)], [encE l[i], encPt pf]) := by
      by_cases hji : j < i
      · simp [l6_1, m6, x6_0, q6_0_0, x6_1, q6_1_0, q6_1_1, x6_2, q6_2_0, x6_3, q6_3_0, q6_3_1, x6_4, q6_4_0, x6_5, q6_5_0, x6_6, q6_6_0, x6_7, q6_7_0, x6_8, q6_8_0, x6_9, q6_9_0, x6_11, q6_11_0, x6_12, q6_12_0, q6_12_1, x6_13, q6_13_0, x6_14, q6_14_0, q6_14_1, x6_15, q6_15_0, q6_15_1, x6_16, q6_16_0, q6_16_1, x6_17, q6_17_0, x6_18, q6_18_0, x6_19, q6_19_0, q6_19_1, q6_19_2, q6_19_3, x6_20, q6_20_0, x6_21, q6_21_0, x6_22, q6_22_0, q6_22_1, x6_24, q6_24_0, q6_24_1, q6_24_2, q6_24_3, q6_24_4, x6_25, q6_25_0, q6_25_1, x6_26, q6_26_0, q6_26_1, x6_23, q6_23_0, x6_27, q6_27_0, x6_10, q6_10_0, x6_28, q6_28_0, q6_28_1, q6_28_2, e6b, hji, hy]
      · simp [l6_1, m6, x6_0, q6_0_0, x6_1, q6_1_0, q6_1_1, x6_2, q6_2_0, x6_3, q6_3_0, q6_3_1, x6_4, q6_4_0, x6_5, q6_5_0, x6_6, q6_6_0, x6_7, q6_7_0, x6_8, q6_8_0, x6_9, q6_9_0, x6_11, q6_11_0, x6_12, q6_12_0, q6_12_1, x6_13, q6_13_0, x6_14, q6_14_0, q6_14_1, x6_15, q6_15_0, q6_15_1, x6_16, q6_16_0, q6_16_1, x6_17, q6_17_0, x6_18, q6_18_0, x6_19, q6_19_0, q6_19_1, q6_19_2, q6_19_3, x6_20, q6_20_0, x6_21, q6_21_0, x6_22, q6_22_0, q6_22_1, x6_24, q6_24_0, q6_24_1, q6_24_2, q6_24_3, q6_24_4, x6_25, q6_25_0, q6_25_1, x6_26, q6_26_0, q6_26_1, x6_23, q6_23_0, x6_27, q6_27_0, x6_10, q6_10_0, x6_28, q6_28_0, q6_28_1, q6_28_2, e6b, hji, hy]
    rw [hex]
    exact hcont _ ⟨j, by simp [hy]⟩
  | true =>
    have main := loop_st (b := exec (run tab) tab.esc loopW 0 l6_1) (cont := cont) (fun k => e6b l ((bk l (l[i]).b.pid j k).foldl addP pi) i k) (fun _ => [encE l[i], encPt pf]) (fun k => i - k) (fun k => j ≤ k ∧ k ≤ i) (fun _ => T) (fun k hk => ?_) j ⟨Nat.le_refl _, hj⟩
    · simp only [hbi] at main
      exact main
    · by_cases hki : k < i
      · have hkl : k < l.length := by omega
        have hw : IntKind.wrap .i64 ((k : Int) + 1) = k + 1 := wrap64 (by omega) (by omega)
        obtain ⟨f1, f2, -⟩ := addAll_facts (bk l (l[i]).b.pid j k) pi
        have hre := recsOf_le (l := bk l (l[i]).b.pid j k) fun b hb => mem_bk hmay hb
        have hbl := bk_len l (l[i]).b.pid j k
        have hst := bk_step l (l[i]).b.pid j k hk.1 hkl
        refine .inl ⟨k + 1, ?_, ⟨by omega, hki⟩, by omega, rfl⟩
        have hmy := hmay _ (List.getElem_mem hkl)
        have hrl := hrec _ (List.getElem_mem hkl)
        by_cases h0 : (l[k]).kind = 0
        · cases ht : (l[k]).b.txn with
          | true =>
            by_cases hp : (l[k]).b.pid = (l[i]).b.pid
            · have hd : dt (l[i]).b.pid l[k] = true := by simp [dt, h0, ht, hp]
              rw [hd, if_pos rfl] at hst
              have hmb := mayB_get (mayE_B hmy h0)
              have h26 := t26 (l[k]).b ((bk l (l[i]).b.pid j k).foldl addP pi).fin (by omega) (by rw [f2]; omega) (by omega)
              have a1 := app_all (enc := encW) (n := 5) (bytes := 56) (fun _ => rfl) ((bk l (l[i]).b.pid j k).foldl addP pi).rows (rowsB (l[k]).b ((bk l (l[i]).b.pid j k).foldl addP pi).fin) (by rw [rowsB_len, f1]; omega)
              have hw2 : IntKind.wrap .i64 (((bk l (l[i]).b.pid j k).foldl addP pi).fin + (l[k]).b.recs.length) = ((bk l (l[i]).b.pid j k).foldl addP pi).fin + (l[k]).b.recs.length := wrap64 (by rw [f2]; omega) (by rw [f2]; omega)
              have hnx : (bk l (l[i]).b.pid j (k + 1)).foldl addP pi = addP ((bk l (l[i]).b.pid j k).foldl addP pi) (l[k]).b := by rw [hst, List.foldl_append]; rfl
              simp [ht] at h26 a1
              simp [l6_1, m6, x6_0, q6_0_0, x6_1, q6_1_0, q6_1_1, x6_2, q6_2_0, x6_3, q6_3_0, q6_3_1, x6_4, q6_4_0, x6_5, q6_5_0, x6_6, q6_6_0, x6_7, q6_7_0, x6_8, q6_8_0, x6_9, q6_9_0, x6_11, q6_11_0, x6_12, q6_12_0, q6_12_1, x6_13, q6_13_0, x6_14, q6_14_0, q6_14_1, x6_15, q6_15_0, q6_15_1, x6_16, q6_16_0, q6_16_1, x6_17, q6_17_0, x6_18, q6_18_0, x6_19, q6_19_0, q6_19_1, q6_19_2, q6_19_3, x6_20, q6_20_0, x6_21, q6_21_0, x6_22, q6_22_0, q6_22_1, x6_24, q6_24_0, q6_24_1, q6_24_2, q6_24_3, q6_24_4, x6_25, q6_25_0, q6_25_1, x6_26, q6_26_0, q6_26_1, x6_23, q6_23_0, x6_27, q6_27_0, x6_10, q6_10_0, x6_28, q6_28_0, q6_28_1, q6_28_2, e6b, hki, hkl, hy, eq_true h0, ht, eq_true hp, h26, esc_26, a1, hw, hw2, hnx, addP]
            · have hd : dt (l[i]).b.pid l[k] = false := by simp [dt, hp]
              rw [hd] at hst
              have hnx : (bk l (l[i]).b.pid j (k + 1)).foldl addP pi = (bk l (l[i]).b.pid j k).foldl addP pi := by rw [hst]; simp
              simp [l6_1, m6, x6_0, q6_0_0, x6_1, q6_1_0, q6_1_1, x6_2, q6_2_0, x6_3, q6_3_0, q6_3_1, x6_4, q6_4_0, x6_5, q6_5_0, x6_6, q6_6_0, x6_7, q6_7_0, x6_8, q6_8_0, x6_9, q6_9_0, x6_11, q6_11_0, x6_12, q6_12_0, q6_12_1, x6_13, q6_13_0, x6_14, q6_14_0, q6_14_1, x6_15, q6_15_0, q6_15_1, x6_16, q6_16_0, q6_16_1, x6_17, q6_17_0, x6_18, q6_18_0, x6_19, q6_19_0, q6_19_1, q6_19_2, q6_19_3, x6_20, q6_20_0, x6_21, q6_21_0, x6_22, q6_22_0, q6_22_1, x6_24, q6_24_0, q6_24_1, q6_24_2, q6_24_3, q6_24_4, x6_25, q6_25_0, q6_25_1, x6_26, q6_26_0, q6_26_1, x6_23, q6_23_0, x6_27, q6_27_0, x6_10, q6_10_0, x6_28, q6_28_0, q6_28_1, q6_28_2, e6b, hki, hkl, hy, eq_true h0, ht, eq_false hp, hw, hnx]
          | false =>
            have hd : dt (l[i]).b.pid l[k] = false := by simp [dt, ht]
            rw [hd] at hst
            have hnx : (bk l (l[i]).b.pid j (k + 1)).foldl addP pi = (bk l (l[i]).b.pid j k).foldl addP pi := by rw [hst]; simp
            simp [l6_1, m6, x6_0, q6_0_0, x6_1, q6_1_0, q6_1_1, x6_2, q6_2_0, x6_3, q6_3_0, q6_3_1, x6_4, q6_4_0, x6_5, q6_5_0, x6_6, q6_6_0, x6_7, q6_7_0, x6_8, q6_8_0, x6_9, q6_9_0, x6_11, q6_11_0, x6_12, q6_12_0, q6_12_1, x6_13, q6_13_0, x6_14, q6_14_0, q6_14_1, x6_15, q6_15_0, q6_15_1, x6_16, q6_16_0, q6_16_1, x6_17, q6_17_0, x6_18, q6_18_0, x6_19, q6_19_0, q6_19_1, q6_19_2, q6_19_3, x6_20, q6_20_0, x6_21, q6_21_0, x6_22, q6_22_0, q6_22_1, x6_24, q6_24_0, q6_24_1, q6_24_2, q6_24_3, q6_24_4, x6_25, q6_25_0, q6_25_1, x6_26, q6_26_0, q6_26_1, x6_23, q6_23_0, x6_27, q6_27_0, x6_10, q6_10_0, x6_28, q6_28_0, q6_28_1, q6_28_2, e6b, hki, hkl, hy, eq_true h0, ht, hw, hnx]
        · have hd : dt (l[i]).b.pid l[k] = false := by simp [dt, h0]
          rw [hd] at hst
          have hnx : (bk l (l[i]).b.pid j (k + 1)).foldl addP pi = (bk l (l[i]).b.pid j k).foldl addP pi := by rw [hst]; simp
          simp [l6_1, m6, x6_0, q6_0_0, x6_1, q6_1_0, q6_1_1, x6_2, q6_2_0, x6_3, q6_3_0, q6_3_1, x6_4, q6_4_0, x6_5, q6_5_0, x6_6, q6_6_0, x6_7, q6_7_0, x6_8, q6_8_0, x6_9, q6_9_0, x6_11, q6_11_0, x6_12, q6_12_0, q6_12_1, x6_13, q6_13_0, x6_14, q6_14_0, q6_14_1, x6_15, q6_15_0, q6_15_1, x6_16, q6_16_0, q6_16_1, x6_17, q6_17_0, x6_18, q6_18_0, x6_19, q6_19_0, q6_19_1, q6_19_2, q6_19_3, x6_20, q6_20_0, x6_21, q6_21_0, x6_22, q6_22_0, q6_22_1, x6_24, q6_24_0, q6_24_1, q6_24_2, q6_24_3, q6_24_4, x6_25, q6_25_0, q6_25_1, x6_26, q6_26_0, q6_26_1, x6_23, q6_23_0, x6_27, q6_27_0, x6_10, q6_10_0, x6_28, q6_28_0, q6_28_1, q6_28_2, e6b, hki, hkl, hy, eq_false h0, hw, hnx]
      · have hk' : k = i := by omega
        subst hk'
        refine .inr ⟨(.exit 4, _, [encE l[k], encPt pf]), ?_, by simp, hcont _ ⟨k, rfl⟩⟩
        simp [l6_1, m6, x6_0, q6_0_0, x6_1, q6_1_0, q6_1_1, x6_2, q6_2_0, x6_3, q6_3_0, q6_3_1, x6_4, q6_4_0, x6_5, q6_5_0, x6_6, q6_6_0, x6_7, q6_7_0, x6_8, q6_8_0, x6_9, q6_9_0, x6_11, q6_11_0, x6_12, q6_12_0, q6_12_1, x6_13, q6_13_0, x6_14, q6_14_0, q6_14_1, x6_15, q6_15_0, q6_15_1, x6_16, q6_16_0, q6_16_1, x6_17, q6_17_0, x6_18, q6_18_0, x6_19, q6_19_0, q6_19_1, q6_19_2, q6_19_3, x6_20, q6_20_0, x6_21, q6_21_0, x6_22, q6_22_0, q6_22_1, x6_24, q6_24_0, q6_24_1, q6_24_2, q6_24_3, q6_24_4, x6_25, q6_25_0, q6_25_1, x6_26, q6_26_0, q6_26_1, x6_23, q6_23_0, x6_27, q6_27_0, x6_10, q6_10_0, x6_28, q6_28_0, q6_28_1, q6_28_2, e6b, hy]
end Go.Mir.A
namespace Go.Mir.A
attribute [local congr] bind_head
attribute [local simp] encW encO encPt encE under_encB under_encW under_encO under_encE rowsOk_B rowsOk_W rowsOk_O rowsOk_E gc ofCells bindArgs resD St.get St.set Dat.underL Dat.underLL gc_self fillD elemsD rowsOk_nil rowsOk_cons rowsOk_app rowsOk_tk rowsOk_dp rowsOk_tl underLL_tl underLL_app underLL_tk underLL_dp nn1 nn2 take_rest take_full appD_nil Option.bind_some strip_undef strip1_undef norm_undef noTup_undef safe_undef cells_undef under_undef strip_int strip1_int norm_int noTup_int safe_int cells_int under_int strip_bool strip1_bool norm_bool noTup_bool safe_bool cells_bool under_bool strip_str strip1_str norm_str noTup_str safe_str cells_str under_str strip_agg strip1_agg norm_agg noTup_agg safe_agg cells_agg under_agg strip_tup strip1_tup norm_tup noTup_tup safe_tup cells_tup under_tup strip_slice strip1_slice norm_slice noTup_slice safe_slice cells_slice under_slice strip_nilp strip1_nilp norm_nilp noTup_nilp safe_nilp cells_nilp under_nilp strip_ptr strip1_ptr norm_ptr noTup_ptr safe_ptr cells_ptr under_ptr strip_rptr strip1_rptr norm_rptr noTup_rptr safe_rptr cells_rptr under_rptr strip_fn strip1_fn norm_fn noTup_fn safe_fn cells_fn under_fn strip_nilf strip1_nilf norm_nilf noTup_nilf safe_nilf cells_nilf under_nilf strip_iface strip1_iface norm_iface noTup_iface safe_iface cells_iface under_iface strip_nili strip1_nili norm_nili noTup_nili safe_nili cells_nili under_nili bin_add bin_sub bin_mul bin_quo bin_rem bin_eql bin_neq bin_lss bin_leq bin_gtr bin_geq bin_and bin_or bin_xor bin_andNot bin_shl bin_shr sbin_add sbin_eql sbin_neq sbin_lss sbin_leq sbin_gtr sbin_geq load_ptr load_rptr cellEq_int cellEq_bool cellEq_str cellsEq_nil cellsEq_cons rows_sl rows_str packD_one packD_nil packD_two leave_ret leave_normal leave_exit seqK_normal seqK_exit seqK_ret blockK_normal blockK_exit blockK_ret condK_bool exec_skip exec_exit exec_ret exec_loop exec_seq exec_block exec_cond ev_tmp ev_lit evs_nil evs_cons takeK_some take_tmp take_lit keepK_some keepK_none keep_nil keep_cons putD_some putD_none put_eq get_nil get_cons steps_nil steps_cons step_none guardK_t guardK_f guardK_undef step_some pickV_bool eo_pick loadmV_ptr loadmV_rptr eo_loadm eo_load storeV_ptr eo_store storefV_ptr eo_storef clearK_ptr clearK_rptr clearK_none clear_eq nilCheckV_ptr nilCheckV_rptr nilCheckV_fn eo_nilCheck eqsV_agg eo_eqs eqbV_bool eo_eqb unV_neg unV_not eo_un convV_int eo_conv boundK_int bound_none bound_some sliceV_slice eo_slice substrV_str eo_substr fieldAddrV_ptr fieldAddrV_rptr eo_fieldAddr fieldV_agg eo_field indexV_slice eo_index indexArrV_ptr indexArrV_rptr eo_indexArr atV_str eo_at extractV_tup eo_extract extractnV_tup eo_extractn callV_fn eo_call callcV_fn eo_callc callrV_fn eo_callr callR_eq beq_st loadrV_rptr eo_loadr lenV_slice lenV_str eo_len appV_slice eo_append minV_int maxV_int eo_min2 eo_max2 eo_mov_t eo_mov_f eo_alloc eo_box eo_build eo_buildSlice eo_bin eo_mkfn callD_eq callC_eq encPs encP encB encS encR under_encP under_encS under_encR rowsOk_S rowsOk_P rowsOk_R
set_option linter.unusedSimpArgs false
set_option linter.unusedVariables false
set_option maxHeartbeats 1000000
set_option maxRecDepth 4000
set_option maxHeartbeats 4000000

theorem t6 (l : List Entry) (h1 : l.length ≤ 9223372036854775807) (h2 : ∀ x ∈ l, x.b.recs.length ≤ 9223372036854775807) : run tab 6 [.slice false (l.map encE)] [] = some (.bool true, []) := by
  have h23 := t23 l h2
  rw [run_eq, tab_6]
  by_cases hn : 200 < l.length
  · have hn' : (200 : Int) < l.length := by omega
    simp [m6, x6_0, q6_0_0, x6_1, q6_1_0, q6_1_1, x6_2, q6_2_0, x6_3, q6_3_0, q6_3_1, x6_4, q6_4_0, x6_5, q6_5_0, x6_6, q6_6_0, x6_7, q6_7_0, x6_8, q6_8_0, x6_9, q6_9_0, x6_11, q6_11_0, x6_12, q6_12_0, q6_12_1, x6_13, q6_13_0, x6_14, q6_14_0, q6_14_1, x6_15, q6_15_0, q6_15_1, x6_16, q6_16_0, q6_16_1, x6_17, q6_17_0, x6_18, q6_18_0, x6_19, q6_19_0, q6_19_1, q6_19_2, q6_19_3, x6_20, q6_20_0, x6_21, q6_21_0, x6_22, q6_22_0, q6_22_1, x6_24, q6_24_0, q6_24_1, q6_24_2, q6_24_3, q6_24_4, x6_25, q6_25_0, q6_25_1, x6_26, q6_26_0, q6_26_1, x6_23, q6_23_0, x6_27, q6_27_0, x6_10, q6_10_0, x6_28, q6_28_0, q6_28_1, q6_28_2, hn', esc_24, t24]
  have hn' : ¬ (200 : Int) < l.length := by omega
  cases hg : greatAll l with
  | true =>
    rw [hg] at h23
    simp [m6, x6_0, q6_0_0, x6_1, q6_1_0, q6_1_1, x6_2, q6_2_0, x6_3, q6_3_0, q6_3_1, x6_4, q6_4_0, x6_5, q6_5_0, x6_6, q6_6_0, x6_7, q6_7_0, x6_8, q6_8_0, x6_9, q6_9_0, x6_11, q6_11_0, x6_12, q6_12_0, q6_12_1, x6_13, q6_13_0, x6_14, q6_14_0, q6_14_1, x6_15, q6_15_0, q6_15_1, x6_16, q6_16_0, q6_16_1, x6_17, q6_17_0, x6_18, q6_18_0, x6_19, q6_19_0, q6_19_1, q6_19_2, q6_19_3, x6_20, q6_20_0, x6_21, q6_21_0, x6_22, q6_22_0, q6_22_1, x6_24, q6_24_0, q6_24_1, q6_24_2, q6_24_3, q6_24_4, x6_25, q6_25_0, q6_25_1, x6_26, q6_26_0, q6_26_1, x6_23, q6_23_0, x6_27, q6_27_0, x6_10, q6_10_0, x6_28, q6_28_0, q6_28_1, q6_28_2, hn', h23, esc_23, esc_24, t24]
  | false =>
    rw [hg] at h23
    obtain ⟨g1, g2⟩ := greatAll_not hg
    have hrec : ∀ x ∈ l, x.b.recs.length ≤ 40 := fun x hx => (g2 x hx).1
    have h25 := t25 l (by omega) (fun x hx => by have := hrec x hx; omega) (fun x hx => by have := (g2 x hx).2; omega)
    cases hf : foldP l zeroPt with
    | none =>
      rw [hf] at h25
      simp [resP, zeroPt] at h23 h25
      simp [m6, x6_0, q6_0_0, x6_1, q6_1_0, q6_1_1, x6_2, q6_2_0, x6_3, q6_3_0, q6_3_1, x6_4, q6_4_0, x6_5, q6_5_0, x6_6, q6_6_0, x6_7, q6_7_0, x6_8, q6_8_0, x6_9, q6_9_0, x6_11, q6_11_0, x6_12, q6_12_0, q6_12_1, x6_13, q6_13_0, x6_14, q6_14_0, q6_14_1, x6_15, q6_15_0, q6_15_1, x6_16, q6_16_0, q6_16_1, x6_17, q6_17_0, x6_18, q6_18_0, x6_19, q6_19_0, q6_19_1, q6_19_2, q6_19_3, x6_20, q6_20_0, x6_21, q6_21_0, x6_22, q6_22_0, q6_22_1, x6_24, q6_24_0, q6_24_1, q6_24_2, q6_24_3, q6_24_4, x6_25, q6_25_0, q6_25_1, x6_26, q6_26_0, q6_26_1, x6_23, q6_23_0, x6_27, q6_27_0, x6_10, q6_10_0, x6_28, q6_28_0, q6_28_1, q6_28_2, hn', h23, esc_23, h25, esc_25, esc_24, t24]
    | some pf =>
      rw [hf] at h25
      have hmay := foldP_may okPt_zero hf
      have hpf := foldP_ok okPt_zero hf
      have h27 := t27 pf.rows pf.rows (by have := hpf.rows; omega)
      rw [sameWs_refl] at h27
      simp [resP] at h23 h25 h27
      simp [m6, x6_0, q6_0_0, x6_1, q6_1_0, q6_1_1, x6_2, q6_2_0, x6_3, q6_3_0, q6_3_1, x6_4, q6_4_0, x6_5, q6_5_0, x6_6, q6_6_0, x6_7, q6_7_0, x6_8, q6_8_0, x6_9, q6_9_0, x6_11, q6_11_0, x6_12, q6_12_0, q6_12_1, x6_13, q6_13_0, x6_14, q6_14_0, q6_14_1, x6_15, q6_15_0, q6_15_1, x6_16, q6_16_0, q6_16_1, x6_17, q6_17_0, x6_18, q6_18_0, x6_19, q6_19_0, q6_19_1, q6_19_2, q6_19_3, x6_20, q6_20_0, x6_21, q6_21_0, x6_22, q6_22_0, q6_22_1, x6_24, q6_24_0, q6_24_1, q6_24_2, q6_24_3, q6_24_4, x6_25, q6_25_0, q6_25_1, x6_26, q6_26_0, q6_26_1, x6_23, q6_23_0, x6_27, q6_27_0, x6_10, q6_10_0, x6_28, q6_28_0, q6_28_1, q6_28_2, hn', h23, esc_23, h25, esc_25]
      simp only [Option.bind_assoc]
      refine loop_st (e6 l) (fun _ => [encPt pf]) (fun a => l.length - a.1) (fun a => a.1 ≤ l.length ∧ foldP (l.drop a.1) a.2 = some pf ∧ okPt a.1 a.2 ∧ BtInv a.2 (l.take a.1)) (fun _ => some (Dat.bool true, [])) (fun a ha => ?_) (0, zeroPt) ⟨Nat.zero_le _, by simpa using hf, okPt_zero, bt_zero⟩
      obtain ⟨i, p⟩ := a
      obtain ⟨k1, k2, k3, k4⟩ := ha
      simp only at k1 k2 k3 k4 ⊢
      by_cases hi : i < l.length
      · have hw : IntKind.wrap .i64 ((i : Int) + 1) = i + 1 := wrap64 (by omega) (by omega)
        rw [List.drop_eq_getElem_cons hi, foldP, Option.bind_eq_some_iff] at k2
        obtain ⟨q, hq, k2⟩ := k2
        obtain ⟨q1, q2, q3, q4⟩ := nextP_ok k3 hq
        obtain ⟨hd, hb⟩ := step_did q3 k4
        have hx := List.getElem_mem hi
        have hrl := hrec _ hx
        have hrow := k3.rows
        have hfin := k3.fin
        have hb' : BtInv q (l.take (i + 1)) := by rw [List.take_succ_eq_append_getElem hi]; exact hb
        cases hd with
        | plain hk ht hr hqf =>
          have hmb := mayB_get (mayE_B q2 hk)
          have h26 := t26 (l[i]).b p.fin (by omega) (by omega) (by omega)
          have a1 := app_all (enc := encW) (n := 5) (bytes := 56) (fun _ => rfl) p.rows (rowsB (l[i]).b p.fin) (by rw [rowsB_len]; omega)
          have hw2 : IntKind.wrap .i64 (p.fin + (l[i]).b.recs.length) = p.fin + (l[i]).b.recs.length := wrap64 (by omega) (by omega)
          have e0 : ((l[i]).kind = 0) = True := eq_true hk
          have e1 : ((l[i]).kind = 1) = False := eq_false (by omega)
          have e2 : ((l[i]).kind = 2) = False := eq_false (by omega)
          have e5 : ((l[i]).kind = 5) = False := eq_false (by omega)
          simp [ht] at h26 a1
          refine .inl ⟨(i + 1, q), ?_, ⟨hi, k2, q1, hb'⟩, by simp only; omega, trivial⟩
          simp [l6_2, m6, x6_0, q6_0_0, x6_1, q6_1_0, q6_1_1, x6_2, q6_2_0, x6_3, q6_3_0, q6_3_1, x6_4, q6_4_0, x6_5, q6_5_0, x6_6, q6_6_0, x6_7, q6_7_0, x6_8, q6_8_0, x6_9, q6_9_0, x6_11, q6_11_0, x6_12, q6_12_0, q6_12_1, x6_13, q6_13_0, x6_14, q6_14_0, q6_14_1, x6_15, q6_15_0, q6_15_1, x6_16, q6_16_0, q6_16_1, x6_17, q6_17_0, x6_18, q6_18_0, x6_19, q6_19_0, q6_19_1, q6_19_2, q6_19_3, x6_20, q6_20_0, x6_21, q6_21_0, x6_22, q6_22_0, q6_22_1, x6_24, q6_24_0, q6_24_1, q6_24_2, q6_24_3, q6_24_4, x6_25, q6_25_0, q6_25_1, x6_26, q6_26_0, q6_26_1, x6_23, q6_23_0, x6_27, q6_27_0, x6_10, q6_10_0, x6_28, q6_28_0, q6_28_1, q6_28_2, e6, hi, e0, e1, e2, e5, ht, h26, esc_26, a1, hw, hw2, hr, hqf]
        | data hk ht hr hqf =>
          have e0 : ((l[i]).kind = 0) = True := eq_true hk
          have e1 : ((l[i]).kind = 1) = False := eq_false (by omega)
          have e2 : ((l[i]).kind = 2) = False := eq_false (by omega)
          have e5 : ((l[i]).kind = 5) = False := eq_false (by omega)
          refine .inl ⟨(i + 1, q), ?_, ⟨hi, k2, q1, hb'⟩, by simp only; omega, trivial⟩
          simp [l6_2, m6, x6_0, q6_0_0, x6_1, q6_1_0, q6_1_1, x6_2, q6_2_0, x6_3, q6_3_0, q6_3_1, x6_4, q6_4_0, x6_5, q6_5_0, x6_6, q6_6_0, x6_7, q6_7_0, x6_8, q6_8_0, x6_9, q6_9_0, x6_11, q6_11_0, x6_12, q6_12_0, q6_12_1, x6_13, q6_13_0, x6_14, q6_14_0, q6_14_1, x6_15, q6_15_0, q6_15_1, x6_16, q6_16_0, q6_16_1, x6_17, q6_17_0, x6_18, q6_18_0, x6_19, q6_19_0, q6_19_1, q6_19_2, q6_19_3, x6_20, q6_20_0, x6_21, q6_21_0, x6_22, q6_22_0, q6_22_1, x6_24, q6_24_0, q6_24_1, q6_24_2, q6_24_3, q6_24_4, x6_25, q6_25_0, q6_25_1, x6_26, q6_26_0, q6_26_1, x6_23, q6_23_0, x6_27, q6_27_0, x6_10, q6_10_0, x6_28, q6_28_0, q6_28_1, q6_28_2, e6, hi, e0, e1, e2, e5, ht, hw, hr, hqf]
        | state hk hr hqf =>
          have e0 : ((l[i]).kind = 0) = False := eq_false (by omega)
          have e1 : ((l[i]).kind = 1) = False := eq_false (by omega)
          have e2 : ((l[i]).kind = 2) = False := eq_false (by omega)
          have e5 : ((l[i]).kind = 5) = False := eq_false (by omega)
          refine .inl ⟨(i + 1, q), ?_, ⟨hi, k2, q1, hb'⟩, by simp only; omega, trivial⟩
          simp [l6_2, m6, x6_0, q6_0_0, x6_1, q6_1_0, q6_1_1, x6_2, q6_2_0, x6_3, q6_3_0, q6_3_1, x6_4, q6_4_0, x6_5, q6_5_0, x6_6, q6_6_0, x6_7, q6_7_0, x6_8, q6_8_0, x6_9, q6_9_0, x6_11, q6_11_0, x6_12, q6_12_0, q6_12_1, x6_13, q6_13_0, x6_14, q6_14_0, q6_14_1, x6_15, q6_15_0, q6_15_1, x6_16, q6_16_0, q6_16_1, x6_17, q6_17_0, x6_18, q6_18_0, x6_19, q6_19_0, q6_19_1, q6_19_2, q6_19_3, x6_20, q6_20_0, x6_21, q6_21_0, x6_22, q6_22_0, q6_22_1, x6_24, q6_24_0, q6_24_1, q6_24_2, q6_24_3, q6_24_4, x6_25, q6_25_0, q6_25_1, x6_26, q6_26_0, q6_26_1, x6_23, q6_23_0, x6_27, q6_27_0, x6_10, q6_10_0, x6_28, q6_28_0, q6_28_1, q6_28_2, e6, hi, e0, e1, e2, e5, hw, hr, hqf]
        | cutRow hk =>
          refine .inr ?_
          rcases hk with hk | hk
          · have e2 : ((l[i]).kind = 2) = True := eq_true hk
            simp [l6_2, m6, x6_0, q6_0_0, x6_1, q6_1_0, q6_1_1, x6_2, q6_2_0, x6_3, q6_3_0, q6_3_1, x6_4, q6_4_0, x6_5, q6_5_0, x6_6, q6_6_0, x6_7, q6_7_0, x6_8, q6_8_0, x6_9, q6_9_0, x6_11, q6_11_0, x6_12, q6_12_0, q6_12_1, x6_13, q6_13_0, x6_14, q6_14_0, q6_14_1, x6_15, q6_15_0, q6_15_1, x6_16, q6_16_0, q6_16_1, x6_17, q6_17_0, x6_18, q6_18_0, x6_19, q6_19_0, q6_19_1, q6_19_2, q6_19_3, x6_20, q6_20_0, x6_21, q6_21_0, x6_22, q6_22_0, q6_22_1, x6_24, q6_24_0, q6_24_1, q6_24_2, q6_24_3, q6_24_4, x6_25, q6_25_0, q6_25_1, x6_26, q6_26_0, q6_26_1, x6_23, q6_23_0, x6_27, q6_27_0, x6_10, q6_10_0, x6_28, q6_28_0, q6_28_1, q6_28_2, e6, hi, e2, esc_24, t24]
          · have e2 : ((l[i]).kind = 2) = False := eq_false (by omega)
            have e5 : ((l[i]).kind = 5) = True := eq_true hk
            simp [l6_2, m6, x6_0, q6_0_0, x6_1, q6_1_0, q6_1_1, x6_2, q6_2_0, x6_3, q6_3_0, q6_3_1, x6_4, q6_4_0, x6_5, q6_5_0, x6_6, q6_6_0, x6_7, q6_7_0, x6_8, q6_8_0, x6_9, q6_9_0, x6_11, q6_11_0, x6_12, q6_12_0, q6_12_1, x6_13, q6_13_0, x6_14, q6_14_0, q6_14_1, x6_15, q6_15_0, q6_15_1, x6_16, q6_16_0, q6_16_1, x6_17, q6_17_0, x6_18, q6_18_0, x6_19, q6_19_0, q6_19_1, q6_19_2, q6_19_3, x6_20, q6_20_0, x6_21, q6_21_0, x6_22, q6_22_0, q6_22_1, x6_24, q6_24_0, q6_24_1, q6_24_2, q6_24_3, q6_24_4, x6_25, q6_25_0, q6_25_1, x6_26, q6_26_0, q6_26_1, x6_23, q6_23_0, x6_27, q6_27_0, x6_10, q6_10_0, x6_28, q6_28_0, q6_28_1, q6_28_2, e6, hi, e2, e5, esc_24, t24]
        | mark hk hr hqf =>
          have e0 : ((l[i]).kind = 0) = False := eq_false (by omega)
          have e1 : ((l[i]).kind = 1) = True := eq_true hk
          have e2 : ((l[i]).kind = 2) = False := eq_false (by omega)
          have e5 : ((l[i]).kind = 5) = False := eq_false (by omega)
          have hwi : IntKind.wrap .i64 ((i : Int) - 1) = i - 1 := wrap64 (by omega) (by omega)
          refine .inl ⟨(i + 1, q), ?_, ⟨hi, k2, q1, hb'⟩, by simp only; omega, trivial⟩
          have hbt : (openP p (l[i]).b.pid).1.bats = bt (l.take i) (l[i]).b.pid := k4 _
          rw [hbt] at hr hqf
          simp [l6_2, m6, x6_0, q6_0_0, x6_1, q6_1_0, q6_1_1, x6_2, q6_2_0, x6_3, q6_3_0, q6_3_1, x6_4, q6_4_0, x6_5, q6_5_0, x6_6, q6_6_0, x6_7, q6_7_0, x6_8, q6_8_0, x6_9, q6_9_0, x6_11, q6_11_0, x6_12, q6_12_0, q6_12_1, x6_13, q6_13_0, x6_14, q6_14_0, q6_14_1, x6_15, q6_15_0, q6_15_1, x6_16, q6_16_0, q6_16_1, x6_17, q6_17_0, x6_18, q6_18_0, x6_19, q6_19_0, q6_19_1, q6_19_2, q6_19_3, x6_20, q6_20_0, x6_21, q6_21_0, x6_22, q6_22_0, q6_22_1, x6_24, q6_24_0, q6_24_1, q6_24_2, q6_24_3, q6_24_4, x6_25, q6_25_0, q6_25_1, x6_26, q6_26_0, q6_26_1, x6_23, q6_23_0, x6_27, q6_27_0, x6_10, q6_10_0, x6_28, q6_28_0, q6_28_1, q6_28_2, e6, hi, e0, e1, e2, e5, hwi]
          simp only [Option.bind_assoc]
          refine loop_st (e6a l p i) (fun _ => [encE l[i], encPt pf]) (fun j => j) (fun j => j ≤ i ∧ ∀ k (h : k < l.length), j ≤ k → k < i → mk (l[i]).b.pid l[k] = false)
            (fun _ => some (Ex.normal, [(0, Dat.slice false (l.map encE)), (3, Dat.ptr 0 0), (5, Dat.slice true (q.rows.map encW)), (6, Dat.int .i64 q.fin), (7, Dat.int .i64 ((i : Int) + 1))], [encPt pf])) (fun j hj => ?_) i ⟨Nat.le_refl _, fun k h a b => by omega⟩
          have endd : ∀ (cont : Ex × Env × St → Out), (j = 0 ∨ ∃ h : j - 1 < l.length, mk (l[i]).b.pid (l[j - 1]'h) = true) →
              (∀ e : Env, (∃ K : Nat, e = [(0, .slice false (l.map encE)), (3, .ptr 0 0), (5, .slice true (((if (l[i]).yes then bk l (l[i]).b.pid j i else []).foldl addP p).rows.map encW)), (6, .int .i64 ((if (l[i]).yes then bk l (l[i]).b.pid j i else []).foldl addP p).fin), (7, .int .i64 i), (8, .ptr 1 0), (10, .int .i64 K), (104, .bool false)]) →
                cont (.exit 4, e, [encE l[i], encPt pf]) = some (Ex.normal, [(0, Dat.slice false (l.map encE)), (3, Dat.ptr 0 0), (5, Dat.slice true (q.rows.map encW)), (6, Dat.int .i64 q.fin), (7, Dat.int .i64 ((i : Int) + 1))], [encPt pf])) →
              (loopW (exec (run tab) tab.esc loopW 0 l6_1) (e6b l p i j) [encE l[i], encPt pf]).bind cont = some (Ex.normal, [(0, Dat.slice false (l.map encE)), (3, Dat.ptr 0 0), (5, Dat.slice true (q.rows.map encW)), (6, Dat.int .i64 q.fin), (7, Dat.int .i64 ((i : Int) + 1))], [encPt pf]) := fun cont hm hc =>
            loop6b l pf p i (by omega) hi hmay hrec (by omega) hfin _ j hj.1 cont _ rfl hc
          have hbb : (j = 0 ∨ ∃ h : j - 1 < l.length, mk (l[i]).b.pid (l[j - 1]'h) = true) → bt (l.take i) (l[i]).b.pid = bk l (l[i]).b.pid j i := fun hm => bt_bk (by omega) hj.1 hj.2 hm
          obtain ⟨f1, f2, -⟩ := addAll_facts (if (l[i]).yes then bk l (l[i]).b.pid j i else []) p
          have hre : recsOf (if (l[i]).yes then bk l (l[i]).b.pid j i else []) ≤ 800 := by
            cases (l[i]).yes with
            | true =>
              have := recsOf_le (l := bk l (l[i]).b.pid j i) fun b hb => mem_bk hmay hb
              have := bk_len l (l[i]).b.pid j i
              simp only [if_true]
              omega
            | false => simp [recsOf]
          have hwf : IntKind.wrap .i64 (((if (l[i]).yes then bk l (l[i]).b.pid j i else []).foldl addP p).fin + 1) = ((if (l[i]).yes then bk l (l[i]).b.pid j i else []).foldl addP p).fin + 1 := wrap64 (by rw [f2]; omega) (by rw [f2]; omega)
          cases j with
          | zero =>
            have hm := hbb (.inl rfl)
            rw [hm] at hr hqf
            refine .inr ⟨(.exit 2, e6a l p i 0 ++ [(93, .bool false)], [encE l[i], encPt pf]), ?_, by simp, ?_⟩
            · simp [l6_0, m6, x6_0, q6_0_0, x6_1, q6_1_0, q6_1_1, x6_2, q6_2_0, x6_3, q6_3_0, q6_3_1, x6_4, q6_4_0, x6_5, q6_5_0, x6_6, q6_6_0, x6_7, q6_7_0, x6_8, q6_8_0, x6_9, q6_9_0, x6_11, q6_11_0, x6_12, q6_12_0, q6_12_1, x6_13, q6_13_0, x6_14, q6_14_0, q6_14_1, x6_15, q6_15_0, q6_15_1, x6_16, q6_16_0, q6_16_1, x6_17, q6_17_0, x6_18, q6_18_0, x6_19, q6_19_0, q6_19_1, q6_19_2, q6_19_3, x6_20, q6_20_0, x6_21, q6_21_0, x6_22, q6_22_0, q6_22_1, x6_24, q6_24_0, q6_24_1, q6_24_2, q6_24_3, q6_24_4, x6_25, q6_25_0, q6_25_1, x6_26, q6_26_0, q6_26_1, x6_23, q6_23_0, x6_27, q6_27_0, x6_10, q6_10_0, x6_28, q6_28_0, q6_28_1, q6_28_2, e6a]
            · have := wrap64 (n := 0) (by omega) (by omega)
              simp [m6, x6_0, q6_0_0, x6_1, q6_1_0, q6_1_1, x6_2, q6_2_0, x6_3, q6_3_0, q6_3_1, x6_4, q6_4_0, x6_5, q6_5_0, x6_6, q6_6_0, x6_7, q6_7_0, x6_8, q6_8_0, x6_9, q6_9_0, x6_11, q6_11_0, x6_12, q6_12_0, q6_12_1, x6_13, q6_13_0, x6_14, q6_14_0, q6_14_1, x6_15, q6_15_0, q6_15_1, x6_16, q6_16_0, q6_16_1, x6_17, q6_17_0, x6_18, q6_18_0, x6_19, q6_19_0, q6_19_1, q6_19_2, q6_19_3, x6_20, q6_20_0, x6_21, q6_21_0, x6_22, q6_22_0, q6_22_1, x6_24, q6_24_0, q6_24_1, q6_24_2, q6_24_3, q6_24_4, x6_25, q6_25_0, q6_25_1, x6_26, q6_26_0, q6_26_1, x6_23, q6_23_0, x6_27, q6_27_0, x6_10, q6_10_0, x6_28, q6_28_0, q6_28_1, q6_28_2, e6a, this]
              simp only [Option.bind_assoc]
              refine endd _ (.inl rfl) fun e ⟨K, he⟩ => ?_
              subst he
              simp [m6, x6_0, q6_0_0, x6_1, q6_1_0, q6_1_1, x6_2, q6_2_0, x6_3, q6_3_0, q6_3_1, x6_4, q6_4_0, x6_5, q6_5_0, x6_6, q6_6_0, x6_7, q6_7_0, x6_8, q6_8_0, x6_9, q6_9_0, x6_11, q6_11_0, x6_12, q6_12_0, q6_12_1, x6_13, q6_13_0, x6_14, q6_14_0, q6_14_1, x6_15, q6_15_0, q6_15_1, x6_16, q6_16_0, q6_16_1, x6_17, q6_17_0, x6_18, q6_18_0, x6_19, q6_19_0, q6_19_1, q6_19_2, q6_19_3, x6_20, q6_20_0, x6_21, q6_21_0, x6_22, q6_22_0, q6_22_1, x6_24, q6_24_0, q6_24_1, q6_24_2, q6_24_3, q6_24_4, x6_25, q6_25_0, q6_25_1, x6_26, q6_26_0, q6_26_1, x6_23, q6_23_0, x6_27, q6_27_0, x6_10, q6_10_0, x6_28, q6_28_0, q6_28_1, q6_28_2, hwf, hr, hqf, hw]
          | succ j =>
            have hjl : j < l.length := by omega
            have hwj : IntKind.wrap .i64 ((j : Int) - 1) = j - 1 := wrap64 (by omega) (by omega)
            have hwj2 : IntKind.wrap .i64 ((j : Int) + 1) = j + 1 := wrap64 (by omega) (by omega)
            by_cases hm : mk (l[i]).b.pid l[j] = true
            · have hm2 := hm
              simp only [mk, Bool.and_eq_true, decide_eq_true_eq] at hm2
              have hbm := hbb (.inr ⟨hjl, hm⟩)
              rw [hbm] at hr hqf
              have m1 : ((l[j]).kind = 1) = True := eq_true hm2.1
              have m2 : ((l[j]).b.pid = (l[i]).b.pid) = True := eq_true hm2.2
              refine .inr ⟨(.exit 2, e6a l p i (j + 1) ++ [(93, .bool false)], [encE l[i], encPt pf]), ?_, by simp, ?_⟩
              · simp [l6_0, m6, x6_0, q6_0_0, x6_1, q6_1_0, q6_1_1, x6_2, q6_2_0, x6_3, q6_3_0, q6_3_1, x6_4, q6_4_0, x6_5, q6_5_0, x6_6, q6_6_0, x6_7, q6_7_0, x6_8, q6_8_0, x6_9, q6_9_0, x6_11, q6_11_0, x6_12, q6_12_0, q6_12_1, x6_13, q6_13_0, x6_14, q6_14_0, q6_14_1, x6_15, q6_15_0, q6_15_1, x6_16, q6_16_0, q6_16_1, x6_17, q6_17_0, x6_18, q6_18_0, x6_19, q6_19_0, q6_19_1, q6_19_2, q6_19_3, x6_20, q6_20_0, x6_21, q6_21_0, x6_22, q6_22_0, q6_22_1, x6_24, q6_24_0, q6_24_1, q6_24_2, q6_24_3, q6_24_4, x6_25, q6_25_0, q6_25_1, x6_26, q6_26_0, q6_26_1, x6_23, q6_23_0, x6_27, q6_27_0, x6_10, q6_10_0, x6_28, q6_28_0, q6_28_1, q6_28_2, e6a, hjl, m1, m2]
              · simp [m6, x6_0, q6_0_0, x6_1, q6_1_0, q6_1_1, x6_2, q6_2_0, x6_3, q6_3_0, q6_3_1, x6_4, q6_4_0, x6_5, q6_5_0, x6_6, q6_6_0, x6_7, q6_7_0, x6_8, q6_8_0, x6_9, q6_9_0, x6_11, q6_11_0, x6_12, q6_12_0, q6_12_1, x6_13, q6_13_0, x6_14, q6_14_0, q6_14_1, x6_15, q6_15_0, q6_15_1, x6_16, q6_16_0, q6_16_1, x6_17, q6_17_0, x6_18, q6_18_0, x6_19, q6_19_0, q6_19_1, q6_19_2, q6_19_3, x6_20, q6_20_0, x6_21, q6_21_0, x6_22, q6_22_0, q6_22_1, x6_24, q6_24_0, q6_24_1, q6_24_2, q6_24_3, q6_24_4, x6_25, q6_25_0, q6_25_1, x6_26, q6_26_0, q6_26_1, x6_23, q6_23_0, x6_27, q6_27_0, x6_10, q6_10_0, x6_28, q6_28_0, q6_28_1, q6_28_2, e6a, hwj2]
                simp only [Option.bind_assoc]
                refine endd _ (.inr ⟨hjl, hm⟩) fun e ⟨K, he⟩ => ?_
                subst he
                simp [m6, x6_0, q6_0_0, x6_1, q6_1_0, q6_1_1, x6_2, q6_2_0, x6_3, q6_3_0, q6_3_1, x6_4, q6_4_0, x6_5, q6_5_0, x6_6, q6_6_0, x6_7, q6_7_0, x6_8, q6_8_0, x6_9, q6_9_0, x6_11, q6_11_0, x6_12, q6_12_0, q6_12_1, x6_13, q6_13_0, x6_14, q6_14_0, q6_14_1, x6_15, q6_15_0, q6_15_1, x6_16, q6_16_0, q6_16_1, x6_17, q6_17_0, x6_18, q6_18_0, x6_19, q6_19_0, q6_19_1, q6_19_2, q6_19_3, x6_20, q6_20_0, x6_21, q6_21_0, x6_22, q6_22_0, q6_22_1, x6_24, q6_24_0, q6_24_1, q6_24_2, q6_24_3, q6_24_4, x6_25, q6_25_0, q6_25_1, x6_26, q6_26_0, q6_26_1, x6_23, q6_23_0, x6_27, q6_27_0, x6_10, q6_10_0, x6_28, q6_28_0, q6_28_1, q6_28_2, hwf, hr, hqf, hw]
            · refine .inl ⟨j, ?_, ⟨by omega, fun k h a b => ?_⟩, by omega, rfl⟩
              · by_cases m1 : (l[j]).kind = 1
                · have m2 : ((l[j]).b.pid = (l[i]).b.pid) = False := eq_false fun h => hm (by simp [mk, m1, h])
                  simp [l6_0, m6, x6_0, q6_0_0, x6_1, q6_1_0, q6_1_1, x6_2, q6_2_0, x6_3, q6_3_0, q6_3_1, x6_4, q6_4_0, x6_5, q6_5_0, x6_6, q6_6_0, x6_7, q6_7_0, x6_8, q6_8_0, x6_9, q6_9_0, x6_11, q6_11_0, x6_12, q6_12_0, q6_12_1, x6_13, q6_13_0, x6_14, q6_14_0, q6_14_1, x6_15, q6_15_0, q6_15_1, x6_16, q6_16_0, q6_16_1, x6_17, q6_17_0, x6_18, q6_18_0, x6_19, q6_19_0, q6_19_1, q6_19_2, q6_19_3, x6_20, q6_20_0, x6_21, q6_21_0, x6_22, q6_22_0, q6_22_1, x6_24, q6_24_0, q6_24_1, q6_24_2, q6_24_3, q6_24_4, x6_25, q6_25_0, q6_25_1, x6_26, q6_26_0, q6_26_1, x6_23, q6_23_0, x6_27, q6_27_0, x6_10, q6_10_0, x6_28, q6_28_0, q6_28_1, q6_28_2, e6a, hjl, eq_true m1, m2, hwj]
                · simp [l6_0, m6, x6_0, q6_0_0, x6_1, q6_1_0, q6_1_1, x6_2, q6_2_0, x6_3, q6_3_0, q6_3_1, x6_4, q6_4_0, x6_5, q6_5_0, x6_6, q6_6_0, x6_7, q6_7_0, x6_8, q6_8_0, x6_9, q6_9_0, x6_11, q6_11_0, x6_12, q6_12_0, q6_12_1, x6_13, q6_13_0, x6_14, q6_14_0, q6_14_1, x6_15, q6_15_0, q6_15_1, x6_16, q6_16_0, q6_16_1, x6_17, q6_17_0, x6_18, q6_18_0, x6_19, q6_19_0, q6_19_1, q6_19_2, q6_19_3, x6_20, q6_20_0, x6_21, q6_21_0, x6_22, q6_22_0, q6_22_1, x6_24, q6_24_0, q6_24_1, q6_24_2, q6_24_3, q6_24_4, x6_25, q6_25_0, q6_25_1, x6_26, q6_26_0, q6_26_1, x6_23, q6_23_0, x6_27, q6_27_0, x6_10, q6_10_0, x6_28, q6_28_0, q6_28_1, q6_28_2, e6a, hjl, eq_false m1, hwj]
              · by_cases hkj : k = j
                · subst hkj; simpa using hm
                · exact hj.2 k h (by omega) b
      · have hi' : i = l.length := by omega
        subst hi'
        rw [List.drop_length, foldP, Option.some.injEq] at k2
        subst k2
        refine .inr ?_
        simp [l6_2, m6, x6_0, q6_0_0, x6_1, q6_1_0, q6_1_1, x6_2, q6_2_0, x6_3, q6_3_0, q6_3_1, x6_4, q6_4_0, x6_5, q6_5_0, x6_6, q6_6_0, x6_7, q6_7_0, x6_8, q6_8_0, x6_9, q6_9_0, x6_11, q6_11_0, x6_12, q6_12_0, q6_12_1, x6_13, q6_13_0, x6_14, q6_14_0, q6_14_1, x6_15, q6_15_0, q6_15_1, x6_16, q6_16_0, q6_16_1, x6_17, q6_17_0, x6_18, q6_18_0, x6_19, q6_19_0, q6_19_1, q6_19_2, q6_19_3, x6_20, q6_20_0, x6_21, q6_21_0, x6_22, q6_22_0, q6_22_1, x6_24, q6_24_0, q6_24_1, q6_24_2, q6_24_3, q6_24_4, x6_25, q6_25_0, q6_25_1, x6_26, q6_26_0, q6_26_1, x6_23, q6_23_0, x6_27, q6_27_0, x6_10, q6_10_0, x6_28, q6_28_0, q6_28_1, q6_28_2, e6, h27, esc_27, esc_24, t24]
end Go.Mir.A
