import Derived.Test.YtlpfeikoniepiaaRRL25
import Derived.Test.YtlpfeikoniepiaaRRL26
import Derived.Test.YtlpfeikoniepiaaRRMirSim
set_option linter.all false
namespace Go.Mir.A
attribute [local congr] bind_head
attribute [local simp] gc ofCells bindArgs resD St.get St.set Dat.underL Dat.underLL gc_self fillD elemsD rowsOk_nil rowsOk_cons rowsOk_app rowsOk_tk rowsOk_dp rowsOk_tl underLL_tl underLL_app underLL_tk underLL_dp nn1 nn2 take_rest take_full appD_nil Option.bind_some strip_undef strip1_undef norm_undef noTup_undef safe_undef cells_undef under_undef strip_int strip1_int norm_int noTup_int safe_int cells_int under_int strip_bool strip1_bool norm_bool noTup_bool safe_bool cells_bool under_bool strip_str strip1_str norm_str noTup_str safe_str cells_str under_str strip_agg strip1_agg norm_agg noTup_agg safe_agg cells_agg under_agg strip_tup strip1_tup norm_tup noTup_tup safe_tup cells_tup under_tup strip_slice strip1_slice norm_slice noTup_slice safe_slice cells_slice under_slice strip_nilp strip1_nilp norm_nilp noTup_nilp safe_nilp cells_nilp under_nilp strip_ptr strip1_ptr norm_ptr noTup_ptr safe_ptr cells_ptr under_ptr strip_rptr strip1_rptr norm_rptr noTup_rptr safe_rptr cells_rptr under_rptr strip_fn strip1_fn norm_fn noTup_fn safe_fn cells_fn under_fn strip_nilf strip1_nilf norm_nilf noTup_nilf safe_nilf cells_nilf under_nilf strip_iface strip1_iface norm_iface noTup_iface safe_iface cells_iface under_iface strip_nili strip1_nili norm_nili noTup_nili safe_nili cells_nili under_nili bin_add bin_sub bin_mul bin_quo bin_rem bin_eql bin_neq bin_lss bin_leq bin_gtr bin_geq bin_and bin_or bin_xor bin_andNot bin_shl bin_shr sbin_add sbin_eql sbin_neq sbin_lss sbin_leq sbin_gtr sbin_geq load_ptr load_rptr cellEq_int cellEq_bool cellEq_str cellsEq_nil cellsEq_cons rows_sl rows_str packD_one packD_nil packD_two leave_ret leave_normal leave_exit seqK_normal seqK_exit seqK_ret blockK_normal blockK_exit blockK_ret condK_bool exec_skip exec_exit exec_ret exec_loop exec_seq exec_block exec_cond ev_tmp ev_lit evs_nil evs_cons takeK_some take_tmp take_lit keepK_some keepK_none keep_nil keep_cons putD_some putD_none put_eq get_nil get_cons steps_nil steps_cons step_none guardK_t guardK_f guardK_undef step_some pickV_bool eo_pick loadmV_ptr loadmV_rptr eo_loadm eo_load storeV_ptr eo_store storefV_ptr eo_storef clearK_ptr clearK_rptr clearK_none clear_eq nilCheckV_ptr nilCheckV_rptr nilCheckV_fn eo_nilCheck eqsV_agg eo_eqs eqbV_bool eo_eqb unV_neg unV_not eo_un convV_int eo_conv boundK_int bound_none bound_some sliceV_slice eo_slice substrV_str eo_substr fieldAddrV_ptr fieldAddrV_rptr eo_fieldAddr fieldV_agg eo_field indexV_slice eo_index indexArrV_ptr indexArrV_rptr eo_indexArr atV_str eo_at extractV_tup eo_extract extractnV_tup eo_extractn callV_fn eo_call callcV_fn eo_callc callrV_fn eo_callr callR_eq beq_st loadrV_rptr eo_loadr lenV_slice lenV_str eo_len appV_slice eo_append minV_int maxV_int eo_min2 eo_max2 eo_mov_t eo_mov_f eo_alloc eo_box eo_build eo_buildSlice eo_bin eo_mkfn callD_eq callC_eq encPs encP encB encS encR under_encP under_encS under_encR rowsOk_S rowsOk_P rowsOk_R
set_option linter.unusedSimpArgs false
set_option linter.unusedVariables false
set_option maxHeartbeats 1000000
set_option maxRecDepth 4000
set_option maxHeartbeats 4000000
attribute [local simp] encTb encBs under_Tb under_Bs

def notPid (pid : Int) (t : Tk) : Bool := decide (t.1.pid ≠ pid)
theorem filt_step (q : Tk → Bool) (T : List Tk) (k : Nat) (hk : k < T.length) : (T.take (k + 1)).filter q = (T.take k).filter q ++ (if q T[k] then [T[k]] else []) := by
  rw [List.take_succ_eq_append_getElem hk, List.filter_append]
  cases h : q T[k] <;> simp [h]
theorem setP_ok {n : Nat} {l : List Prod} {q : Prod} (h : okN n l) (hq : q.seen.length ≤ n + 1 ∧ rngS q.seen) : okN (n + 1) (setP l q) :=
  ⟨Nat.le_trans (setP_len _ _) (by have := h.1; omega), fun p hp => by
    rcases setP_mem hp with hp | rfl
    · have := h.2 p hp; exact ⟨by omega, this.2⟩
    · exact hq⟩
theorem okN_up {n m : Nat} {l : List Prod} (h : okN n l) (hm : n ≤ m) : okN m l := ⟨by have := h.1; omega, fun p hp => ⟨by have := (h.2 p hp).1; omega, (h.2 p hp).2⟩⟩
theorem clearP_ok {n : Nat} {l : List Prod} (h : okN n l) (pid : Int) : okN (n + 1) (clearP l pid) := by
  unfold clearP
  split
  · exact setP_ok h ⟨Nat.zero_le _, fun s hs => by cases hs⟩
  · exact okN_up h (by omega)

abbrev Ones := Nat × Bool × List Prod × List Tk
def e4 (l : List Batch) (a : Ones) : Env := [(0, .slice false (l.map encB)), (3, .slice a.2.1 (a.2.2.1.map encP)), (4, .slice true (a.2.2.2.map encTb)), (5, .slice true (a.2.2.2.map encBs)), (6, .int .i64 a.1)]
def e4i (l : List Batch) (P : List Prod) (T : List Tk) (pid : Int) (i k : Nat) : Env := [(0, .slice false (l.map encB)), (3, .slice false (P.map encP)), (4, .slice true (T.map encTb)), (5, .slice true (T.map encBs)), (6, .int .i64 i), (7, .ptr 0 0), (8, .slice true (((T.take k).filter (notPid pid)).map encTb)), (9, .slice true (((T.take k).filter (notPid pid)).map encBs)), (10, .int .i64 k)]
theorem under_encBb (n : Nat) (l : List Batch) : Dat.underLL n (l.map encB) = true := underLL_mk fun d hd => by
  obtain ⟨x, _, rfl⟩ := List.mem_map.1 hd
  simp [encB, Dat.underL, Dat.under, under_encR]
attribute [local simp] under_encBb

theorem t4 (l : List Batch) (h1 : l.length ≤ 9223372036854775807) (h2 : ∀ b ∈ l, b.recs.length ≤ 9223372036854775807) (h3 : ∀ b ∈ l, b.seq ≤ 9223372036854775807) : run tab 4 [.slice false (l.map encB)] [] = some (.bool true, []) := by
  rw [run_eq, tab_4]
  by_cases hlen : 100 < (l.length : Int)
  · simp [m4, x4_0, q4_0_0, x4_1, q4_1_0, x4_2, q4_2_0, x4_3, q4_3_0, x4_4, q4_4_0, x4_5, q4_5_0, x4_6, q4_6_0, x4_7, q4_7_0, x4_9, q4_9_0, x4_10, q4_10_0, q4_10_1, x4_11, q4_11_0, x4_12, q4_12_0, x4_13, q4_13_0, x4_14, q4_14_0, x4_15, q4_15_0, x4_16, q4_16_0, x4_17, q4_17_0, x4_19, q4_19_0, q4_19_1, x4_20, q4_20_0, q4_20_1, x4_21, q4_21_0, q4_21_1, x4_18, q4_18_0, x4_22, q4_22_0, x4_23, q4_23_0, x4_24, q4_24_0, q4_24_1, x4_25, q4_25_0, q4_25_1, x4_26, q4_26_0, x4_27, q4_27_0, q4_27_1, x4_28, q4_28_0, q4_28_1, x4_29, q4_29_0, x4_30, q4_30_0, x4_31, q4_31_0, x4_32, q4_32_0, x4_33, q4_33_0, x4_8, q4_8_0, x4_34, q4_34_0, hlen, esc_11, t11]
  · simp [m4, x4_0, q4_0_0, x4_1, q4_1_0, x4_2, q4_2_0, x4_3, q4_3_0, x4_4, q4_4_0, x4_5, q4_5_0, x4_6, q4_6_0, x4_7, q4_7_0, x4_9, q4_9_0, x4_10, q4_10_0, q4_10_1, x4_11, q4_11_0, x4_12, q4_12_0, x4_13, q4_13_0, x4_14, q4_14_0, x4_15, q4_15_0, x4_16, q4_16_0, x4_17, q4_17_0, x4_19, q4_19_0, q4_19_1, x4_20, q4_20_0, q4_20_1, x4_21, q4_21_0, q4_21_1, x4_18, q4_18_0, x4_22, q4_22_0, x4_23, q4_23_0, x4_24, q4_24_0, q4_24_1, x4_25, q4_25_0, q4_25_1, x4_26, q4_26_0, x4_27, q4_27_0, q4_27_1, x4_28, q4_28_0, q4_28_1, x4_29, q4_29_0, x4_30, q4_30_0, x4_31, q4_31_0, x4_32, q4_32_0, x4_33, q4_33_0, x4_8, q4_8_0, x4_34, q4_34_0, hlen]
    simp only [Option.bind_assoc]
    refine loop_st (e4 l) (fun _ => []) (fun a => l.length - a.1) (fun a => a.1 ≤ l.length ∧ okN a.1 a.2.2.1 ∧ a.2.2.2.length ≤ a.1 ∧ mayPs a.2.2.1 0 = true ∧ Rel a.2.2.1 a.2.2.2) (fun _ => some (Dat.bool true, [])) (fun a ha => ?_) (0, true, [], []) ⟨Nat.zero_le _, ⟨Nat.le_refl _, fun p hp => by cases hp⟩, Nat.le_refl _, rfl, rel_nil⟩
    obtain ⟨i, own, P, T⟩ := a
    obtain ⟨hi, hok, hT, hm, hr⟩ := ha
    simp only at hi hok hT hm hr ⊢
    have hL := okN_L hok (by omega)
    by_cases hil : i < l.length
    · have hw : IntKind.wrap .i64 ((i : Int) + 1) = i + 1 := wrap64 (by omega) (by omega)
      have hbr := h2 _ (List.getElem_mem hil)
      have hbs := h3 _ (List.getElem_mem hil)
      have h10 := t10 l[i] hbr
      simp at h10
      cases hg : greatB l[i] with
      | true =>
        rw [hg] at h10
        refine .inr ?_
        simp [l4_1, m4, x4_0, q4_0_0, x4_1, q4_1_0, x4_2, q4_2_0, x4_3, q4_3_0, x4_4, q4_4_0, x4_5, q4_5_0, x4_6, q4_6_0, x4_7, q4_7_0, x4_9, q4_9_0, x4_10, q4_10_0, q4_10_1, x4_11, q4_11_0, x4_12, q4_12_0, x4_13, q4_13_0, x4_14, q4_14_0, x4_15, q4_15_0, x4_16, q4_16_0, x4_17, q4_17_0, x4_19, q4_19_0, q4_19_1, x4_20, q4_20_0, q4_20_1, x4_21, q4_21_0, q4_21_1, x4_18, q4_18_0, x4_22, q4_22_0, x4_23, q4_23_0, x4_24, q4_24_0, q4_24_1, x4_25, q4_25_0, q4_25_1, x4_26, q4_26_0, x4_27, q4_27_0, q4_27_1, x4_28, q4_28_0, q4_28_1, x4_29, q4_29_0, x4_30, q4_30_0, x4_31, q4_31_0, x4_32, q4_32_0, x4_33, q4_33_0, x4_8, q4_8_0, x4_34, q4_34_0, e4, hil, h10, esc_10, esc_11, t11]
      | false =>
        rw [hg] at h10
        have h15 := t15 l[i] (by have := (greatB_not hg).1; omega)
        simp at h15
        cases hmb : mayB l[i] with
        | false =>
          rw [hmb] at h15
          refine .inr ?_
          simp [l4_1, m4, x4_0, q4_0_0, x4_1, q4_1_0, x4_2, q4_2_0, x4_3, q4_3_0, x4_4, q4_4_0, x4_5, q4_5_0, x4_6, q4_6_0, x4_7, q4_7_0, x4_9, q4_9_0, x4_10, q4_10_0, q4_10_1, x4_11, q4_11_0, x4_12, q4_12_0, x4_13, q4_13_0, x4_14, q4_14_0, x4_15, q4_15_0, x4_16, q4_16_0, x4_17, q4_17_0, x4_19, q4_19_0, q4_19_1, x4_20, q4_20_0, q4_20_1, x4_21, q4_21_0, q4_21_1, x4_18, q4_18_0, x4_22, q4_22_0, x4_23, q4_23_0, x4_24, q4_24_0, q4_24_1, x4_25, q4_25_0, q4_25_1, x4_26, q4_26_0, x4_27, q4_27_0, q4_27_1, x4_28, q4_28_0, q4_28_1, x4_29, q4_29_0, x4_30, q4_30_0, x4_31, q4_31_0, x4_32, q4_32_0, x4_33, q4_33_0, x4_8, q4_8_0, x4_34, q4_34_0, e4, hil, h10, esc_10, h15, esc_15, esc_11, t11]
        | true =>
          rw [hmb] at h15
          cases htx : (l[i]).txn with
          | true =>
            have h16 := t16 P (l[i]).pid hL.1
            simp [htx] at h10 h15 h16
            refine .inl ⟨(i + 1, false, clearP P (l[i]).pid, T.filter (notPid (l[i]).pid)), ?_, ⟨hil, clearP_ok hok _, ?_, clear_may _ hm, rel_clear _ hr⟩, by simp only; omega, trivial⟩
            · simp [l4_1, m4, x4_0, q4_0_0, x4_1, q4_1_0, x4_2, q4_2_0, x4_3, q4_3_0, x4_4, q4_4_0, x4_5, q4_5_0, x4_6, q4_6_0, x4_7, q4_7_0, x4_9, q4_9_0, x4_10, q4_10_0, q4_10_1, x4_11, q4_11_0, x4_12, q4_12_0, x4_13, q4_13_0, x4_14, q4_14_0, x4_15, q4_15_0, x4_16, q4_16_0, x4_17, q4_17_0, x4_19, q4_19_0, q4_19_1, x4_20, q4_20_0, q4_20_1, x4_21, q4_21_0, q4_21_1, x4_18, q4_18_0, x4_22, q4_22_0, x4_23, q4_23_0, x4_24, q4_24_0, q4_24_1, x4_25, q4_25_0, q4_25_1, x4_26, q4_26_0, x4_27, q4_27_0, q4_27_1, x4_28, q4_28_0, q4_28_1, x4_29, q4_29_0, x4_30, q4_30_0, x4_31, q4_31_0, x4_32, q4_32_0, x4_33, q4_33_0, x4_8, q4_8_0, x4_34, q4_34_0, e4, hil, h10, esc_10, h15, esc_15, htx, h16, esc_16]
              simp only [Option.bind_assoc]
              refine loop_cont (e4i l (clearP P (l[i]).pid) T (l[i]).pid i) (fun _ => [[Dat.int .i64 (l[i]).pid, Dat.int .i64 (l[i]).epoch, Dat.int .i64 (l[i]).seq, Dat.bool true, Dat.slice false ((l[i]).recs.map encR)]]) T.length (fun _ => True) (fun _ => some (Ex.normal, [(0, Dat.slice false (l.map encB)), (3, Dat.slice false ((clearP P (l[i]).pid).map encP)), (4, Dat.slice true ((T.filter (notPid (l[i]).pid)).map encTb)), (5, Dat.slice true ((T.filter (notPid (l[i]).pid)).map encBs)), (6, Dat.int .i64 ((i : Int) + 1))], ([] : St))) trivial (fun _ => ?_) fun k hk _ => ?_
              · simp (maxSteps := 1000000) [l4_0, m4, x4_0, q4_0_0, x4_1, q4_1_0, x4_2, q4_2_0, x4_3, q4_3_0, x4_4, q4_4_0, x4_5, q4_5_0, x4_6, q4_6_0, x4_7, q4_7_0, x4_9, q4_9_0, x4_10, q4_10_0, q4_10_1, x4_11, q4_11_0, x4_12, q4_12_0, x4_13, q4_13_0, x4_14, q4_14_0, x4_15, q4_15_0, x4_16, q4_16_0, x4_17, q4_17_0, x4_19, q4_19_0, q4_19_1, x4_20, q4_20_0, q4_20_1, x4_21, q4_21_0, q4_21_1, x4_18, q4_18_0, x4_22, q4_22_0, x4_23, q4_23_0, x4_24, q4_24_0, q4_24_1, x4_25, q4_25_0, q4_25_1, x4_26, q4_26_0, x4_27, q4_27_0, q4_27_1, x4_28, q4_28_0, q4_28_1, x4_29, q4_29_0, x4_30, q4_30_0, x4_31, q4_31_0, x4_32, q4_32_0, x4_33, q4_33_0, x4_8, q4_8_0, x4_34, q4_34_0, e4i, hw]
              · have hwk : IntKind.wrap .i64 ((k : Int) + 1) = k + 1 := wrap64 (by omega) (by omega)
                refine .inl ⟨?_, trivial, rfl⟩
                have hfs := filt_step (notPid (l[i]).pid) T k hk
                have hfl : ((T.take k).filter (notPid (l[i]).pid)).length ≤ k := Nat.le_trans (List.length_filter_le ..) (by rw [List.length_take]; omega)
                by_cases hq : (T[k]).1.pid = (l[i]).pid
                · have hq' := eq_true hq
                  have hn : notPid (l[i]).pid T[k] = false := by simp [notPid, hq]
                  rw [hn] at hfs
                  simp only [Bool.false_eq_true, if_false, List.append_nil] at hfs
                  simp [l4_0, m4, x4_0, q4_0_0, x4_1, q4_1_0, x4_2, q4_2_0, x4_3, q4_3_0, x4_4, q4_4_0, x4_5, q4_5_0, x4_6, q4_6_0, x4_7, q4_7_0, x4_9, q4_9_0, x4_10, q4_10_0, q4_10_1, x4_11, q4_11_0, x4_12, q4_12_0, x4_13, q4_13_0, x4_14, q4_14_0, x4_15, q4_15_0, x4_16, q4_16_0, x4_17, q4_17_0, x4_19, q4_19_0, q4_19_1, x4_20, q4_20_0, q4_20_1, x4_21, q4_21_0, q4_21_1, x4_18, q4_18_0, x4_22, q4_22_0, x4_23, q4_23_0, x4_24, q4_24_0, q4_24_1, x4_25, q4_25_0, q4_25_1, x4_26, q4_26_0, x4_27, q4_27_0, q4_27_1, x4_28, q4_28_0, q4_28_1, x4_29, q4_29_0, x4_30, q4_30_0, x4_31, q4_31_0, x4_32, q4_32_0, x4_33, q4_33_0, x4_8, q4_8_0, x4_34, q4_34_0, e4i, hk, hwk, hq', hfs]
                · have hq' := eq_false hq
                  have hn : notPid (l[i]).pid T[k] = true := by simp [notPid, hq]
                  rw [hn, if_pos rfl] at hfs
                  have a1 := appD_ok (esz := 5) (bytes := 56) (xs := ((T.take k).filter (notPid (l[i]).pid)).map encTb) (ys := [encTb T[k]]) (by simp; omega) (rows_Tb _) (by simp [encTb, encB])
                  have a2 := appD_ok (esz := 1) (bytes := 8) (xs := ((T.take k).filter (notPid (l[i]).pid)).map encBs) (ys := [encBs T[k]]) (by simp; omega) (rows_Bs _) (by simp [encBs])
                  simp at a1 a2
                  simp [l4_0, m4, x4_0, q4_0_0, x4_1, q4_1_0, x4_2, q4_2_0, x4_3, q4_3_0, x4_4, q4_4_0, x4_5, q4_5_0, x4_6, q4_6_0, x4_7, q4_7_0, x4_9, q4_9_0, x4_10, q4_10_0, q4_10_1, x4_11, q4_11_0, x4_12, q4_12_0, x4_13, q4_13_0, x4_14, q4_14_0, x4_15, q4_15_0, x4_16, q4_16_0, x4_17, q4_17_0, x4_19, q4_19_0, q4_19_1, x4_20, q4_20_0, q4_20_1, x4_21, q4_21_0, q4_21_1, x4_18, q4_18_0, x4_22, q4_22_0, x4_23, q4_23_0, x4_24, q4_24_0, q4_24_1, x4_25, q4_25_0, q4_25_1, x4_26, q4_26_0, x4_27, q4_27_0, q4_27_1, x4_28, q4_28_0, q4_28_1, x4_29, q4_29_0, x4_30, q4_30_0, x4_31, q4_31_0, x4_32, q4_32_0, x4_33, q4_33_0, x4_8, q4_8_0, x4_34, q4_34_0, e4i, hk, hwk, hq', hfs, a1, a2]
            · simp only
              exact Nat.le_trans (List.length_filter_le ..) (by omega)
          | false =>
            have h17 := t17 P l[i] hL (by have := (greatB_not hg).1; omega)
            have h18 := t18 T l[i] (checkP P l[i]).1 (by omega)
            have h12 := t12 P l[i] i hL (by have := (greatB_not hg).1; omega)
            have hd := dup_is hm hmb hr
            by_cases he : (checkP P l[i]).2.2 = 0
            · have he' := eq_true he
              cases hdu : dupR T.reverse l[i] (checkP P l[i]).1 0 with
              | true =>
                rw [hdu] at hd h18
                simp only [he, decide_true, Bool.and_true] at hd
                have htk : takeP P l[i] i = ([], 101) := by unfold takeP; rw [if_neg (by omega), if_neg (by simp [he]), if_pos hd]
                rw [htk] at h12
                simp [htx, encC, encT, he, hd] at h10 h15 h17 h18 h12
                refine .inl ⟨(i + 1, own, P, T), ?_, ⟨hil, okN_up hok (by omega), Nat.le_trans hT (Nat.le_succ _), hm, hr⟩, by simp only; omega, trivial⟩
                simp [l4_1, m4, x4_0, q4_0_0, x4_1, q4_1_0, x4_2, q4_2_0, x4_3, q4_3_0, x4_4, q4_4_0, x4_5, q4_5_0, x4_6, q4_6_0, x4_7, q4_7_0, x4_9, q4_9_0, x4_10, q4_10_0, q4_10_1, x4_11, q4_11_0, x4_12, q4_12_0, x4_13, q4_13_0, x4_14, q4_14_0, x4_15, q4_15_0, x4_16, q4_16_0, x4_17, q4_17_0, x4_19, q4_19_0, q4_19_1, x4_20, q4_20_0, q4_20_1, x4_21, q4_21_0, q4_21_1, x4_18, q4_18_0, x4_22, q4_22_0, x4_23, q4_23_0, x4_24, q4_24_0, q4_24_1, x4_25, q4_25_0, q4_25_1, x4_26, q4_26_0, x4_27, q4_27_0, q4_27_1, x4_28, q4_28_0, q4_28_1, x4_29, q4_29_0, x4_30, q4_30_0, x4_31, q4_31_0, x4_32, q4_32_0, x4_33, q4_33_0, x4_8, q4_8_0, x4_34, q4_34_0, e4, hil, h10, esc_10, h15, esc_15, htx, h17, esc_17, h18, esc_18, h12, esc_12, hw]
              | false =>
                rw [hdu] at hd h18
                simp only [Bool.and_false] at hd
                have hck : (checkP P l[i]).2 = (false, 0) := Prod.ext hd he
                have hbi : -1 ≤ (i : Int) ∧ (i : Int) ≤ 1048576 := by omega
                rw [take_ok hck hbi] at h12
                have a1 := appD_ok (esz := 5) (bytes := 56) (xs := T.map encTb) (ys := [encTb (l[i], (i : Int))]) (by simp; omega) (rows_Tb _) (by simp [encTb, encB])
                have a2 := appD_ok (esz := 1) (bytes := 8) (xs := T.map encBs) (ys := [encBs (l[i], (i : Int))]) (by simp; omega) (rows_Bs _) (by simp [encBs])
                simp [htx, encC, encT, he, hd] at h10 h15 h17 h18 h12 a1 a2
                have hok' := takeP_ok hok l[i] i hbs
                rw [take_ok hck hbi] at hok'
                refine .inl ⟨(i + 1, false, insP P (newP (baseP P l[i]) l[i] i), T ++ [(l[i], (i : Int))]), ?_, ⟨hil, hok', by simp; omega, take_may hck hbi, rel_take hck hr⟩, by simp only; omega, trivial⟩
                simp [l4_1, m4, x4_0, q4_0_0, x4_1, q4_1_0, x4_2, q4_2_0, x4_3, q4_3_0, x4_4, q4_4_0, x4_5, q4_5_0, x4_6, q4_6_0, x4_7, q4_7_0, x4_9, q4_9_0, x4_10, q4_10_0, q4_10_1, x4_11, q4_11_0, x4_12, q4_12_0, x4_13, q4_13_0, x4_14, q4_14_0, x4_15, q4_15_0, x4_16, q4_16_0, x4_17, q4_17_0, x4_19, q4_19_0, q4_19_1, x4_20, q4_20_0, q4_20_1, x4_21, q4_21_0, q4_21_1, x4_18, q4_18_0, x4_22, q4_22_0, x4_23, q4_23_0, x4_24, q4_24_0, q4_24_1, x4_25, q4_25_0, q4_25_1, x4_26, q4_26_0, x4_27, q4_27_0, q4_27_1, x4_28, q4_28_0, q4_28_1, x4_29, q4_29_0, x4_30, q4_30_0, x4_31, q4_31_0, x4_32, q4_32_0, x4_33, q4_33_0, x4_8, q4_8_0, x4_34, q4_34_0, e4, hil, h10, esc_10, h15, esc_15, htx, h17, esc_17, h18, esc_18, h12, esc_12, a1, a2, hw]
            · rw [decide_eq_false he, Bool.false_and] at hd
              have htk : takeP P l[i] i = ([], (checkP P l[i]).2.2) := by unfold takeP; rw [if_neg (by omega), if_pos he]
              rw [htk] at h12
              simp [htx, encC, encT, hd] at h10 h15 h17 h12
              have he' := eq_false he
              refine .inl ⟨(i + 1, own, P, T), ?_, ⟨hil, okN_up hok (by omega), Nat.le_trans hT (Nat.le_succ _), hm, hr⟩, by simp only; omega, trivial⟩
              simp [l4_1, m4, x4_0, q4_0_0, x4_1, q4_1_0, x4_2, q4_2_0, x4_3, q4_3_0, x4_4, q4_4_0, x4_5, q4_5_0, x4_6, q4_6_0, x4_7, q4_7_0, x4_9, q4_9_0, x4_10, q4_10_0, q4_10_1, x4_11, q4_11_0, x4_12, q4_12_0, x4_13, q4_13_0, x4_14, q4_14_0, x4_15, q4_15_0, x4_16, q4_16_0, x4_17, q4_17_0, x4_19, q4_19_0, q4_19_1, x4_20, q4_20_0, q4_20_1, x4_21, q4_21_0, q4_21_1, x4_18, q4_18_0, x4_22, q4_22_0, x4_23, q4_23_0, x4_24, q4_24_0, q4_24_1, x4_25, q4_25_0, q4_25_1, x4_26, q4_26_0, x4_27, q4_27_0, q4_27_1, x4_28, q4_28_0, q4_28_1, x4_29, q4_29_0, x4_30, q4_30_0, x4_31, q4_31_0, x4_32, q4_32_0, x4_33, q4_33_0, x4_8, q4_8_0, x4_34, q4_34_0, e4, hil, h10, esc_10, h15, esc_15, htx, h17, esc_17, h12, esc_12, he', hw]
    · have h19 := t19 P (by have := hok.1; omega) (fun p hp => by have := (hok.2 p hp).1; omega)
      rw [hm] at h19
      simp at h19
      refine .inr ?_
      simp [l4_1, m4, x4_0, q4_0_0, x4_1, q4_1_0, x4_2, q4_2_0, x4_3, q4_3_0, x4_4, q4_4_0, x4_5, q4_5_0, x4_6, q4_6_0, x4_7, q4_7_0, x4_9, q4_9_0, x4_10, q4_10_0, q4_10_1, x4_11, q4_11_0, x4_12, q4_12_0, x4_13, q4_13_0, x4_14, q4_14_0, x4_15, q4_15_0, x4_16, q4_16_0, x4_17, q4_17_0, x4_19, q4_19_0, q4_19_1, x4_20, q4_20_0, q4_20_1, x4_21, q4_21_0, q4_21_1, x4_18, q4_18_0, x4_22, q4_22_0, x4_23, q4_23_0, x4_24, q4_24_0, q4_24_1, x4_25, q4_25_0, q4_25_1, x4_26, q4_26_0, x4_27, q4_27_0, q4_27_1, x4_28, q4_28_0, q4_28_1, x4_29, q4_29_0, x4_30, q4_30_0, x4_31, q4_31_0, x4_32, q4_32_0, x4_33, q4_33_0, x4_8, q4_8_0, x4_34, q4_34_0, e4, hil, h19, esc_19, esc_11, t11]
end Go.Mir.A
