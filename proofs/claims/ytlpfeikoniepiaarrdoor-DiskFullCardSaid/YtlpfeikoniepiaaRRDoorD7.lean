/- DiskFull. -/
import Derived.Test.YtlpfeikoniepiaaRRDoorQ2
set_option linter.all false
namespace Go.Mir.D
attribute [local congr] bind_head
attribute [local simp] gc ofCells bindArgs resD St.get St.set Dat.underL Dat.underLL gc_self fillD elemsD rowsOk_nil rowsOk_cons rowsOk_app rowsOk_tk rowsOk_dp rowsOk_tl underLL_tl underLL_app underLL_tk underLL_dp nn1 nn2 take_rest take_full appD_nil Option.bind_some strip_undef strip1_undef norm_undef noTup_undef safe_undef cells_undef under_undef strip_int strip1_int norm_int noTup_int safe_int cells_int under_int strip_bool strip1_bool norm_bool noTup_bool safe_bool cells_bool under_bool strip_str strip1_str norm_str noTup_str safe_str cells_str under_str strip_agg strip1_agg norm_agg noTup_agg safe_agg cells_agg under_agg strip_tup strip1_tup norm_tup noTup_tup safe_tup cells_tup under_tup strip_slice strip1_slice norm_slice noTup_slice safe_slice cells_slice under_slice strip_nilp strip1_nilp norm_nilp noTup_nilp safe_nilp cells_nilp under_nilp strip_ptr strip1_ptr norm_ptr noTup_ptr safe_ptr cells_ptr under_ptr strip_rptr strip1_rptr norm_rptr noTup_rptr safe_rptr cells_rptr under_rptr strip_fn strip1_fn norm_fn noTup_fn safe_fn cells_fn under_fn strip_nilf strip1_nilf norm_nilf noTup_nilf safe_nilf cells_nilf under_nilf strip_iface strip1_iface norm_iface noTup_iface safe_iface cells_iface under_iface strip_nili strip1_nili norm_nili noTup_nili safe_nili cells_nili under_nili bin_add bin_sub bin_mul bin_quo bin_rem bin_eql bin_neq bin_lss bin_leq bin_gtr bin_geq bin_and bin_or bin_xor bin_andNot bin_shl bin_shr sbin_add sbin_eql sbin_neq sbin_lss sbin_leq sbin_gtr sbin_geq load_ptr load_rptr cellEq_int cellEq_bool cellEq_str cellsEq_nil cellsEq_cons rows_sl rows_str packD_one packD_nil packD_two leave_ret leave_normal leave_exit seqK_normal seqK_exit seqK_ret blockK_normal blockK_exit blockK_ret condK_bool exec_skip exec_exit exec_ret exec_loop exec_seq exec_block exec_cond ev_tmp ev_lit evs_nil evs_cons takeK_some take_tmp take_lit zk_eq keepK_some keepK_none keep_nil keep_cons putD_some putD_none put_eq get_nil get_cons steps_nil steps_cons step_none guardK_t guardK_f guardK_undef step_some pickV_bool eo_pick loadmV_ptr loadmV_rptr eo_loadm eo_load storeV_ptr eo_store storefV_ptr eo_storef clearK_ptr clearK_rptr clearK_none clear_eq nilCheckV_ptr nilCheckV_rptr nilCheckV_fn eo_nilCheck eqsV_agg eo_eqs eqbV_bool eo_eqb unV_neg unV_not eo_un convV_int eo_conv boundK_int bound_none bound_some sliceV_slice eo_slice substrV_str eo_substr fieldAddrV_ptr fieldAddrV_rptr eo_fieldAddr fieldV_agg eo_field indexV_slice eo_index indexArrV_ptr indexArrV_rptr eo_indexArr atV_str eo_at extractV_tup eo_extract extractnV_tup eo_extractn callV_fn eo_call callcV_fn eo_callc callrV_fn eo_callr callR_eq beq_st loadrV_rptr eo_loadr lenV_slice lenV_str eo_len appV_slice eo_append minV_int maxV_int eo_min2 eo_max2 eo_mov_t eo_mov_f eo_alloc eo_box eo_build eo_buildSlice eo_bin eo_mkfn callD_eq callC_eq encF encK encWr under_encF under_encWr rowsOk_F rowsOk_Wr eo_nat eo_s2b eo_b2s s2bV_str b2sV_slice natD_idx
set_option linter.unusedSimpArgs false
set_option linter.unusedVariables false
set_option maxHeartbeats 1000000
set_option maxRecDepth 4000
set_option maxHeartbeats 8000000

theorem act_put (d : DiskD) (nm b : Txt) : ∃ F : FileD, actP d ⟨0, nm, b, 0⟩ = (F, 0) ∧ F.name = nm ∧ F.b = (oldF d.files nm).b ++ b ∧ F.sure = (oldF d.files nm).sure := by
  have hc : ¬ cuts ⟨0, nm, b, 0⟩ := by unfold cuts; simp
  refine ⟨⟨(oldF d.files nm).name, (oldF d.files nm).b ++ b, (oldF d.files nm).sure⟩, ?_, oldF_name _ _, rfl, rfl⟩
  unfold actP doesP
  rw [if_neg (fun h => hc h.1), if_neg (fun h => hc h.1), if_pos rfl]
theorem may_put {nm b : Txt} (hn : nameP nm = true) (hb : b ≠ []) : mayW ⟨0, nm, b, 0⟩ = true := by simp [mayW, hn, hb]
theorem getP_old (l : List FileD) (nm : Txt) : (getP l nm).1.b = (oldF l nm).b ∧ (getP l nm).1.sure = (oldF l nm).sure := by
  rw [getP_eq]
  unfold oldF
  cases getS l nm <;> exact ⟨rfl, rfl⟩
theorem full_not {d : DiskD} {nm b : Txt} (h : Chk d) (h1 : d.down = false) (h2 : d.left < 0) (hn : nameP nm = true) (hb : b ≠ []) (hc : d.cap < (usedP d.files : Int) + b.length ∨ ((getP d.files nm).1.b = [] ∧ d.files.length = 64)) :
    doP d ⟨0, nm, b, 0⟩ = (zeroK, 31) ∨ doP d ⟨0, nm, b, 0⟩ = (zeroK, 3) := by
  obtain ⟨F, ha, f1, f2, f3⟩ := act_put d nm b
  have hu := used_ins (l := d.files) (a := []) (nm := nm) (f := F) h.files
  have hl := ins_len (l := d.files) (nm := nm) (f := F) h.files
  rw [doP_chk _ h, may_put hn hb, h1, if_neg (by simp), if_neg (by simp), if_neg (by omega), if_neg (by rw [ha]; simp), ha]
  show endP d (insF d.files nm F) = _ ∨ endP d (insF d.files nm F) = _
  have hb' : F.b ≠ [] := by rw [f2]; simp [hb]
  have hFl : F.b.length = (oldF d.files nm).b.length + b.length := by rw [f2, List.length_append]
  rw [if_neg hb'] at hl
  have hold : ((getS d.files nm).getD ⟨nm, [], 0⟩) = oldF d.files nm := rfl
  rw [hold] at hu
  unfold endP
  by_cases c : 64 < (insF d.files nm F).length
  · rw [if_pos c]; exact .inr rfl
  · rw [if_neg c]
    rcases hc with hc | ⟨hg, hn64⟩
    · rw [if_pos (by omega)]; exact .inl rfl
    · rw [(getP_old d.files nm).1] at hg
      have hnone : (getS d.files nm).isSome = false := by
        cases hs : getS d.files nm with
        | none => rfl
        | some f =>
          unfold oldF at hg
          rw [hs] at hg
          exact absurd hg (goodF_get (checkL_mem h.files f (getS_mem hs).1).2.2).1
      rw [hnone] at hl
      simp at hl
      omega
theorem full_goes {d : DiskD} {nm b : Txt} (h : Chk d) (h1 : d.down = false) (h2 : d.left < 0) (hn : nameP nm = true) (hb : b ≠ []) (hc1 : ¬ d.cap < (usedP d.files : Int) + b.length) (hc2 : ¬ ((getP d.files nm).1.b = [] ∧ d.files.length = 64)) :
    ∃ x, doP d ⟨0, nm, b, 0⟩ = (x, 0) ∧ Chk x ∧ getP x.files nm = (⟨nm, (getP d.files nm).1.b ++ b, (getP d.files nm).1.sure⟩, true) ∧ usedP x.files = usedP d.files + b.length := by
  obtain ⟨F, ha, f1, f2, f3⟩ := act_put d nm b
  have hu2 := used_ins (l := d.files) (a := []) (nm := nm) (f := F) h.files
  have hl2 := ins_len (l := d.files) (nm := nm) (f := F) h.files
  have hb' : F.b ≠ [] := by rw [f2]; simp [hb]
  have hFl : F.b.length = (oldF d.files nm).b.length + b.length := by rw [f2, List.length_append]
  rw [if_neg hb'] at hl2
  have hold : ((getS d.files nm).getD ⟨nm, [], 0⟩) = oldF d.files nm := rfl
  rw [hold] at hu2
  have hlen := h.len
  have hlen2 : (insF d.files nm F).length ≤ 64 := by
    cases hs : getS d.files nm with
    | some f => rw [hs] at hl2; simp at hl2; omega
    | none =>
      rw [hs] at hl2
      simp at hl2
      have hg : (getP d.files nm).1.b = [] := by rw [getP_eq, hs]; rfl
      have : d.files.length ≠ 64 := fun e => hc2 ⟨hg, e⟩
      omega
  have hgo := do_goes (w := ⟨0, nm, b, 0⟩) h (may_put hn hb) h1 (by omega) (by rw [ha]) (by rw [ha]; exact hlen2) (by rw [ha]; simp only; omega)
  have hdn := do_done h hgo
  refine ⟨_, hgo, hdn.chk, ?_, ?_⟩
  · rw [getP_eq, hdn.get nm, if_pos rfl, ha]
    simp only [hb', if_false]
    rw [(getP_old d.files nm).1, (getP_old d.files nm).2, ← f2, ← f3, ← f1]
  · show usedP (insF d.files nm (actP d ⟨0, nm, b, 0⟩).1) = _
    rw [ha]
    show usedP (insF d.files nm F) = _
    omega
theorem full3 (d : DiskD) (nm b : Txt) (c1 : greatK d = false) (hchk : Chk d) (hleft : -9223372036854775808 ≤ d.left) (c3 : d.down = false) (c4 : d.left < 0) (c5 : nameP nm = true) (hb0 : b ≠ []) (c7 : b.length ≤ 131072) : run tab 3 [.agg (encK d), .str nm, .str b] [] = some (.bool true, []) := by
  have h12 := t12 d
  have h13 := t13 d hchk.ok
  have h14 := t14 nm
  have h16 := t16 d nm (by have := hchk.len; omega)
  have h18 := t18 nm b
  have h17 := t17 d ⟨0, nm, b, 0⟩ hchk.ok ⟨by have := (nameP_get c5).2.1; simp only; omega, by simp only; omega⟩ (by omega)
  have h19 := t19 d hchk.ok
  have hus := hchk.ok.used
  rw [c1] at h12
  rw [checkP_iff.2 hchk] at h13
  rw [c5] at h14
  simp [c3] at h12 h13
  simp [c3, encG] at h16
  simp at h18
  simp [c3] at h19
  have e4 : ¬ 0 ≤ d.left := by omega
  have e7 : ¬ (131072 : Int) < b.length := by omega
  have hw : IntKind.wrap .i64 ((usedP d.files : Int) + b.length) = (usedP d.files : Int) + b.length := wrap64 (by omega) (by omega)
  rw [run_eq, tab_3]
  by_cases c8 : d.cap < (usedP d.files : Int) + b.length
  · rcases full_not hchk c3 c4 c5 hb0 (.inl c8) with hd | hd
    · rw [hd] at h17
      simp [c3, encDr, zeroK] at h17
      simp [m3, x3_0, q3_0_0, x3_1, q3_1_0, q3_1_1, q3_1_2, q3_1_3, q3_1_4, q3_1_5, x3_3, q3_3_0, q3_3_1, x3_4, q3_4_0, q3_4_1, x3_5, q3_5_0, q3_5_1, q3_5_2, q3_5_3, x3_6, q3_6_0, q3_6_1, q3_6_2, h12, esc_12, h13, esc_13, c3, e4, h14, esc_14, hb0, e7, h16, esc_16, h18, esc_18, h17, esc_17, h19, esc_19, hw, c8, t15, esc_15]
    · rw [hd] at h17
      simp [c3, encDr, zeroK] at h17
      simp [m3, x3_0, q3_0_0, x3_1, q3_1_0, q3_1_1, q3_1_2, q3_1_3, q3_1_4, q3_1_5, x3_3, q3_3_0, q3_3_1, x3_4, q3_4_0, q3_4_1, x3_5, q3_5_0, q3_5_1, q3_5_2, q3_5_3, x3_6, q3_6_0, q3_6_1, q3_6_2, h12, esc_12, h13, esc_13, c3, e4, h14, esc_14, hb0, e7, h16, esc_16, h18, esc_18, h17, esc_17, h19, esc_19, hw, c8, t15, esc_15]
  · by_cases c9 : (getP d.files nm).1.b = [] ∧ d.files.length = 64
    · obtain ⟨c9, c10⟩ := c9
      have e10 : (d.files.length : Int) = 64 := by omega
      rcases full_not hchk c3 c4 c5 hb0 (.inr ⟨c9, c10⟩) with hd | hd
      · rw [hd] at h17
        simp [c3, encDr, zeroK] at h17
        simp [m3, x3_0, q3_0_0, x3_1, q3_1_0, q3_1_1, q3_1_2, q3_1_3, q3_1_4, q3_1_5, x3_3, q3_3_0, q3_3_1, x3_4, q3_4_0, q3_4_1, x3_5, q3_5_0, q3_5_1, q3_5_2, q3_5_3, x3_6, q3_6_0, q3_6_1, q3_6_2, h12, esc_12, h13, esc_13, c3, e4, h14, esc_14, hb0, e7, h16, esc_16, h18, esc_18, h17, esc_17, h19, esc_19, hw, c8, c9, e10, t15, esc_15]
      · rw [hd] at h17
        simp [c3, encDr, zeroK] at h17
        simp [m3, x3_0, q3_0_0, x3_1, q3_1_0, q3_1_1, q3_1_2, q3_1_3, q3_1_4, q3_1_5, x3_3, q3_3_0, q3_3_1, x3_4, q3_4_0, q3_4_1, x3_5, q3_5_0, q3_5_1, q3_5_2, q3_5_3, x3_6, q3_6_0, q3_6_1, q3_6_2, h12, esc_12, h13, esc_13, c3, e4, h14, esc_14, hb0, e7, h16, esc_16, h18, esc_18, h17, esc_17, h19, esc_19, hw, c8, c9, e10, t15, esc_15]
    · obtain ⟨x, hd, hx, hg, hu⟩ := full_goes hchk c3 c4 c5 hb0 c8 c9
      have h16x := t16 x nm (by have := hx.len; omega)
      have h19x := t19 x hx.ok
      have hux := hx.ok.used
      rw [hd] at h17
      rw [hg] at h16x
      simp [c3, encDr] at h17
      simp [encG] at h16x
      simp [hu] at h19x
      have hlen : ((getP d.files nm).1.b.length + b.length ≤ 9223372036854775807) = True := by
        refine eq_true ?_
        have h5 : (getP d.files nm).1.b.length ≤ 1000000 := by
          rw [getP_eq]
          cases hs : getS d.files nm with
          | none => simp [zeroF]
          | some f => exact hchk.ok.b f (getS_mem hs).1
        omega
      by_cases c10 : (getP d.files nm).1.b = []
      · have c11 : ¬ (d.files.length : Int) = 64 := fun e => c9 ⟨c10, by omega⟩
        simp [c10] at hlen h16x
        simp [m3, x3_0, q3_0_0, x3_1, q3_1_0, q3_1_1, q3_1_2, q3_1_3, q3_1_4, q3_1_5, x3_3, q3_3_0, q3_3_1, x3_4, q3_4_0, q3_4_1, x3_5, q3_5_0, q3_5_1, q3_5_2, q3_5_3, x3_7, q3_7_0, q3_7_1, x3_8, q3_8_0, q3_8_1, q3_8_2, q3_8_3, q3_8_4, q3_8_5, h12, esc_12, h13, esc_13, c3, e4, h14, esc_14, hb0, e7, h16, esc_16, h18, esc_18, h17, esc_17, h19, esc_19, hw, c8, c10, c11, t15, esc_15, h16x, h19x, hlen]
      · simp [m3, x3_0, q3_0_0, x3_1, q3_1_0, q3_1_1, q3_1_2, q3_1_3, q3_1_4, q3_1_5, x3_3, q3_3_0, q3_3_1, x3_4, q3_4_0, q3_4_1, x3_5, q3_5_0, q3_5_1, q3_5_2, q3_5_3, x3_7, q3_7_0, q3_7_1, x3_8, q3_8_0, q3_8_1, q3_8_2, q3_8_3, q3_8_4, q3_8_5, h12, esc_12, h13, esc_13, c3, e4, h14, esc_14, hb0, e7, h16, esc_16, h18, esc_18, h17, esc_17, h19, esc_19, hw, c8, c10, t15, esc_15, h16x, h19x, hlen]
theorem t3 (d : DiskD) (nm b : Txt) (hleft : -9223372036854775808 ≤ d.left) : run tab 3 [.agg (encK d), .str nm, .str b] [] = some (.bool true, []) := by
  have h12 := t12 d
  rw [run_eq, tab_3]
  cases c1 : greatK d with
  | true =>
    rw [c1] at h12
    simp at h12
    simp [x3_0, q3_0_0, x3_1, q3_1_0, q3_1_1, q3_1_2, q3_1_3, q3_1_4, q3_1_5, x3_2, q3_2_0, m3, h12, esc_12, t15, esc_15]
  | false =>
    obtain ⟨-, -, hok⟩ := greatK_not c1
    have h13 := t13 d hok
    rw [c1] at h12
    simp at h12
    cases c2 : checkP d with
    | false =>
      rw [c2] at h13
      simp at h13
      simp [x3_0, q3_0_0, x3_1, q3_1_0, q3_1_1, q3_1_2, q3_1_3, q3_1_4, q3_1_5, x3_2, q3_2_0, m3, h12, esc_12, h13, esc_13, t15, esc_15]
    | true =>
      rw [c2] at h13
      simp at h13
      have hchk := checkP_iff.1 c2
      cases c3 : d.down with
      | true =>
        rw [c3] at h12 h13
        simp [x3_0, q3_0_0, x3_1, q3_1_0, q3_1_1, q3_1_2, q3_1_3, q3_1_4, q3_1_5, x3_2, q3_2_0, m3, h12, esc_12, h13, esc_13, c3, t15, esc_15]
      | false =>
        rw [c3] at h12 h13
        by_cases c4 : 0 ≤ d.left
        · simp [x3_0, q3_0_0, x3_1, q3_1_0, q3_1_1, q3_1_2, q3_1_3, q3_1_4, q3_1_5, x3_2, q3_2_0, m3, h12, esc_12, h13, esc_13, c3, c4, t15, esc_15]
        · have h14 := t14 nm
          cases c5 : nameP nm with
          | false =>
            rw [c5] at h14
            simp [x3_0, q3_0_0, x3_1, q3_1_0, q3_1_1, q3_1_2, q3_1_3, q3_1_4, q3_1_5, x3_2, q3_2_0, m3, h12, esc_12, h13, esc_13, c3, c4, h14, esc_14, t15, esc_15]
          | true =>
            rw [c5] at h14
            by_cases c6 : b.length = 0
            · simp [x3_0, q3_0_0, x3_1, q3_1_0, q3_1_1, q3_1_2, q3_1_3, q3_1_4, q3_1_5, x3_2, q3_2_0, m3, h12, esc_12, h13, esc_13, c3, c4, h14, esc_14, List.length_eq_zero_iff.1 c6, t15, esc_15]
            · have hb0 : b ≠ [] := fun e => c6 (by rw [e]; rfl)
              have e6 : ¬ ((b.length : Int) = 0) := by omega
              by_cases c7 : 131072 < b.length
              · have e7 : (131072 : Int) < b.length := by omega
                simp [x3_0, q3_0_0, x3_1, q3_1_0, q3_1_1, q3_1_2, q3_1_3, q3_1_4, q3_1_5, x3_2, q3_2_0, m3, h12, esc_12, h13, esc_13, c3, c4, h14, esc_14, hb0, e7, t15, esc_15]
              · have e7 : ¬ (131072 : Int) < b.length := by omega
                have key := full3 d nm b c1 hchk hleft c3 (by omega) c5 hb0 (by omega)
                rw [run_eq, tab_3] at key
                exact key
end Go.Mir.D
