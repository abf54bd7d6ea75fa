/- DiskApart. -/
import Derived.Test.YtlpfeikoniepiaaRRDoorE5
set_option linter.all false
namespace Go.Mir.D
attribute [local congr] bind_head
attribute [local simp] gc ofCells bindArgs resD St.get St.set Dat.underL Dat.underLL gc_self fillD elemsD rowsOk_nil rowsOk_cons rowsOk_app rowsOk_tk rowsOk_dp rowsOk_tl underLL_tl underLL_app underLL_tk underLL_dp nn1 nn2 take_rest take_full appD_nil Option.bind_some strip_undef strip1_undef norm_undef noTup_undef safe_undef cells_undef under_undef strip_int strip1_int norm_int noTup_int safe_int cells_int under_int strip_bool strip1_bool norm_bool noTup_bool safe_bool cells_bool under_bool strip_str strip1_str norm_str noTup_str safe_str cells_str under_str strip_agg strip1_agg norm_agg noTup_agg safe_agg cells_agg under_agg strip_tup strip1_tup norm_tup noTup_tup safe_tup cells_tup under_tup strip_slice strip1_slice norm_slice noTup_slice safe_slice cells_slice under_slice strip_nilp strip1_nilp norm_nilp noTup_nilp safe_nilp cells_nilp under_nilp strip_ptr strip1_ptr norm_ptr noTup_ptr safe_ptr cells_ptr under_ptr strip_rptr strip1_rptr norm_rptr noTup_rptr safe_rptr cells_rptr under_rptr strip_fn strip1_fn norm_fn noTup_fn safe_fn cells_fn under_fn strip_nilf strip1_nilf norm_nilf noTup_nilf safe_nilf cells_nilf under_nilf strip_iface strip1_iface norm_iface noTup_iface safe_iface cells_iface under_iface strip_nili strip1_nili norm_nili noTup_nili safe_nili cells_nili under_nili bin_add bin_sub bin_mul bin_quo bin_rem bin_eql bin_neq bin_lss bin_leq bin_gtr bin_geq bin_and bin_or bin_xor bin_andNot bin_shl bin_shr sbin_add sbin_eql sbin_neq sbin_lss sbin_leq sbin_gtr sbin_geq load_ptr load_rptr cellEq_int cellEq_bool cellEq_str cellsEq_nil cellsEq_cons rows_sl rows_str packD_one packD_nil packD_two leave_ret leave_normal leave_exit seqK_normal seqK_exit seqK_ret blockK_normal blockK_exit blockK_ret condK_bool exec_skip exec_exit exec_ret exec_loop exec_seq exec_block exec_cond ev_tmp ev_lit evs_nil evs_cons takeK_some take_tmp take_lit zk_eq keepK_some keepK_none keep_nil keep_cons putD_some putD_none put_eq get_nil get_cons steps_nil steps_cons step_none guardK_t guardK_f guardK_undef step_some pickV_bool eo_pick loadmV_ptr loadmV_rptr eo_loadm eo_load storeV_ptr eo_store storefV_ptr eo_storef clearK_ptr clearK_rptr clearK_none clear_eq nilCheckV_ptr nilCheckV_rptr nilCheckV_fn eo_nilCheck eqsV_agg eo_eqs eqbV_bool eo_eqb unV_neg unV_not eo_un convV_int eo_conv boundK_int bound_none bound_some sliceV_slice eo_slice substrV_str eo_substr fieldAddrV_ptr fieldAddrV_rptr eo_fieldAddr fieldV_agg eo_field indexV_slice eo_index indexArrV_ptr indexArrV_rptr eo_indexArr atV_str eo_at extractV_tup eo_extract extractnV_tup eo_extractn callV_fn eo_call callcV_fn eo_callc callrV_fn eo_callr callR_eq beq_st loadrV_rptr eo_loadr lenV_slice lenV_str eo_len appV_slice eo_append minV_int maxV_int eo_min2 eo_max2 eo_mov_t eo_mov_f eo_alloc eo_box eo_build eo_buildSlice eo_bin eo_mkfn callD_eq callC_eq encF encK encWr under_encF under_encWr rowsOk_F rowsOk_Wr eo_nat eo_s2b eo_b2s s2bV_str b2sV_slice natD_idx
set_option linter.unusedSimpArgs false
set_option linter.unusedVariables false
set_option maxHeartbeats 1000000
set_option maxRecDepth 4000
set_option maxHeartbeats 8000000

theorem act_same {d a : DiskD} {w : WriteD} (h : getS a.files w.file = getS d.files w.file) : actP a w = actP d w := by unfold actP oldF; rw [h]
theorem apart_goes {d a : DiskD} {v w : WriteD} (hd : Chk d) (hv : Done d v a) (hb : (actP d w).2 = 0) (hm : mayW w = true) (hne : w.file ≠ v.file) (hl : d.left < 0) (hlen : d.files.length ≤ 62) (hu : (usedP d.files : Int) + v.b.length + w.b.length ≤ d.cap) :
    doP a w = ({ a with files := insF a.files w.file (actP d w).1, left := d.left }, 0) ∧ Done a w { a with files := insF a.files w.file (actP d w).1, left := d.left } ∧ actP a w = actP d w := by
  have hg := hv.get w.file
  rw [if_neg hne] at hg
  have hact := act_same (w := w) hg
  have h1 := used_ins (l := a.files) (a := []) (nm := w.file) (f := (actP a w).1) hv.chk.files
  have h2 := ins_len (l := a.files) (nm := w.file) (f := (actP a w).1) hv.chk.files
  have h3 := hv.used
  have h4 := hv.len
  have b1 : (actP d v).1.b.length ≤ (oldF d.files v.file).b.length + v.b.length := does_b _ _ _
  have b2 : (actP a w).1.b.length ≤ (oldF a.files w.file).b.length + w.b.length := does_b _ _ _
  have hold : ((getS a.files w.file).getD ⟨w.file, [], 0⟩) = oldF a.files w.file := rfl
  rw [hold] at h1
  have hleft : a.left = d.left := by have := hv.left.2; rw [if_neg (by omega)] at this; exact this
  have i1 : (if (actP a w).1.b = [] then 0 else 1) ≤ 1 := by split <;> omega
  have i2 : (if (actP d v).1.b = [] then 0 else 1) ≤ 1 := by split <;> omega
  have hcap := hv.cap
  have hgo := do_goes (d := a) (w := w) hv.chk hm hv.down.2 (by omega) (by rw [hact]; exact hb) (by omega) (by omega)
  rw [if_neg (by omega), hleft, hact] at hgo
  exact ⟨hgo, do_done hv.chk hgo, hact⟩
theorem apart_eq {d a b : DiskD} {v w : WriteD} (hd : Chk d) (hv : doP d v = (a, 0)) (hw : doP d w = (b, 0)) (hne : v.file ≠ w.file) (hl : d.left < 0) (hlen : d.files.length ≤ 62) (hu : (usedP d.files : Int) + v.b.length + w.b.length ≤ d.cap) :
    ∃ x, doP a w = (x, 0) ∧ doP b v = (x, 0) ∧ Chk a ∧ Chk b ∧ Chk x ∧ a.left = d.left ∧ b.left = d.left := by
  have da := do_done hd hv
  have db := do_done hd hw
  obtain ⟨p1, p2, p3⟩ := apart_goes hd da db.act db.may (Ne.symm hne) hl hlen hu
  obtain ⟨q1, q2, q3⟩ := apart_goes hd db da.act da.may hne hl hlen (by omega)
  have hla : a.left = d.left := by have := da.left.2; rw [if_neg (by omega)] at this; exact this
  have hlb : b.left = d.left := by have := db.left.2; rw [if_neg (by omega)] at this; exact this
  refine ⟨_, p1, ?_, da.chk, db.chk, p2.chk, hla, hlb⟩
  rw [q1]
  have hf : insF b.files v.file (actP d v).1 = insF a.files w.file (actP d w).1 := by
    refine files_ext q2.chk.files p2.chk.files fun q => ?_
    rw [q2.get q, p2.get q, q3, p3, da.get q, db.get q]
    by_cases c1 : q = v.file
    · have c2 : ¬ q = w.file := by rw [c1]; exact hne
      rw [if_pos c1, if_neg c2, if_pos c1]
    · rw [if_neg c1]
      by_cases c2 : q = w.file
      · rw [if_pos c2, if_pos c2]
      · rw [if_neg c2, if_neg c2, if_neg c1]
  rw [hf, da.cap, db.cap, da.down.2, db.down.2]
theorem great2 (v w : WriteD) : greatWs [v, w] = (greatW v || greatW w) := by simp [greatWs]
theorem t6 (d : DiskD) (v w : WriteD) (hleft : -9223372036854775808 ≤ d.left) : run tab 6 [.agg (encK d), .agg (encWr v), .agg (encWr w)] [] = some (.bool true, []) := by
  have h12 := t12 d
  have h23 := t23 [v, w] false
  rw [run_eq, tab_6]
  cases c1 : greatK d with
  | true =>
    rw [c1] at h12
    simp at h12
    simp [m6, x6_0, q6_0_0, x6_1, q6_1_0, q6_1_1, q6_1_2, q6_1_3, q6_1_4, q6_1_5, q6_1_6, q6_1_7, q6_1_8, x6_2, q6_2_0, h12, esc_12, t15, esc_15]
  | false =>
    obtain ⟨-, -, hok⟩ := greatK_not c1
    have h13 := t13 d hok
    rw [c1] at h12
    simp at h12
    cases c2 : greatWs [v, w] with
    | true =>
      rw [c2] at h23
      simp at h23
      simp [m6, x6_0, q6_0_0, x6_1, q6_1_0, q6_1_1, q6_1_2, q6_1_3, q6_1_4, q6_1_5, q6_1_6, q6_1_7, q6_1_8, x6_2, q6_2_0, h12, esc_12, h23, esc_23, t15, esc_15]
    | false =>
      obtain ⟨-, g2⟩ := greatWs_not c2
      rw [c2] at h23
      simp at h23
      cases c3 : checkP d with
      | false =>
        rw [c3] at h13
        simp at h13
        simp [m6, x6_0, q6_0_0, x6_1, q6_1_0, q6_1_1, q6_1_2, q6_1_3, q6_1_4, q6_1_5, q6_1_6, q6_1_7, q6_1_8, x6_2, q6_2_0, h12, esc_12, h23, esc_23, h13, esc_13, t15, esc_15]
      | true =>
        rw [c3] at h13
        simp at h13
        have hc := checkP_iff.1 c3
        by_cases c4 : v.file = w.file
        · rw [c4] at h23
          simp [m6, x6_0, q6_0_0, x6_1, q6_1_0, q6_1_1, q6_1_2, q6_1_3, q6_1_4, q6_1_5, q6_1_6, q6_1_7, q6_1_8, x6_2, q6_2_0, h12, esc_12, h23, esc_23, h13, esc_13, c4, t15, esc_15]
        · by_cases c5 : 62 < d.files.length
          · have e5 : (62 : Int) < d.files.length := by omega
            simp [m6, x6_0, q6_0_0, x6_1, q6_1_0, q6_1_1, q6_1_2, q6_1_3, q6_1_4, q6_1_5, q6_1_6, q6_1_7, q6_1_8, x6_2, q6_2_0, h12, esc_12, h23, esc_23, h13, esc_13, c4, e5, t15, esc_15]
          · have e5 : ¬ (62 : Int) < d.files.length := by omega
            cases c6 : d.down with
            | true =>
              rw [c6] at h12 h13
              simp [m6, x6_0, q6_0_0, x6_1, q6_1_0, q6_1_1, q6_1_2, q6_1_3, q6_1_4, q6_1_5, q6_1_6, q6_1_7, q6_1_8, x6_2, q6_2_0, h12, esc_12, h23, esc_23, h13, esc_13, c4, e5, c6, t15, esc_15]
            | false =>
              rw [c6] at h12 h13
              by_cases c7 : 0 ≤ d.left
              · simp [m6, x6_0, q6_0_0, x6_1, q6_1_0, q6_1_1, q6_1_2, q6_1_3, q6_1_4, q6_1_5, q6_1_6, q6_1_7, q6_1_8, x6_2, q6_2_0, h12, esc_12, h23, esc_23, h13, esc_13, c4, e5, c6, c7, t15, esc_15]
              · have h19 := t19 d hok
                simp [c6] at h19
                have hv := g2 v (by simp)
                have hw := g2 w (by simp)
                have hus := hok.used
                have w1 : IntKind.wrap .i64 ((usedP d.files : Int) + v.b.length) = (usedP d.files : Int) + v.b.length := wrap64 (by omega) (by omega)
                have w2 : IntKind.wrap .i64 ((usedP d.files : Int) + v.b.length + w.b.length) = (usedP d.files : Int) + v.b.length + w.b.length := wrap64 (by omega) (by omega)
                by_cases c8 : d.cap < (usedP d.files : Int) + v.b.length + w.b.length
                · simp [m6, x6_0, q6_0_0, x6_1, q6_1_0, q6_1_1, q6_1_2, q6_1_3, q6_1_4, q6_1_5, q6_1_6, q6_1_7, q6_1_8, x6_2, q6_2_0, h12, esc_12, h23, esc_23, h13, esc_13, c4, e5, c6, c7, h19, esc_19, w1, w2, c8, t15, esc_15]
                · have h17v := t17 d v hok ⟨by omega, by omega⟩ (by omega)
                  have h17w := t17 d w hok ⟨by omega, by omega⟩ (by omega)
                  simp [encDr, c6] at h17v h17w
                  by_cases c9 : (doP d v).2 = 0
                  · by_cases c10 : (doP d w).2 = 0
                    · obtain ⟨x, p1, p2, p3, p4, p5, p6, p7⟩ := apart_eq (a := (doP d v).1) (b := (doP d w).1) hc (by rw [← c9]) (by rw [← c10]) c4 (by omega) (by omega) (by omega)
                      have k17a := t17 (doP d v).1 w p3.ok ⟨by omega, by omega⟩ (by omega)
                      have k17b := t17 (doP d w).1 v p4.ok ⟨by omega, by omega⟩ (by omega)
                      have k26 := t26r x (by have := p5.len; omega)
                      rw [p1] at k17a
                      rw [p2] at k17b
                      rw [c9] at h17v
                      rw [c10] at h17w
                      simp [encDr] at k17a k17b
                      simp at k26
                      simp [m6, x6_0, q6_0_0, x6_1, q6_1_0, q6_1_1, q6_1_2, q6_1_3, q6_1_4, q6_1_5, q6_1_6, q6_1_7, q6_1_8, x6_3, q6_3_0, q6_3_1, x6_4, q6_4_0, q6_4_1, x6_5, q6_5_0, x6_7, q6_7_0, q6_7_1, x6_8, q6_8_0, q6_8_1, x6_9, q6_9_0, q6_9_1, q6_9_2, h12, esc_12, h23, esc_23, h13, esc_13, c4, e5, c6, c7, h19, esc_19, w1, w2, c8, h17v, h17w, esc_17, k17a, k17b, k26, esc_26, t15, esc_15]
                    · rw [c9] at h17v
                      simp [m6, x6_0, q6_0_0, x6_1, q6_1_0, q6_1_1, q6_1_2, q6_1_3, q6_1_4, q6_1_5, q6_1_6, q6_1_7, q6_1_8, x6_3, q6_3_0, q6_3_1, x6_4, q6_4_0, q6_4_1, x6_5, q6_5_0, x6_6, q6_6_0, h12, esc_12, h23, esc_23, h13, esc_13, c4, e5, c6, c7, h19, esc_19, w1, w2, c8, h17v, h17w, esc_17, c10, t15, esc_15]
                  · simp [m6, x6_0, q6_0_0, x6_1, q6_1_0, q6_1_1, q6_1_2, q6_1_3, q6_1_4, q6_1_5, q6_1_6, q6_1_7, q6_1_8, x6_3, q6_3_0, q6_3_1, x6_4, q6_4_0, q6_4_1, x6_5, q6_5_0, x6_6, q6_6_0, h12, esc_12, h23, esc_23, h13, esc_13, c4, e5, c6, c7, h19, esc_19, w1, w2, c8, h17v, h17w, esc_17, c9, t15, esc_15]
end Go.Mir.D
