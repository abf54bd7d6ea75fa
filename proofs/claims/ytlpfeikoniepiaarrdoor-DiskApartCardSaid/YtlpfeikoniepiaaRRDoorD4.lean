/- A file behind an operation. -/
import Derived.Test.YtlpfeikoniepiaaRRDoorD3
set_option linter.all false
namespace Go.Mir.D
attribute [local congr] bind_head
attribute [local simp] gc ofCells bindArgs resD St.get St.set Dat.underL Dat.underLL gc_self fillD elemsD rowsOk_nil rowsOk_cons rowsOk_app rowsOk_tk rowsOk_dp rowsOk_tl underLL_tl underLL_app underLL_tk underLL_dp nn1 nn2 take_rest take_full appD_nil Option.bind_some strip_undef strip1_undef norm_undef noTup_undef safe_undef cells_undef under_undef strip_int strip1_int norm_int noTup_int safe_int cells_int under_int strip_bool strip1_bool norm_bool noTup_bool safe_bool cells_bool under_bool strip_str strip1_str norm_str noTup_str safe_str cells_str under_str strip_agg strip1_agg norm_agg noTup_agg safe_agg cells_agg under_agg strip_tup strip1_tup norm_tup noTup_tup safe_tup cells_tup under_tup strip_slice strip1_slice norm_slice noTup_slice safe_slice cells_slice under_slice strip_nilp strip1_nilp norm_nilp noTup_nilp safe_nilp cells_nilp under_nilp strip_ptr strip1_ptr norm_ptr noTup_ptr safe_ptr cells_ptr under_ptr strip_rptr strip1_rptr norm_rptr noTup_rptr safe_rptr cells_rptr under_rptr strip_fn strip1_fn norm_fn noTup_fn safe_fn cells_fn under_fn strip_nilf strip1_nilf norm_nilf noTup_nilf safe_nilf cells_nilf under_nilf strip_iface strip1_iface norm_iface noTup_iface safe_iface cells_iface under_iface strip_nili strip1_nili norm_nili noTup_nili safe_nili cells_nili under_nili bin_add bin_sub bin_mul bin_quo bin_rem bin_eql bin_neq bin_lss bin_leq bin_gtr bin_geq bin_and bin_or bin_xor bin_andNot bin_shl bin_shr sbin_add sbin_eql sbin_neq sbin_lss sbin_leq sbin_gtr sbin_geq load_ptr load_rptr cellEq_int cellEq_bool cellEq_str cellsEq_nil cellsEq_cons rows_sl rows_str packD_one packD_nil packD_two leave_ret leave_normal leave_exit seqK_normal seqK_exit seqK_ret blockK_normal blockK_exit blockK_ret condK_bool exec_skip exec_exit exec_ret exec_loop exec_seq exec_block exec_cond ev_tmp ev_lit evs_nil evs_cons takeK_some take_tmp take_lit zk_eq keepK_some keepK_none keep_nil keep_cons putD_some putD_none put_eq get_nil get_cons steps_nil steps_cons step_none guardK_t guardK_f guardK_undef step_some pickV_bool eo_pick loadmV_ptr loadmV_rptr eo_loadm eo_load storeV_ptr eo_store storefV_ptr eo_storef clearK_ptr clearK_rptr clearK_none clear_eq nilCheckV_ptr nilCheckV_rptr nilCheckV_fn eo_nilCheck eqsV_agg eo_eqs eqbV_bool eo_eqb unV_neg unV_not eo_un convV_int eo_conv boundK_int bound_none bound_some sliceV_slice eo_slice substrV_str eo_substr fieldAddrV_ptr fieldAddrV_rptr eo_fieldAddr fieldV_agg eo_field indexV_slice eo_index indexArrV_ptr indexArrV_rptr eo_indexArr atV_str eo_at extractV_tup eo_extract extractnV_tup eo_extractn callV_fn eo_call callcV_fn eo_callc callrV_fn eo_callr callR_eq beq_st loadrV_rptr eo_loadr lenV_slice lenV_str eo_len appV_slice eo_append minV_int maxV_int eo_min2 eo_max2 eo_mov_t eo_mov_f eo_alloc eo_box eo_build eo_buildSlice eo_bin eo_mkfn callD_eq callC_eq encF encK encWr under_encF under_encWr rowsOk_F rowsOk_Wr eo_nat eo_s2b eo_b2s s2bV_str b2sV_slice natD_idx
set_option linter.unusedSimpArgs false
set_option linter.unusedVariables false
set_option maxHeartbeats 1000000
set_option maxRecDepth 4000
set_option maxHeartbeats 4000000

def cuts (w : WriteD) : Prop := w.op = 3 ∨ w.op = 1 ∨ w.op = 4
instance (w : WriteD) : Decidable (cuts w) := inferInstanceAs (Decidable (_ ∨ _ ∨ _))
def doesP (f : FileD) (is : Bool) (w : WriteD) : FileD × Int :=
  if cuts w ∧ is = false then (f, 32)
  else if cuts w ∧ (f.b.length : Int) < w.n then (f, 2)
  else if w.op = 0 then ({ f with b := f.b ++ w.b }, 0)
  else if w.op = 4 then ({ f with b := [], sure := 0 }, 0)
  else if w.op = 3 then ({ f with b := f.b.take w.n.toNat, sure := w.n }, 0)
  else if w.op = 1 then ({ f with sure := f.b.length }, 0)
  else ({ f with b := w.b, sure := w.b.length }, 0)
theorem mayW_get {w : WriteD} (h : mayW w = true) : nameP w.file = true ∧ ((w.op = 0 ∧ w.b ≠ [] ∧ w.n = 0) ∨ (w.op = 2 ∧ w.b ≠ [] ∧ w.n = 0) ∨ (w.op = 3 ∧ w.b = [] ∧ 0 ≤ w.n) ∨ (w.op = 1 ∧ w.b = [] ∧ w.n = 0) ∨ (w.op = 4 ∧ w.b = [] ∧ w.n = 0)) := by
  unfold mayW at h
  rw [Bool.and_eq_true] at h
  refine ⟨h.1, ?_⟩
  have h2 := h.2
  split at h2
  · rename_i ho
    simp only [Bool.and_eq_true, Bool.not_eq_true', decide_eq_false_iff_not, decide_eq_true_eq] at h2
    rcases ho with ho | ho
    · exact .inl ⟨ho, h2⟩
    · exact .inr (.inl ⟨ho, h2⟩)
  · split at h2
    · rename_i ho
      simp only [Bool.and_eq_true, decide_eq_true_eq] at h2
      exact .inr (.inr (.inl ⟨ho, h2⟩))
    · split at h2
      · rename_i ho
        simp only [Bool.and_eq_true, decide_eq_true_eq] at h2
        rcases ho with ho | ho
        · exact .inr (.inr (.inr (.inl ⟨ho, h2⟩)))
        · exact .inr (.inr (.inr (.inr ⟨ho, h2⟩)))
      · cases h2
def encDo (x : FileD × Int) : Dat := .tup [.agg (encF x.1), .int .i64 x.2]
theorem t47 (f : FileD) (is : Bool) (w : WriteD) (id : Nat) (σ : St) (hm : mayW w = true) (hf : f.b.length ≤ 1000000000) (hw : w.b.length ≤ 1000000000) (h : St.get σ id = some (encWr w)) (hid : id < σ.length) :
    run tab 47 [.agg (encF f), .bool is, .ptr id 0] σ = some (encDo (doesP f is w), σ) := by
  obtain ⟨hn, hc⟩ := mayW_get hm
  simp only [encWr] at h
  have i1 : (id == σ.length) = false := by simp; omega
  have i2 : (id == σ.length + 1) = false := by simp; omega
  have i3 : (σ.length == σ.length + 1) = false := by simp
  have i4 : (id = σ.length) = False := eq_false (by omega)
  rw [run_eq, tab_47]
  rcases hc with ⟨ho, hb, h0⟩ | ⟨ho, hb, h0⟩ | ⟨ho, hb, h0⟩ | ⟨ho, hb, h0⟩ | ⟨ho, hb, h0⟩
  · have hlen : (f.b.length + w.b.length ≤ 9223372036854775807) = True := eq_true (by omega)
    simp [m47, x47_0, q47_0_0, x47_1, q47_1_0, x47_2, q47_2_0, x47_3, q47_3_0, x47_4, q47_4_0, x47_5, q47_5_0, x47_6, q47_6_0, x47_7, q47_7_0, q47_7_1, x47_8, q47_8_0, x47_9, q47_9_0, x47_10, q47_10_0, x47_11, q47_11_0, x47_12, q47_12_0, x47_13, q47_13_0, x47_14, q47_14_0, x47_15, q47_15_0, q47_15_1, x47_16, q47_16_0, x47_17, q47_17_0, x47_18, q47_18_0, q47_18_1, x47_19, q47_19_0, x47_20, q47_20_0, q47_20_1, q47_20_2, x47_21, q47_21_0, h, gc_self, ho, h0, i1, i2, i3, i4, doesP, cuts, encDo, hlen]
  · simp [m47, x47_0, q47_0_0, x47_1, q47_1_0, x47_2, q47_2_0, x47_3, q47_3_0, x47_4, q47_4_0, x47_5, q47_5_0, x47_6, q47_6_0, x47_7, q47_7_0, q47_7_1, x47_8, q47_8_0, x47_9, q47_9_0, x47_10, q47_10_0, x47_11, q47_11_0, x47_12, q47_12_0, x47_13, q47_13_0, x47_14, q47_14_0, x47_15, q47_15_0, q47_15_1, x47_16, q47_16_0, x47_17, q47_17_0, x47_18, q47_18_0, q47_18_1, x47_19, q47_19_0, x47_20, q47_20_0, q47_20_1, q47_20_2, x47_21, q47_21_0, h, gc_self, ho, h0, i1, i2, i3, i4, doesP, cuts, encDo]
  · cases is with
    | false => simp [m47, x47_0, q47_0_0, x47_1, q47_1_0, x47_2, q47_2_0, x47_3, q47_3_0, x47_4, q47_4_0, x47_5, q47_5_0, x47_6, q47_6_0, x47_7, q47_7_0, q47_7_1, x47_8, q47_8_0, x47_9, q47_9_0, x47_10, q47_10_0, x47_11, q47_11_0, x47_12, q47_12_0, x47_13, q47_13_0, x47_14, q47_14_0, x47_15, q47_15_0, q47_15_1, x47_16, q47_16_0, x47_17, q47_17_0, x47_18, q47_18_0, q47_18_1, x47_19, q47_19_0, x47_20, q47_20_0, q47_20_1, q47_20_2, x47_21, q47_21_0, h, gc_self, ho, i1, i2, i3, i4, doesP, cuts, encDo]
    | true =>
      by_cases hlt : (f.b.length : Int) < w.n
      · simp [m47, x47_0, q47_0_0, x47_1, q47_1_0, x47_2, q47_2_0, x47_3, q47_3_0, x47_4, q47_4_0, x47_5, q47_5_0, x47_6, q47_6_0, x47_7, q47_7_0, q47_7_1, x47_8, q47_8_0, x47_9, q47_9_0, x47_10, q47_10_0, x47_11, q47_11_0, x47_12, q47_12_0, x47_13, q47_13_0, x47_14, q47_14_0, x47_15, q47_15_0, q47_15_1, x47_16, q47_16_0, x47_17, q47_17_0, x47_18, q47_18_0, q47_18_1, x47_19, q47_19_0, x47_20, q47_20_0, q47_20_1, q47_20_2, x47_21, q47_21_0, h, gc_self, ho, hlt, i1, i2, i3, i4, doesP, cuts, encDo]
      · have e1 : (w.n.toNat ≤ f.b.length) = True := eq_true (by omega)
        have e2 : ((min w.n.toNat f.b.length : Nat) : Int) = w.n := by omega
        have e3 : max w.n 0 = w.n := by omega
        simp [m47, x47_0, q47_0_0, x47_1, q47_1_0, x47_2, q47_2_0, x47_3, q47_3_0, x47_4, q47_4_0, x47_5, q47_5_0, x47_6, q47_6_0, x47_7, q47_7_0, q47_7_1, x47_8, q47_8_0, x47_9, q47_9_0, x47_10, q47_10_0, x47_11, q47_11_0, x47_12, q47_12_0, x47_13, q47_13_0, x47_14, q47_14_0, x47_15, q47_15_0, q47_15_1, x47_16, q47_16_0, x47_17, q47_17_0, x47_18, q47_18_0, q47_18_1, x47_19, q47_19_0, x47_20, q47_20_0, q47_20_1, q47_20_2, x47_21, q47_21_0, h, gc_self, ho, hlt, h0, i1, i2, i3, i4, doesP, cuts, encDo, e1, e2, e3]
  · cases is with
    | false => simp [m47, x47_0, q47_0_0, x47_1, q47_1_0, x47_2, q47_2_0, x47_3, q47_3_0, x47_4, q47_4_0, x47_5, q47_5_0, x47_6, q47_6_0, x47_7, q47_7_0, q47_7_1, x47_8, q47_8_0, x47_9, q47_9_0, x47_10, q47_10_0, x47_11, q47_11_0, x47_12, q47_12_0, x47_13, q47_13_0, x47_14, q47_14_0, x47_15, q47_15_0, q47_15_1, x47_16, q47_16_0, x47_17, q47_17_0, x47_18, q47_18_0, q47_18_1, x47_19, q47_19_0, x47_20, q47_20_0, q47_20_1, q47_20_2, x47_21, q47_21_0, h, gc_self, ho, i1, i2, i3, i4, doesP, cuts, encDo]
    | true =>
      have hlt : ¬ (f.b.length : Int) < 0 := by omega
      simp [m47, x47_0, q47_0_0, x47_1, q47_1_0, x47_2, q47_2_0, x47_3, q47_3_0, x47_4, q47_4_0, x47_5, q47_5_0, x47_6, q47_6_0, x47_7, q47_7_0, q47_7_1, x47_8, q47_8_0, x47_9, q47_9_0, x47_10, q47_10_0, x47_11, q47_11_0, x47_12, q47_12_0, x47_13, q47_13_0, x47_14, q47_14_0, x47_15, q47_15_0, q47_15_1, x47_16, q47_16_0, x47_17, q47_17_0, x47_18, q47_18_0, q47_18_1, x47_19, q47_19_0, x47_20, q47_20_0, q47_20_1, q47_20_2, x47_21, q47_21_0, h, gc_self, ho, h0, i1, i2, i3, i4, doesP, cuts, encDo, hlt]
  · cases is with
    | false => simp [m47, x47_0, q47_0_0, x47_1, q47_1_0, x47_2, q47_2_0, x47_3, q47_3_0, x47_4, q47_4_0, x47_5, q47_5_0, x47_6, q47_6_0, x47_7, q47_7_0, q47_7_1, x47_8, q47_8_0, x47_9, q47_9_0, x47_10, q47_10_0, x47_11, q47_11_0, x47_12, q47_12_0, x47_13, q47_13_0, x47_14, q47_14_0, x47_15, q47_15_0, q47_15_1, x47_16, q47_16_0, x47_17, q47_17_0, x47_18, q47_18_0, q47_18_1, x47_19, q47_19_0, x47_20, q47_20_0, q47_20_1, q47_20_2, x47_21, q47_21_0, h, gc_self, ho, i1, i2, i3, i4, doesP, cuts, encDo]
    | true =>
      have hlt : ¬ (f.b.length : Int) < 0 := by omega
      simp [m47, x47_0, q47_0_0, x47_1, q47_1_0, x47_2, q47_2_0, x47_3, q47_3_0, x47_4, q47_4_0, x47_5, q47_5_0, x47_6, q47_6_0, x47_7, q47_7_0, q47_7_1, x47_8, q47_8_0, x47_9, q47_9_0, x47_10, q47_10_0, x47_11, q47_11_0, x47_12, q47_12_0, x47_13, q47_13_0, x47_14, q47_14_0, x47_15, q47_15_0, q47_15_1, x47_16, q47_16_0, x47_17, q47_17_0, x47_18, q47_18_0, q47_18_1, x47_19, q47_19_0, x47_20, q47_20_0, q47_20_1, q47_20_2, x47_21, q47_21_0, h, gc_self, ho, h0, i1, i2, i3, i4, doesP, cuts, encDo, hlt]
end Go.Mir.D
