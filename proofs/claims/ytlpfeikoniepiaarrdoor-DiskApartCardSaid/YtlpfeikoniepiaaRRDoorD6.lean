/- A new disk, an armed one, one behind a crash; too great ones. -/
import Derived.Test.YtlpfeikoniepiaaRRDoorD5
set_option linter.all false
namespace Go.Mir.D
attribute [local congr] bind_head
attribute [local simp] gc ofCells bindArgs resD St.get St.set Dat.underL Dat.underLL gc_self fillD elemsD rowsOk_nil rowsOk_cons rowsOk_app rowsOk_tk rowsOk_dp rowsOk_tl underLL_tl underLL_app underLL_tk underLL_dp nn1 nn2 take_rest take_full appD_nil Option.bind_some strip_undef strip1_undef norm_undef noTup_undef safe_undef cells_undef under_undef strip_int strip1_int norm_int noTup_int safe_int cells_int under_int strip_bool strip1_bool norm_bool noTup_bool safe_bool cells_bool under_bool strip_str strip1_str norm_str noTup_str safe_str cells_str under_str strip_agg strip1_agg norm_agg noTup_agg safe_agg cells_agg under_agg strip_tup strip1_tup norm_tup noTup_tup safe_tup cells_tup under_tup strip_slice strip1_slice norm_slice noTup_slice safe_slice cells_slice under_slice strip_nilp strip1_nilp norm_nilp noTup_nilp safe_nilp cells_nilp under_nilp strip_ptr strip1_ptr norm_ptr noTup_ptr safe_ptr cells_ptr under_ptr strip_rptr strip1_rptr norm_rptr noTup_rptr safe_rptr cells_rptr under_rptr strip_fn strip1_fn norm_fn noTup_fn safe_fn cells_fn under_fn strip_nilf strip1_nilf norm_nilf noTup_nilf safe_nilf cells_nilf under_nilf strip_iface strip1_iface norm_iface noTup_iface safe_iface cells_iface under_iface strip_nili strip1_nili norm_nili noTup_nili safe_nili cells_nili under_nili bin_add bin_sub bin_mul bin_quo bin_rem bin_eql bin_neq bin_lss bin_leq bin_gtr bin_geq bin_and bin_or bin_xor bin_andNot bin_shl bin_shr sbin_add sbin_eql sbin_neq sbin_lss sbin_leq sbin_gtr sbin_geq load_ptr load_rptr cellEq_int cellEq_bool cellEq_str cellsEq_nil cellsEq_cons rows_sl rows_str packD_one packD_nil packD_two leave_ret leave_normal leave_exit seqK_normal seqK_exit seqK_ret blockK_normal blockK_exit blockK_ret condK_bool exec_skip exec_exit exec_ret exec_loop exec_seq exec_block exec_cond ev_tmp ev_lit evs_nil evs_cons takeK_some take_tmp take_lit zk_eq keepK_some keepK_none keep_nil keep_cons putD_some putD_none put_eq get_nil get_cons steps_nil steps_cons step_none guardK_t guardK_f guardK_undef step_some pickV_bool eo_pick loadmV_ptr loadmV_rptr eo_loadm eo_load storeV_ptr eo_store storefV_ptr eo_storef clearK_ptr clearK_rptr clearK_none clear_eq nilCheckV_ptr nilCheckV_rptr nilCheckV_fn eo_nilCheck eqsV_agg eo_eqs eqbV_bool eo_eqb unV_neg unV_not eo_un convV_int eo_conv boundK_int bound_none bound_some sliceV_slice eo_slice substrV_str eo_substr fieldAddrV_ptr fieldAddrV_rptr eo_fieldAddr fieldV_agg eo_field indexV_slice eo_index indexArrV_ptr indexArrV_rptr eo_indexArr atV_str eo_at extractV_tup eo_extract extractnV_tup eo_extractn callV_fn eo_call callcV_fn eo_callc callrV_fn eo_callr callR_eq beq_st loadrV_rptr eo_loadr lenV_slice lenV_str eo_len appV_slice eo_append minV_int maxV_int eo_min2 eo_max2 eo_mov_t eo_mov_f eo_alloc eo_box eo_build eo_buildSlice eo_bin eo_mkfn callD_eq callC_eq encF encK encWr under_encF under_encWr rowsOk_F rowsOk_Wr eo_nat eo_s2b eo_b2s s2bV_str b2sV_slice natD_idx
set_option linter.unusedSimpArgs false
set_option linter.unusedVariables false
set_option maxHeartbeats 1000000
set_option maxRecDepth 4000
set_option maxHeartbeats 4000000

def newP (n : Int) : DiskD × Int := if n < 0 ∨ 65536 < n then (zeroK, 2) else (⟨[], n, -1, false⟩, 0)
theorem t21 (n : Int) : run tab 21 [.int .i64 n] [] = some (encDr (newP n), []) := by
  rw [run_eq, tab_21]
  by_cases h1 : n < 0
  · simp [m21, x21_0, q21_0_0, x21_1, q21_1_0, x21_2, q21_2_0, x21_3, q21_3_0, h1, newP, encDr, zeroK]
  · by_cases h2 : 65536 < n
    · simp [m21, x21_0, q21_0_0, x21_1, q21_1_0, x21_2, q21_2_0, x21_3, q21_3_0, h1, h2, newP, encDr, zeroK]
    · simp [m21, x21_0, q21_0_0, x21_1, q21_1_0, x21_2, q21_2_0, x21_3, q21_3_0, h1, h2, newP, encDr]
def armP (d : DiskD) (n : Int) : DiskD × Int := if checkP d then ({ d with left := if n < -1 then -1 else n }, 0) else (zeroK, 2)
theorem t24 (d : DiskD) (n : Int) (hd : okD d) : run tab 24 [.agg (encK d), .int .i64 n] [] = some (encDr (armP d n), []) := by
  have h13 := t13 d hd
  rw [run_eq, tab_24]
  cases c1 : checkP d with
  | false =>
    rw [c1] at h13
    simp at h13
    simp [m24, x24_0, q24_0_0, x24_1, q24_1_0, x24_2, q24_2_0, x24_3, q24_3_0, x24_4, q24_4_0, h13, esc_13, armP, c1, encDr, zeroK]
  | true =>
    rw [c1] at h13
    simp at h13
    simp [m24, x24_0, q24_0_0, x24_1, q24_1_0, x24_2, q24_2_0, x24_3, q24_3_0, x24_4, q24_4_0, h13, esc_13, armP, c1, encDr]
theorem t18 (name b : Txt) : run tab 18 [.str name, .str b] [] = some (.agg (encWr ⟨0, name, b, 0⟩), []) := by
  rw [run_eq, tab_18]
  simp [m18, x18_0, q18_0_0, x18_1, q18_1_0]
def greatF (f : FileD) : Bool := decide (131072 < f.b.length) || decide (100 < f.name.length)
def greatK (d : DiskD) : Bool := decide (100 < d.files.length) || d.files.any greatF
theorem t12 (d : DiskD) : run tab 12 [.agg (encK d)] [] = some (.bool (greatK d), []) := by
  rw [run_eq, tab_12]
  by_cases hn : 100 < d.files.length
  · have hn' : (100 : Int) < d.files.length := by omega
    simp [m12, x12_0, q12_0_0, x12_1, q12_1_0, x12_2, q12_2_0, x12_3, q12_3_0, x12_4, q12_4_0, x12_6, q12_6_0, q12_6_1, q12_6_2, x12_7, q12_7_0, x12_5, q12_5_0, x12_8, q12_8_0, hn', greatK, hn]
  have hn' : ¬ (100 : Int) < d.files.length := by omega
  simp [m12, x12_0, q12_0_0, x12_1, q12_1_0, x12_2, q12_2_0, x12_3, q12_3_0, x12_4, q12_4_0, x12_6, q12_6_0, q12_6_1, q12_6_2, x12_7, q12_7_0, x12_5, q12_5_0, x12_8, q12_8_0, hn']
  simp only [Option.bind_assoc]
  refine (loop_cont (fun i => [(1, .ptr 0 0), (3, .int .i64 i)]) (fun _ => [encK d]) d.files.length (fun i => (d.files.take i).any greatF = false) (fun _ => some (Dat.bool (greatK d), ([] : St))) (by simp) (fun hI => ?_) fun i hi hI => ?_)
  · rw [List.take_length] at hI
    have hg : greatK d = false := by simp [greatK, hn, hI]
    simp [l12_0, m12, x12_0, q12_0_0, x12_1, q12_1_0, x12_2, q12_2_0, x12_3, q12_3_0, x12_4, q12_4_0, x12_6, q12_6_0, q12_6_1, q12_6_2, x12_7, q12_7_0, x12_5, q12_5_0, x12_8, q12_8_0, hg]
  · have hw : IntKind.wrap .i64 ((i : Int) + 1) = i + 1 := wrap64 (by omega) (by omega)
    have ht : (d.files.take (i + 1)).any greatF = greatF d.files[i] := by
      rw [List.take_add_one, List.getElem?_eq_getElem hi, List.any_append, hI]
      simp
    have hany : greatF d.files[i] = true → greatK d = true := fun h => by
      simp only [greatK, Bool.or_eq_true, List.any_eq_true]
      exact .inr ⟨_, List.getElem_mem hi, h⟩
    by_cases h1 : 131072 < (d.files[i]).b.length
    · have e1 : (131072 : Int) < (d.files[i]).b.length := by omega
      have hg := hany (by simp [greatF, h1])
      exact .inr (by simp [l12_0, m12, x12_0, q12_0_0, x12_1, q12_1_0, x12_2, q12_2_0, x12_3, q12_3_0, x12_4, q12_4_0, x12_6, q12_6_0, q12_6_1, q12_6_2, x12_7, q12_7_0, x12_5, q12_5_0, x12_8, q12_8_0, hi, e1, hg])
    · have e1 : ¬ (131072 : Int) < (d.files[i]).b.length := by omega
      by_cases h2 : 100 < (d.files[i]).name.length
      · have e2 : (100 : Int) < (d.files[i]).name.length := by omega
        have hg := hany (by simp [greatF, h2])
        exact .inr (by simp [l12_0, m12, x12_0, q12_0_0, x12_1, q12_1_0, x12_2, q12_2_0, x12_3, q12_3_0, x12_4, q12_4_0, x12_6, q12_6_0, q12_6_1, q12_6_2, x12_7, q12_7_0, x12_5, q12_5_0, x12_8, q12_8_0, hi, e1, e2, hg])
      · have e2 : ¬ (100 : Int) < (d.files[i]).name.length := by omega
        refine .inl ⟨by simp [l12_0, m12, x12_0, q12_0_0, x12_1, q12_1_0, x12_2, q12_2_0, x12_3, q12_3_0, x12_4, q12_4_0, x12_6, q12_6_0, q12_6_1, q12_6_2, x12_7, q12_7_0, x12_5, q12_5_0, x12_8, q12_8_0, hi, e1, e2, hw], ?_, rfl⟩
        rw [ht]; simp [greatF, h1, h2]
theorem greatK_not {d : DiskD} (h : greatK d = false) : d.files.length ≤ 100 ∧ (∀ f ∈ d.files, f.b.length ≤ 131072 ∧ f.name.length ≤ 100) ∧ okD d := by
  simp only [greatK, Bool.or_eq_false_iff, decide_eq_false_iff_not, List.any_eq_false, greatF, Bool.or_eq_true, decide_eq_true_eq, not_or, Nat.not_lt] at h
  refine ⟨h.1, fun f hf => h.2 f hf, ⟨by omega, fun f hf => ?_, fun f hf => ?_⟩⟩
  · have := (h.2 f hf).2; omega
  · have := (h.2 f hf).1; omega
def greatW (w : WriteD) : Bool := decide (4096 < w.b.length) || decide (100 < w.file.length)
def greatWs (l : List WriteD) : Bool := decide (100 < l.length) || l.any greatW
theorem t23 (l : List WriteD) (o : Bool) : run tab 23 [.slice o (l.map encWr)] [] = some (.bool (greatWs l), []) := by
  rw [run_eq, tab_23]
  by_cases hn : 100 < l.length
  · have hn' : (100 : Int) < l.length := by omega
    simp [m23, x23_0, q23_0_0, x23_1, q23_1_0, x23_2, q23_2_0, x23_3, q23_3_0, x23_4, q23_4_0, x23_6, q23_6_0, q23_6_1, q23_6_2, x23_7, q23_7_0, x23_5, q23_5_0, x23_8, q23_8_0, hn', greatWs, hn]
  have hn' : ¬ (100 : Int) < l.length := by omega
  simp [m23, x23_0, q23_0_0, x23_1, q23_1_0, x23_2, q23_2_0, x23_3, q23_3_0, x23_4, q23_4_0, x23_6, q23_6_0, q23_6_1, q23_6_2, x23_7, q23_7_0, x23_5, q23_5_0, x23_8, q23_8_0, hn']
  simp only [Option.bind_assoc]
  refine (loop_cont (fun i => [(0, .slice o (l.map encWr)), (3, .int .i64 i)]) (fun _ => []) l.length (fun i => (l.take i).any greatW = false) (fun _ => some (Dat.bool (greatWs l), ([] : St))) (by simp) (fun hI => ?_) fun i hi hI => ?_)
  · rw [List.take_length] at hI
    have hg : greatWs l = false := by simp [greatWs, hn, hI]
    simp [l23_0, m23, x23_0, q23_0_0, x23_1, q23_1_0, x23_2, q23_2_0, x23_3, q23_3_0, x23_4, q23_4_0, x23_6, q23_6_0, q23_6_1, q23_6_2, x23_7, q23_7_0, x23_5, q23_5_0, x23_8, q23_8_0, hg]
  · have hw : IntKind.wrap .i64 ((i : Int) + 1) = i + 1 := wrap64 (by omega) (by omega)
    have ht : (l.take (i + 1)).any greatW = greatW l[i] := by
      rw [List.take_add_one, List.getElem?_eq_getElem hi, List.any_append, hI]
      simp
    have hany : greatW l[i] = true → greatWs l = true := fun h => by
      simp only [greatWs, Bool.or_eq_true, List.any_eq_true]
      exact .inr ⟨_, List.getElem_mem hi, h⟩
    by_cases h1 : 4096 < (l[i]).b.length
    · have e1 : (4096 : Int) < (l[i]).b.length := by omega
      have hg := hany (by simp [greatW, h1])
      exact .inr (by simp [l23_0, m23, x23_0, q23_0_0, x23_1, q23_1_0, x23_2, q23_2_0, x23_3, q23_3_0, x23_4, q23_4_0, x23_6, q23_6_0, q23_6_1, q23_6_2, x23_7, q23_7_0, x23_5, q23_5_0, x23_8, q23_8_0, hi, e1, hg])
    · have e1 : ¬ (4096 : Int) < (l[i]).b.length := by omega
      by_cases h2 : 100 < (l[i]).file.length
      · have e2 : (100 : Int) < (l[i]).file.length := by omega
        have hg := hany (by simp [greatW, h2])
        exact .inr (by simp [l23_0, m23, x23_0, q23_0_0, x23_1, q23_1_0, x23_2, q23_2_0, x23_3, q23_3_0, x23_4, q23_4_0, x23_6, q23_6_0, q23_6_1, q23_6_2, x23_7, q23_7_0, x23_5, q23_5_0, x23_8, q23_8_0, hi, e1, e2, hg])
      · have e2 : ¬ (100 : Int) < (l[i]).file.length := by omega
        refine .inl ⟨by simp [l23_0, m23, x23_0, q23_0_0, x23_1, q23_1_0, x23_2, q23_2_0, x23_3, q23_3_0, x23_4, q23_4_0, x23_6, q23_6_0, q23_6_1, q23_6_2, x23_7, q23_7_0, x23_5, q23_5_0, x23_8, q23_8_0, hi, e1, e2, hw], ?_, rfl⟩
        rw [ht]; simp [greatW, h1, h2]
theorem greatWs_not {l : List WriteD} (h : greatWs l = false) : l.length ≤ 100 ∧ ∀ w ∈ l, w.b.length ≤ 4096 ∧ w.file.length ≤ 100 := by
  simp only [greatWs, Bool.or_eq_false_iff, decide_eq_false_iff_not, List.any_eq_false, greatW, Bool.or_eq_true, decide_eq_true_eq, not_or, Nat.not_lt] at h
  exact ⟨h.1, fun w hw => h.2 w hw⟩
theorem t48r (l : List FileD) (hl : l.length ≤ 1000000) : run tab 48 [.slice false (l.map encF), .slice false (l.map encF)] [] = some (.bool true, []) := by
  rw [run_eq, tab_48]
  simp [m48, x48_0, q48_0_0, x48_1, q48_1_0, x48_2, q48_2_0, x48_3, q48_3_0, x48_4, q48_4_0, x48_5, q48_5_0, x48_6, q48_6_0, q48_6_1, x48_7, q48_7_0, x48_8, q48_8_0, x48_9, q48_9_0]
  simp only [Option.bind_assoc]
  refine (loop_cont (fun i => [(0, .slice false (l.map encF)), (1, .slice false (l.map encF)), (12, .int .i64 l.length), (13, .int .i64 i)]) (fun _ => []) l.length (fun _ => True) (fun _ => some (Dat.bool true, ([] : St))) trivial (fun _ => ?_) fun i hi _ => ?_)
  · simp [l48_0, m48, x48_0, q48_0_0, x48_1, q48_1_0, x48_2, q48_2_0, x48_3, q48_3_0, x48_4, q48_4_0, x48_5, q48_5_0, x48_6, q48_6_0, q48_6_1, x48_7, q48_7_0, x48_8, q48_8_0, x48_9, q48_9_0]
  · have hw : IntKind.wrap .i64 ((i : Int) + 1) = i + 1 := wrap64 (by omega) (by omega)
    exact .inl ⟨by simp [l48_0, m48, x48_0, q48_0_0, x48_1, q48_1_0, x48_2, q48_2_0, x48_3, q48_3_0, x48_4, q48_4_0, x48_5, q48_5_0, x48_6, q48_6_0, q48_6_1, x48_7, q48_7_0, x48_8, q48_8_0, x48_9, q48_9_0, hi, hw], trivial, rfl⟩
theorem t26r (d : DiskD) (hl : d.files.length ≤ 1000000) : run tab 26 [.agg (encK d), .agg (encK d)] [] = some (.bool true, []) := by
  have h48 := t48r d.files hl
  rw [run_eq, tab_26]
  simp [m26, x26_0, q26_0_0, x26_1, q26_1_0, q26_1_1, q26_1_2, q26_1_3, q26_1_4, h48, esc_48]
end Go.Mir.D
