import Derived.Test.YtlpfeikoniepiaaRRL20
import Derived.Test.YtlpfeikoniepiaaRRMirSim
set_option linter.all false
namespace Go.Mir.A
attribute [local congr] bind_head
attribute [local simp] gc ofCells bindArgs resD St.get St.set Dat.underL Dat.underLL gc_self fillD elemsD rowsOk_nil rowsOk_cons rowsOk_app rowsOk_tk rowsOk_dp rowsOk_tl underLL_tl underLL_app underLL_tk underLL_dp nn1 nn2 take_rest take_full appD_nil Option.bind_some strip_undef strip1_undef norm_undef noTup_undef safe_undef cells_undef under_undef strip_int strip1_int norm_int noTup_int safe_int cells_int under_int strip_bool strip1_bool norm_bool noTup_bool safe_bool cells_bool under_bool strip_str strip1_str norm_str noTup_str safe_str cells_str under_str strip_agg strip1_agg norm_agg noTup_agg safe_agg cells_agg under_agg strip_tup strip1_tup norm_tup noTup_tup safe_tup cells_tup under_tup strip_slice strip1_slice norm_slice noTup_slice safe_slice cells_slice under_slice strip_nilp strip1_nilp norm_nilp noTup_nilp safe_nilp cells_nilp under_nilp strip_ptr strip1_ptr norm_ptr noTup_ptr safe_ptr cells_ptr under_ptr strip_rptr strip1_rptr norm_rptr noTup_rptr safe_rptr cells_rptr under_rptr strip_fn strip1_fn norm_fn noTup_fn safe_fn cells_fn under_fn strip_nilf strip1_nilf norm_nilf noTup_nilf safe_nilf cells_nilf under_nilf strip_iface strip1_iface norm_iface noTup_iface safe_iface cells_iface under_iface strip_nili strip1_nili norm_nili noTup_nili safe_nili cells_nili under_nili bin_add bin_sub bin_mul bin_quo bin_rem bin_eql bin_neq bin_lss bin_leq bin_gtr bin_geq bin_and bin_or bin_xor bin_andNot bin_shl bin_shr sbin_add sbin_eql sbin_neq sbin_lss sbin_leq sbin_gtr sbin_geq load_ptr load_rptr cellEq_int cellEq_bool cellEq_str cellsEq_nil cellsEq_cons rows_sl rows_str packD_one packD_nil packD_two leave_ret leave_normal leave_exit seqK_normal seqK_exit seqK_ret blockK_normal blockK_exit blockK_ret condK_bool exec_skip exec_exit exec_ret exec_loop exec_seq exec_block exec_cond ev_tmp ev_lit evs_nil evs_cons takeK_some take_tmp take_lit zk_eq keepK_some keepK_none keep_nil keep_cons putD_some putD_none put_eq get_nil get_cons steps_nil steps_cons step_none guardK_t guardK_f guardK_undef step_some pickV_bool eo_pick loadmV_ptr loadmV_rptr eo_loadm eo_load storeV_ptr eo_store storefV_ptr eo_storef clearK_ptr clearK_rptr clearK_none clear_eq nilCheckV_ptr nilCheckV_rptr nilCheckV_fn eo_nilCheck eqsV_agg eo_eqs eqbV_bool eo_eqb unV_neg unV_not eo_un convV_int eo_conv boundK_int bound_none bound_some sliceV_slice eo_slice substrV_str eo_substr fieldAddrV_ptr fieldAddrV_rptr eo_fieldAddr fieldV_agg eo_field indexV_slice eo_index indexArrV_ptr indexArrV_rptr eo_indexArr atV_str eo_at extractV_tup eo_extract extractnV_tup eo_extractn callV_fn eo_call callcV_fn eo_callc callrV_fn eo_callr callR_eq beq_st loadrV_rptr eo_loadr lenV_slice lenV_str eo_len appV_slice eo_append minV_int maxV_int eo_min2 eo_max2 eo_mov_t eo_mov_f eo_alloc eo_box eo_build eo_buildSlice eo_bin eo_mkfn callD_eq callC_eq encPs encP encB encS encR under_encP under_encS under_encR rowsOk_S rowsOk_P rowsOk_R
set_option linter.unusedSimpArgs false
set_option linter.unusedVariables false
set_option maxHeartbeats 1000000
set_option maxRecDepth 4000

/-- the producer that a batch goes on with -/
def baseP (l : List Prod) (b : Batch) : Prod := if (findP l b.pid).2 = true ∧ (findP l b.pid).1.epoch = b.epoch then (findP l b.pid).1 else ⟨b.pid, b.epoch, 0, []⟩
def cutS (l : List Seen) (n : Nat) : List Seen := if n = 3 then l.drop 1 else l
def newP (p : Prod) (b : Batch) (base : Int) : Prod := ⟨p.pid, p.epoch, IntKind.wrap .i64 (b.seq + b.recs.length), cutS (p.seen ++ [⟨b.seq, b.recs.length, base⟩]) p.seen.length⟩
def takeP (l : List Prod) (b : Batch) (base : Int) : List Prod × Int :=
  if base < -1 ∨ 1048576 < base then ([], 2) else
    if (checkP l b).2.2 ≠ 0 then ([], (checkP l b).2.2) else if (checkP l b).2.1 = true then ([], 101) else (setP l (newP (baseP l b) b base), 0)
def encT (t : List Prod × Int) : Dat := .tup [.slice false (t.1.map encP), .int .i64 t.2]
theorem rows_encS (l : List Seen) : ∀ x ∈ l.map encS, x.length = 3 := by
  intro x hx
  obtain ⟨p, _, rfl⟩ := List.mem_map.1 hx
  rfl
theorem mayPs_mem : ∀ {l : List Prod} {a : Int}, mayPs l a = true → ∀ p ∈ l, knownP p = true := by
  intro l
  induction l with
  | nil => intro a _ p hp; cases hp
  | cons x r ih =>
    intro a h p hp
    simp only [mayPs, Bool.and_eq_true] at h
    rcases List.mem_cons.1 hp with rfl | hp
    · exact h.1.2
    · exact ih h.2 p hp
theorem checkP_may {l : List Prod} {b : Batch} (h : (checkP l b).2.2 = 0) : mayPs l 0 = true ∧ mayB b = true := by
  unfold checkP at h
  split at h
  · cases h
  · rename_i h1
    simp only [not_or, Bool.not_eq_false] at h1
    exact h1
theorem knownP_len {p : Prod} (h : knownP p = true) : p.seen.length ≤ 3 := by
  simp only [knownP, Bool.and_eq_true, decide_eq_true_eq] at h
  omega

theorem t12 (l : List Prod) (b : Batch) (base : Int) (hl : okL l) (hb : b.recs.length ≤ 1000) : run tab 12 [encPs l, .agg (encB b), .int .i64 base] [] = some (encT (takeP l b base), []) := by
  have h17 := t17 l b hl hb
  have h20 := t20 l b.pid (by have := hl.1; omega)
  simp [encC] at h17 h20
  rw [run_eq, tab_12]
  by_cases hb1 : base < -1
  · simp [m12, x12_0, q12_0_0, x12_1, q12_1_0, q12_1_1, x12_2, q12_2_0, x12_3, q12_3_0, x12_4, q12_4_0, x12_5, q12_5_0, x12_6, q12_6_0, x12_7, q12_7_0, x12_8, q12_8_0, x12_9, q12_9_0, q12_9_1, x12_10, q12_10_0, q12_10_1, x12_11, q12_11_0, x12_12, q12_12_0, x12_13, q12_13_0, q12_13_1, q12_13_2, q12_13_3, x12_14, q12_14_0, x12_15, q12_15_0, x12_16, q12_16_0, h17, esc_17, hb1, takeP, encT]
  by_cases hb2 : 1048576 < base
  · simp [m12, x12_0, q12_0_0, x12_1, q12_1_0, q12_1_1, x12_2, q12_2_0, x12_3, q12_3_0, x12_4, q12_4_0, x12_5, q12_5_0, x12_6, q12_6_0, x12_7, q12_7_0, x12_8, q12_8_0, x12_9, q12_9_0, q12_9_1, x12_10, q12_10_0, q12_10_1, x12_11, q12_11_0, x12_12, q12_12_0, x12_13, q12_13_0, q12_13_1, q12_13_2, q12_13_3, x12_14, q12_14_0, x12_15, q12_15_0, x12_16, q12_16_0, h17, esc_17, hb1, hb2, takeP, encT]
  by_cases he : ¬ (checkP l b).2.2 = 0
  · simp [m12, x12_0, q12_0_0, x12_1, q12_1_0, q12_1_1, x12_2, q12_2_0, x12_3, q12_3_0, x12_4, q12_4_0, x12_5, q12_5_0, x12_6, q12_6_0, x12_7, q12_7_0, x12_8, q12_8_0, x12_9, q12_9_0, q12_9_1, x12_10, q12_10_0, q12_10_1, x12_11, q12_11_0, x12_12, q12_12_0, x12_13, q12_13_0, q12_13_1, q12_13_2, q12_13_3, x12_14, q12_14_0, x12_15, q12_15_0, x12_16, q12_16_0, h17, esc_17, hb1, hb2, he, takeP, encT]
  have he := Decidable.not_not.1 he
  have he' := eq_true he
  cases hi : (checkP l b).2.1 with
  | true => simp [m12, x12_0, q12_0_0, x12_1, q12_1_0, q12_1_1, x12_2, q12_2_0, x12_3, q12_3_0, x12_4, q12_4_0, x12_5, q12_5_0, x12_6, q12_6_0, x12_7, q12_7_0, x12_8, q12_8_0, x12_9, q12_9_0, q12_9_1, x12_10, q12_10_0, q12_10_1, x12_11, q12_11_0, x12_12, q12_12_0, x12_13, q12_13_0, q12_13_1, q12_13_2, q12_13_3, x12_14, q12_14_0, x12_15, q12_15_0, x12_16, q12_16_0, h17, esc_17, hb1, hb2, he', hi, takeP, encT]
  | false =>
    rcases hf : findP l b.pid with ⟨p, known⟩
    simp [hf] at h20
    have h32 := t32 b
    have hmy := (checkP_may he).1
    simp at h32
    by_cases hg : known = true ∧ p.epoch = b.epoch
    · obtain ⟨rfl, hg⟩ := hg
      have hg' := eq_true hg
      obtain ⟨hp, hpp⟩ := findP_mem hf
      have hps := (hl.2 p hp).1
      have h33 := t33 l (newP p b base) hl.1
      have a1 := appD_ok (esz := 3) (bytes := 24) (xs := p.seen.map encS) (ys := [encS ⟨b.seq, b.recs.length, base⟩]) (by simp; omega) (rows_encS _) (by simp [encS])
      by_cases hn : p.seen.length = 3
      · have hn' : ((p.seen.length : Int) = 3) = True := eq_true (by omega)
        have htk : List.take 3 (List.map encS p.seen) = List.map encS p.seen := List.take_of_length_le (by simp; omega)
        have htk2 : List.take 3 (List.map encS p.seen ++ [[Dat.int .i64 b.seq, Dat.int .i64 b.recs.length, Dat.int .i64 base]]).tail = (List.map encS p.seen ++ [[Dat.int .i64 b.seq, Dat.int .i64 b.recs.length, Dat.int .i64 base]]).tail := List.take_of_length_le (by simp; omega)
        simp [newP, cutS, hn] at h33 a1
        simp [m12, x12_0, q12_0_0, x12_1, q12_1_0, q12_1_1, x12_2, q12_2_0, x12_3, q12_3_0, x12_4, q12_4_0, x12_5, q12_5_0, x12_6, q12_6_0, x12_7, q12_7_0, x12_8, q12_8_0, x12_9, q12_9_0, q12_9_1, x12_10, q12_10_0, q12_10_1, x12_11, q12_11_0, x12_12, q12_12_0, x12_13, q12_13_0, q12_13_1, q12_13_2, q12_13_3, x12_14, q12_14_0, x12_15, q12_15_0, x12_16, q12_16_0, h17, esc_17, hb1, hb2, he', hi, takeP, encT, h20, esc_20, hg', h32, esc_32, hn, htk, htk2, a1, h33, esc_33, baseP, hf, newP, cutS]
      · have hn' : ((p.seen.length : Int) = 3) = False := eq_false (by omega)
        simp [newP, cutS, hn] at h33 a1
        simp [m12, x12_0, q12_0_0, x12_1, q12_1_0, q12_1_1, x12_2, q12_2_0, x12_3, q12_3_0, x12_4, q12_4_0, x12_5, q12_5_0, x12_6, q12_6_0, x12_7, q12_7_0, x12_8, q12_8_0, x12_9, q12_9_0, q12_9_1, x12_10, q12_10_0, q12_10_1, x12_11, q12_11_0, x12_12, q12_12_0, x12_13, q12_13_0, q12_13_1, q12_13_2, q12_13_3, x12_14, q12_14_0, x12_15, q12_15_0, x12_16, q12_16_0, h17, esc_17, hb1, hb2, he', hi, takeP, encT, h20, esc_20, hg', h32, esc_32, hn, hn', a1, h33, esc_33, baseP, hf, newP, cutS]
    · have h33 := t33 l (newP ⟨b.pid, b.epoch, 0, []⟩ b base) hl.1
      have a1 := appD_ok (esz := 3) (bytes := 24) (xs := []) (ys := [encS ⟨b.seq, b.recs.length, base⟩]) (by simp) (by simp) (by simp [encS])
      simp [newP, cutS] at h33 a1
      cases known with
      | false =>
        simp [m12, x12_0, q12_0_0, x12_1, q12_1_0, q12_1_1, x12_2, q12_2_0, x12_3, q12_3_0, x12_4, q12_4_0, x12_5, q12_5_0, x12_6, q12_6_0, x12_7, q12_7_0, x12_8, q12_8_0, x12_9, q12_9_0, q12_9_1, x12_10, q12_10_0, q12_10_1, x12_11, q12_11_0, x12_12, q12_12_0, x12_13, q12_13_0, q12_13_1, q12_13_2, q12_13_3, x12_14, q12_14_0, x12_15, q12_15_0, x12_16, q12_16_0, h17, esc_17, hb1, hb2, he', hi, takeP, encT, h20, esc_20, h32, esc_32, a1, h33, esc_33, baseP, hf, newP, cutS]
      | true =>
        have hg' : ¬ p.epoch = b.epoch := fun h => hg ⟨rfl, h⟩
        simp [m12, x12_0, q12_0_0, x12_1, q12_1_0, q12_1_1, x12_2, q12_2_0, x12_3, q12_3_0, x12_4, q12_4_0, x12_5, q12_5_0, x12_6, q12_6_0, x12_7, q12_7_0, x12_8, q12_8_0, x12_9, q12_9_0, q12_9_1, x12_10, q12_10_0, q12_10_1, x12_11, q12_11_0, x12_12, q12_12_0, x12_13, q12_13_0, q12_13_1, q12_13_2, q12_13_3, x12_14, q12_14_0, x12_15, q12_15_0, x12_16, q12_16_0, h17, esc_17, hb1, hb2, he', hi, takeP, encT, h20, esc_20, hg', h32, esc_32, a1, h33, esc_33, baseP, hf, newP, cutS]
end Go.Mir.A
