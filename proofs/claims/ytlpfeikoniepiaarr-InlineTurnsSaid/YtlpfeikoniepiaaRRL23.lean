import Derived.Test.YtlpfeikoniepiaaRRL22
import Derived.Test.YtlpfeikoniepiaaRRLA
import Derived.Test.YtlpfeikoniepiaaRRMirSim
set_option linter.all false
namespace Go.Mir.A
attribute [local congr] bind_head
attribute [local simp] gc ofCells bindArgs resD St.get St.set Dat.underL Dat.underLL gc_self fillD elemsD rowsOk_nil rowsOk_cons rowsOk_app rowsOk_tk rowsOk_dp rowsOk_tl underLL_tl underLL_app underLL_tk underLL_dp nn1 nn2 take_rest take_full appD_nil Option.bind_some strip_undef strip1_undef norm_undef noTup_undef safe_undef cells_undef under_undef strip_int strip1_int norm_int noTup_int safe_int cells_int under_int strip_bool strip1_bool norm_bool noTup_bool safe_bool cells_bool under_bool strip_str strip1_str norm_str noTup_str safe_str cells_str under_str strip_agg strip1_agg norm_agg noTup_agg safe_agg cells_agg under_agg strip_tup strip1_tup norm_tup noTup_tup safe_tup cells_tup under_tup strip_slice strip1_slice norm_slice noTup_slice safe_slice cells_slice under_slice strip_nilp strip1_nilp norm_nilp noTup_nilp safe_nilp cells_nilp under_nilp strip_ptr strip1_ptr norm_ptr noTup_ptr safe_ptr cells_ptr under_ptr strip_rptr strip1_rptr norm_rptr noTup_rptr safe_rptr cells_rptr under_rptr strip_fn strip1_fn norm_fn noTup_fn safe_fn cells_fn under_fn strip_nilf strip1_nilf norm_nilf noTup_nilf safe_nilf cells_nilf under_nilf strip_iface strip1_iface norm_iface noTup_iface safe_iface cells_iface under_iface strip_nili strip1_nili norm_nili noTup_nili safe_nili cells_nili under_nili bin_add bin_sub bin_mul bin_quo bin_rem bin_eql bin_neq bin_lss bin_leq bin_gtr bin_geq bin_and bin_or bin_xor bin_andNot bin_shl bin_shr sbin_add sbin_eql sbin_neq sbin_lss sbin_leq sbin_gtr sbin_geq load_ptr load_rptr cellEq_int cellEq_bool cellEq_str cellsEq_nil cellsEq_cons rows_sl rows_str packD_one packD_nil packD_two leave_ret leave_normal leave_exit seqK_normal seqK_exit seqK_ret blockK_normal blockK_exit blockK_ret condK_bool exec_skip exec_exit exec_ret exec_loop exec_seq exec_block exec_cond ev_tmp ev_lit evs_nil evs_cons takeK_some take_tmp take_lit zk_eq keepK_some keepK_none keep_nil keep_cons putD_some putD_none put_eq get_nil get_cons steps_nil steps_cons step_none guardK_t guardK_f guardK_undef step_some pickV_bool eo_pick loadmV_ptr loadmV_rptr eo_loadm eo_load storeV_ptr eo_store storefV_ptr eo_storef clearK_ptr clearK_rptr clearK_none clear_eq nilCheckV_ptr nilCheckV_rptr nilCheckV_fn eo_nilCheck eqsV_agg eo_eqs eqbV_bool eo_eqb unV_neg unV_not eo_un convV_int eo_conv boundK_int bound_none bound_some sliceV_slice eo_slice substrV_str eo_substr fieldAddrV_ptr fieldAddrV_rptr eo_fieldAddr fieldV_agg eo_field indexV_slice eo_index indexArrV_ptr indexArrV_rptr eo_indexArr atV_str eo_at extractV_tup eo_extract extractnV_tup eo_extractn callV_fn eo_call callcV_fn eo_callc callrV_fn eo_callr callR_eq beq_st loadrV_rptr eo_loadr lenV_slice lenV_str eo_len appV_slice eo_append minV_int maxV_int eo_min2 eo_max2 eo_mov_t eo_mov_f eo_alloc eo_box eo_build eo_buildSlice eo_bin eo_mkfn callD_eq callC_eq encPs encP encB encS encR under_encP under_encS under_encR rowsOk_S rowsOk_P rowsOk_R
set_option linter.unusedSimpArgs false
set_option linter.unusedVariables false
set_option maxHeartbeats 1000000
set_option maxRecDepth 4000

theorem sameSeen_refl (l : List Seen) : sameSeen l l = true := by
  induction l with
  | nil => rfl
  | cons s r ih => simp [sameSeen, sameS, ih]
theorem sameP_refl (p : Prod) : sameP p p = true := by simp [sameP, sameSeen_refl]
theorem samePs_refl (l : List Prod) : samePs l l = true := by
  induction l with
  | nil => rfl
  | cons s r ih => simp [samePs, sameP_refl, ih]
theorem setP_len (l : List Prod) (q : Prod) : (setP l q).length ≤ l.length + 1 := by
  have := place_le l q.pid
  unfold setP
  split <;> simp <;> omega
theorem setP_mem {l : List Prod} {q p : Prod} (h : p ∈ setP l q) : p ∈ l ∨ p = q := by
  unfold setP at h
  simp only [List.mem_append, List.mem_singleton] at h
  rcases h with (h | h) | h
  · exact .inl (List.mem_of_mem_take h)
  · exact .inr h
  · exact .inl (List.mem_of_mem_drop h)
theorem cutS_len (l : List Seen) (n : Nat) : (cutS l n).length ≤ l.length := by unfold cutS; split <;> simp
theorem baseP_len {l : List Prod} (hl : okL l) (b : Batch) : (baseP l b).seen.length ≤ 1000 := by
  unfold baseP
  split
  · rename_i h
    rcases hf : findP l b.pid with ⟨p, known⟩
    rw [hf] at h
    obtain rfl : known = true := h.1
    exact (hl.2 p (findP_mem hf).1).1
  · simp
theorem takeP_len {l : List Prod} (hl : okL l) (b : Batch) (base : Int) : (takeP l b base).1.length ≤ 1001 ∧ ∀ p ∈ (takeP l b base).1, p.seen.length ≤ 1001 := by
  unfold takeP
  split
  · simp
  split
  · simp
  split
  · simp
  refine ⟨Nat.le_trans (setP_len _ _) (by have := hl.1; omega), fun p hp => ?_⟩
  rcases setP_mem hp with h | rfl
  · have := (hl.2 p h).1; omega
  · have := baseP_len hl b
    refine Nat.le_trans (cutS_len _ _) ?_
    simp; omega

def e3 (l : List Prod) (base : Int) (i : Nat) : Env := [(0, encPs l), (2, .int .i64 base), (4, .ptr 0 0), (7, .slice true ((l.take i).map encP)), (8, .int .i64 i)]
theorem t3 (l : List Prod) (b : Batch) (base : Int) (h1 : l.length ≤ 9223372036854775807) (h2 : ∀ p ∈ l, rngS p.seen) (h3 : b.recs.length ≤ 9223372036854775807) : run tab 3 [encPs l, .agg (encB b), .int .i64 base] [] = some (.bool true, []) := by
  obtain ⟨g, h9, hg⟩ := t9 l h1
  have h10 := t10 b h3
  simp at h9 h10
  rw [run_eq, tab_3]
  cases g with
  | true => simp [m3, x3_0, q3_0_0, x3_1, q3_1_0, x3_2, q3_2_0, x3_3, q3_3_0, x3_4, q3_4_0, x3_5, q3_5_0, x3_7, q3_7_0, x3_8, q3_8_0, x3_9, q3_9_0, x3_6, q3_6_0, x3_10, q3_10_0, q3_10_1, x3_11, q3_11_0, q3_11_1, x3_12, q3_12_0, q3_12_1, q3_12_2, h9, esc_9, esc_11, t11]
  | false =>
    cases hgb : greatB b with
    | true => rw [hgb] at h10; simp [m3, x3_0, q3_0_0, x3_1, q3_1_0, x3_2, q3_2_0, x3_3, q3_3_0, x3_4, q3_4_0, x3_5, q3_5_0, x3_7, q3_7_0, x3_8, q3_8_0, x3_9, q3_9_0, x3_6, q3_6_0, x3_10, q3_10_0, q3_10_1, x3_11, q3_11_0, q3_11_1, x3_12, q3_12_0, q3_12_1, q3_12_2, h9, esc_9, h10, esc_10, esc_11, t11]
    | false =>
      rw [hgb] at h10
      obtain ⟨g1, g2⟩ := hg rfl
      obtain ⟨g3, g4⟩ := greatB_not hgb
      have hl : okL l := ⟨by omega, fun p hp => by
        obtain ⟨k, hk, rfl⟩ := List.getElem_of_mem hp
        exact ⟨by have := g2 k hk; omega, h2 _ hp⟩⟩
      have h12 := t12 l b base hl (by omega)
      have h13 := t13 l b base hl (by omega)
      obtain ⟨k1, k2⟩ := takeP_len hl b base
      have h14 := t14 (takeP l b base).1 (takeP l b base).1 (by omega) (fun p hp => by have := k2 p hp; omega)
      have h14' := t14 l l (by omega) (fun p hp => by have := (hl.2 p hp).1; omega)
      rw [samePs_refl] at h14 h14'
      simp [encT] at h12 h13 h14 h14'
      simp [m3, x3_0, q3_0_0, x3_1, q3_1_0, x3_2, q3_2_0, x3_3, q3_3_0, x3_4, q3_4_0, x3_5, q3_5_0, x3_7, q3_7_0, x3_8, q3_8_0, x3_9, q3_9_0, x3_6, q3_6_0, x3_10, q3_10_0, q3_10_1, x3_11, q3_11_0, q3_11_1, x3_12, q3_12_0, q3_12_1, q3_12_2, h9, esc_9, h10, esc_10]
      simp only [Option.bind_assoc]
      refine (loop_cont (e3 l base) (fun _ => [encB b]) l.length (fun _ => True) (fun _ => some (Dat.bool true, [])) trivial (fun _ => ?_) fun i hi _ => ?_)
      · simp [l3_0, m3, x3_0, q3_0_0, x3_1, q3_1_0, x3_2, q3_2_0, x3_3, q3_3_0, x3_4, q3_4_0, x3_5, q3_5_0, x3_7, q3_7_0, x3_8, q3_8_0, x3_9, q3_9_0, x3_6, q3_6_0, x3_10, q3_10_0, q3_10_1, x3_11, q3_11_0, q3_11_1, x3_12, q3_12_0, q3_12_1, q3_12_2, e3, h12, h13, esc_12, esc_13, h14, h14', esc_14, esc_11, t11]
      · have hw : IntKind.wrap .i64 ((i : Int) + 1) = i + 1 := wrap64 (by omega) (by omega)
        have hps := (hl.2 _ (List.getElem_mem hi)).1
        have a0 := appD_ok (esz := 3) (bytes := 24) (xs := []) (ys := (l[i]).seen.map encS) (by simp; omega) (by simp) (rows_encS _)
        have a1 := appD_ok (esz := 4) (bytes := 48) (xs := (l.take i).map encP) (ys := [encP l[i]]) (by simp; omega) (rows_encP _) (by simp [encP])
        have ht : List.take i (List.map encP l) ++ [encP l[i]] = List.take (i + 1) (List.map encP l) := by
          rw [List.take_succ_eq_append_getElem (by simpa using hi)]; simp
        simp only [encP] at ht
        simp at a0 a1
        refine .inl ⟨?_, trivial, rfl⟩
        simp [l3_0, m3, x3_0, q3_0_0, x3_1, q3_1_0, x3_2, q3_2_0, x3_3, q3_3_0, x3_4, q3_4_0, x3_5, q3_5_0, x3_7, q3_7_0, x3_8, q3_8_0, x3_9, q3_9_0, x3_6, q3_6_0, x3_10, q3_10_0, q3_10_1, x3_11, q3_11_0, q3_11_1, x3_12, q3_12_0, q3_12_1, q3_12_2, e3, hi, hw, a0, a1, ht]
end Go.Mir.A
