import Derived.Test.YtlpfeikoniepiaaRRJA
import Derived.Test.YtlpfeikoniepiaaRRPA
set_option linter.all false
namespace Go.Mir.A
attribute [local congr] bind_head
attribute [local simp] encW encO encPt encE under_encB under_encW under_encO under_encE rowsOk_B rowsOk_W rowsOk_O rowsOk_E gc ofCells bindArgs resD St.get St.set Dat.underL Dat.underLL gc_self fillD elemsD rowsOk_nil rowsOk_cons rowsOk_app rowsOk_tk rowsOk_dp rowsOk_tl underLL_tl underLL_app underLL_tk underLL_dp nn1 nn2 take_rest take_full appD_nil Option.bind_some strip_undef strip1_undef norm_undef noTup_undef safe_undef cells_undef under_undef strip_int strip1_int norm_int noTup_int safe_int cells_int under_int strip_bool strip1_bool norm_bool noTup_bool safe_bool cells_bool under_bool strip_str strip1_str norm_str noTup_str safe_str cells_str under_str strip_agg strip1_agg norm_agg noTup_agg safe_agg cells_agg under_agg strip_tup strip1_tup norm_tup noTup_tup safe_tup cells_tup under_tup strip_slice strip1_slice norm_slice noTup_slice safe_slice cells_slice under_slice strip_nilp strip1_nilp norm_nilp noTup_nilp safe_nilp cells_nilp under_nilp strip_ptr strip1_ptr norm_ptr noTup_ptr safe_ptr cells_ptr under_ptr strip_rptr strip1_rptr norm_rptr noTup_rptr safe_rptr cells_rptr under_rptr strip_fn strip1_fn norm_fn noTup_fn safe_fn cells_fn under_fn strip_nilf strip1_nilf norm_nilf noTup_nilf safe_nilf cells_nilf under_nilf strip_iface strip1_iface norm_iface noTup_iface safe_iface cells_iface under_iface strip_nili strip1_nili norm_nili noTup_nili safe_nili cells_nili under_nili bin_add bin_sub bin_mul bin_quo bin_rem bin_eql bin_neq bin_lss bin_leq bin_gtr bin_geq bin_and bin_or bin_xor bin_andNot bin_shl bin_shr sbin_add sbin_eql sbin_neq sbin_lss sbin_leq sbin_gtr sbin_geq load_ptr load_rptr cellEq_int cellEq_bool cellEq_str cellsEq_nil cellsEq_cons rows_sl rows_str packD_one packD_nil packD_two leave_ret leave_normal leave_exit seqK_normal seqK_exit seqK_ret blockK_normal blockK_exit blockK_ret condK_bool exec_skip exec_exit exec_ret exec_loop exec_seq exec_block exec_cond ev_tmp ev_lit evs_nil evs_cons takeK_some take_tmp take_lit zk_eq keepK_some keepK_none keep_nil keep_cons putD_some putD_none put_eq get_nil get_cons steps_nil steps_cons step_none guardK_t guardK_f guardK_undef step_some pickV_bool eo_pick loadmV_ptr loadmV_rptr eo_loadm eo_load storeV_ptr eo_store storefV_ptr eo_storef clearK_ptr clearK_rptr clearK_none clear_eq nilCheckV_ptr nilCheckV_rptr nilCheckV_fn eo_nilCheck eqsV_agg eo_eqs eqbV_bool eo_eqb unV_neg unV_not eo_un convV_int eo_conv boundK_int bound_none bound_some sliceV_slice eo_slice substrV_str eo_substr fieldAddrV_ptr fieldAddrV_rptr eo_fieldAddr fieldV_agg eo_field indexV_slice eo_index indexArrV_ptr indexArrV_rptr eo_indexArr atV_str eo_at extractV_tup eo_extract extractnV_tup eo_extractn callV_fn eo_call callcV_fn eo_callc callrV_fn eo_callr callR_eq beq_st loadrV_rptr eo_loadr lenV_slice lenV_str eo_len appV_slice eo_append minV_int maxV_int eo_min2 eo_max2 eo_mov_t eo_mov_f eo_alloc eo_box eo_build eo_buildSlice eo_bin eo_mkfn callD_eq callC_eq encPs encP encB encS encR under_encP under_encS under_encR rowsOk_S rowsOk_P rowsOk_R
set_option linter.unusedSimpArgs false
set_option linter.unusedVariables false
set_option maxHeartbeats 1000000
set_option maxRecDepth 4000
set_option maxHeartbeats 4000000

def e8 (i : Nat) : Env := [(3, .ptr 0 0), (7, .ptr 1 0), (11, .int .i64 i)]
theorem good_small {p : Part} (h : Good p) : p.rows.length ≤ 1048576 ∧ p.prods.length ≤ 1000 ∧ p.opn.length ≤ 1000 ∧ (∀ x ∈ p.prods, x.seen.length ≤ 3) ∧ (∀ o ∈ p.opn, o.bats.length ≤ 8 ∧ ∀ b ∈ o.bats, mayB b = true) := by
  have h1 := good_ok h
  have h2 := h1.opn
  have h3 := h1.prods.1
  have h4 := h.fin
  have h5 := h.nrows
  exact ⟨by omega, by omega, by omega, fun x hx => knownP_len (mayPs_mem h.prods x hx), h1.bats⟩
theorem good_49 {p : Part} (h : Good p) : run tab 49 [.agg (encPt p)] [] = some (.bool true, []) := by
  obtain ⟨h1, h2, h3, h4, h5⟩ := good_small h
  exact t49 p h.opn.1 (fun o ho => ⟨by have := (h5 o ho).1; omega, (h5 o ho).2⟩) (fun r hr => good_row_ok (h.rows r hr) h.fin.2) h.prods (by omega) (by omega) (by omega)
theorem good_29 {p : Part} (h : Good p) : run tab 29 [.agg (encPt p)] [] = some (.tup [.slice false ((logP p).map encE), .int .i64 0], []) := by
  obtain ⟨h1, h2, h3, h4, h5⟩ := good_small h
  exact t29 p (good_49 h) (by omega) h2 (fun x hx => by have := h4 x hx; omega) h3 (fun o ho => (h5 o ho).1)
theorem aheadP_len {p : Part} (h : Good p) {x : Prod} (hx : x ∈ p.prods) : (aheadP p x).seen.length ≤ 3 := knownP_len (ahead_known h hx)
theorem logP_len {p : Part} (h : Good p) : (logP p).length ≤ 1100000 ∧ (∀ x ∈ logP p, x.b.recs.length ≤ 4) ∧ ∀ x ∈ logP p, x.prod.seen.length ≤ 3 := by
  obtain ⟨h1, h2, h3, h4, h5⟩ := good_small h
  have h6 := openEs_len (l := p.opn) fun o ho => (h5 o ho).1
  have hm : ∀ x ∈ logP p, (∃ r, x = rowE r) ∨ (∃ y ∈ p.prods, x = stateE p y) ∨ ∃ b, mayB b = true ∧ x = dataE b := fun x hx => by
    simp only [logP, openEs, List.mem_append, List.mem_map, List.mem_flatMap] at hx
    rcases hx with ⟨r, -, rfl⟩ | ⟨y, hy, rfl⟩ | ⟨o, ho, b, hb, rfl⟩
    · exact .inl ⟨r, rfl⟩
    · exact .inr (.inl ⟨y, hy, rfl⟩)
    · exact .inr (.inr ⟨b, (h5 o ho).2 b hb, rfl⟩)
  refine ⟨?_, fun x hx => ?_, fun x hx => ?_⟩
  · simp only [logP, List.length_append, List.length_map]; omega
  · rcases hm x hx with ⟨r, rfl⟩ | ⟨y, hy, rfl⟩ | ⟨b, hb, rfl⟩
    · simp [rowE, zeroE, zeroB]
    · simp [stateE, zeroE, zeroB]
    · have := mayB_get hb
      simp only [dataE]; omega
  · rcases hm x hx with ⟨r, rfl⟩ | ⟨y, hy, rfl⟩ | ⟨b, hb, rfl⟩
    · simp [rowE, zeroE, zeroP]
    · exact aheadP_len h hy
    · simp [dataE, zeroE, zeroP]
theorem t8 (l : List Entry) (h1 : l.length ≤ 9223372036854775807) (h2 : ∀ x ∈ l, x.b.recs.length ≤ 9223372036854775807) : run tab 8 [.slice false (l.map encE)] [] = some (.bool true, []) := by
  have h23 := t23 l h2
  rw [run_eq, tab_8]
  by_cases hn : 200 < l.length
  · have hn' : (200 : Int) < l.length := by omega
    simp [m8, x8_0, q8_0_0, x8_1, q8_1_0, q8_1_1, x8_2, q8_2_0, x8_3, q8_3_0, q8_3_1, x8_4, q8_4_0, x8_5, q8_5_0, x8_6, q8_6_0, q8_6_1, x8_7, q8_7_0, q8_7_1, x8_8, q8_8_0, q8_8_1, x8_9, q8_9_0, q8_9_1, q8_9_2, q8_9_3, q8_9_4, q8_9_5, q8_9_6, q8_9_7, q8_9_8, x8_10, q8_10_0, x8_11, q8_11_0, x8_12, q8_12_0, x8_14, q8_14_0, q8_14_1, x8_15, q8_15_0, x8_16, q8_16_0, q8_16_1, x8_17, q8_17_0, x8_13, q8_13_0, x8_18, q8_18_0, hn', esc_24, t24]
  have hn' : ¬ (200 : Int) < l.length := by omega
  cases hg : greatAll l with
  | true =>
    rw [hg] at h23
    simp [m8, x8_0, q8_0_0, x8_1, q8_1_0, q8_1_1, x8_2, q8_2_0, x8_3, q8_3_0, q8_3_1, x8_4, q8_4_0, x8_5, q8_5_0, x8_6, q8_6_0, q8_6_1, x8_7, q8_7_0, q8_7_1, x8_8, q8_8_0, q8_8_1, x8_9, q8_9_0, q8_9_1, q8_9_2, q8_9_3, q8_9_4, q8_9_5, q8_9_6, q8_9_7, q8_9_8, x8_10, q8_10_0, x8_11, q8_11_0, x8_12, q8_12_0, x8_14, q8_14_0, q8_14_1, x8_15, q8_15_0, x8_16, q8_16_0, q8_16_1, x8_17, q8_17_0, x8_13, q8_13_0, x8_18, q8_18_0, hn', h23, esc_23, esc_24, t24]
  | false =>
    rw [hg] at h23
    obtain ⟨g1, g2⟩ := greatAll_not hg
    have h25 := t25 l (by omega) (fun x hx => by have := (g2 x hx).1; omega) (fun x hx => by have := (g2 x hx).2; omega)
    cases hf : foldP l zeroPt with
    | none =>
      rw [hf] at h25
      simp [resP, zeroPt] at h23 h25
      simp [m8, x8_0, q8_0_0, x8_1, q8_1_0, q8_1_1, x8_2, q8_2_0, x8_3, q8_3_0, q8_3_1, x8_4, q8_4_0, x8_5, q8_5_0, x8_6, q8_6_0, q8_6_1, x8_7, q8_7_0, q8_7_1, x8_8, q8_8_0, q8_8_1, x8_9, q8_9_0, q8_9_1, q8_9_2, q8_9_3, q8_9_4, q8_9_5, q8_9_6, q8_9_7, q8_9_8, x8_10, q8_10_0, x8_11, q8_11_0, x8_12, q8_12_0, x8_14, q8_14_0, q8_14_1, x8_15, q8_15_0, x8_16, q8_16_0, q8_16_1, x8_17, q8_17_0, x8_13, q8_13_0, x8_18, q8_18_0, hn', h23, esc_23, h25, esc_25, esc_24, t24]
    | some p =>
      rw [hf] at h25
      have hp := foldP_good good_zero hf
      obtain ⟨hb, hq⟩ := log_back hp
      obtain ⟨k1, k2, k3, k4, k5⟩ := good_small hp
      obtain ⟨m1, m2, m3⟩ := logP_len hp
      have f1 := good_29 hp
      have f2 := good_29 hq
      rw [log_same] at f2
      have f3 := t25g (logP p) Good good_zero (fun _ _ _ _ h e => good_next h e) (fun _ h => good_ok h) (by omega) (fun x hx => by have := m2 x hx; omega) (fun x hx => by have := m3 x hx; omega)
      rw [hb] at f3
      have f30 := t30r p.opn (by omega) (fun o ho => ⟨(k5 o ho).1, fun b hb => by have := mayB_get ((k5 o ho).2 b hb); omega⟩)
      have f14 := t14 p.prods p.prods (by omega) (fun x hx => by have := k4 x hx; omega)
      rw [samePs_refl] at f14
      have f31 := t31r (logP p) (by omega) (fun x hx => by have := m2 x hx; omega) (fun x hx => by have := m3 x hx; omega)
      have hl : (numbered p.rows).length = p.rows.length := by simp [numbered]
      have hqr : (backP p).rows = numbered p.rows := rfl
      generalize hL : logP p = L at *
      generalize hR : numbered p.rows = R at *
      simp [resP, backP, hR] at h23 h25 f1 f2 f3 f30 f14 f31
      simp [m8, x8_0, q8_0_0, x8_1, q8_1_0, q8_1_1, x8_2, q8_2_0, x8_3, q8_3_0, q8_3_1, x8_4, q8_4_0, x8_5, q8_5_0, x8_6, q8_6_0, q8_6_1, x8_7, q8_7_0, q8_7_1, x8_8, q8_8_0, q8_8_1, x8_9, q8_9_0, q8_9_1, q8_9_2, q8_9_3, q8_9_4, q8_9_5, q8_9_6, q8_9_7, q8_9_8, x8_10, q8_10_0, x8_11, q8_11_0, x8_12, q8_12_0, x8_14, q8_14_0, q8_14_1, x8_15, q8_15_0, x8_16, q8_16_0, q8_16_1, x8_17, q8_17_0, x8_13, q8_13_0, x8_18, q8_18_0, hn', h23, esc_23, h25, esc_25, f1, f2, f3, f30, f14, f31, esc_29, esc_30, esc_14, esc_31, hl]
      simp only [Option.bind_assoc]
      refine loop_cont e8 (fun _ => [encPt ⟨0, p.rows.length, R, p.opn, p.prods⟩, encPt p]) R.length (fun _ => True) (fun _ => some (Dat.bool true, ([] : St))) trivial (fun _ => ?_) fun i hi _ => ?_
      · simp [l8_0, m8, x8_0, q8_0_0, x8_1, q8_1_0, q8_1_1, x8_2, q8_2_0, x8_3, q8_3_0, q8_3_1, x8_4, q8_4_0, x8_5, q8_5_0, x8_6, q8_6_0, q8_6_1, x8_7, q8_7_0, q8_7_1, x8_8, q8_8_0, q8_8_1, x8_9, q8_9_0, q8_9_1, q8_9_2, q8_9_3, q8_9_4, q8_9_5, q8_9_6, q8_9_7, q8_9_8, x8_10, q8_10_0, x8_11, q8_11_0, x8_12, q8_12_0, x8_14, q8_14_0, q8_14_1, x8_15, q8_15_0, x8_16, q8_16_0, q8_16_1, x8_17, q8_17_0, x8_13, q8_13_0, x8_18, q8_18_0, e8, esc_24, t24]
      · have hi2 : i < p.rows.length := by omega
        have hw : IntKind.wrap .i64 ((i : Int) + 1) = i + 1 := wrap64 (by omega) (by omega)
        have hRi : R[i] = { p.rows[i] with off := (i : Int) } := by subst hR; simp [numbered]
        refine .inl ⟨?_, trivial, rfl⟩
        simp [l8_0, m8, x8_0, q8_0_0, x8_1, q8_1_0, q8_1_1, x8_2, q8_2_0, x8_3, q8_3_0, q8_3_1, x8_4, q8_4_0, x8_5, q8_5_0, x8_6, q8_6_0, q8_6_1, x8_7, q8_7_0, q8_7_1, x8_8, q8_8_0, q8_8_1, x8_9, q8_9_0, q8_9_1, q8_9_2, q8_9_3, q8_9_4, q8_9_5, q8_9_6, q8_9_7, q8_9_8, x8_10, q8_10_0, x8_11, q8_11_0, x8_12, q8_12_0, x8_14, q8_14_0, q8_14_1, x8_15, q8_15_0, x8_16, q8_16_0, q8_16_1, x8_17, q8_17_0, x8_13, q8_13_0, x8_18, q8_18_0, e8, hi, hi2, hw, hRi]
end Go.Mir.A
