/- DiskLeft. -/
import Derived.Test.YtlpfeikoniepiaaRRDoorD8
set_option linter.all false
namespace Go.Mir.D
attribute [local congr] bind_head
attribute [local simp] gc ofCells bindArgs resD St.get St.set Dat.underL Dat.underLL gc_self fillD elemsD rowsOk_nil rowsOk_cons rowsOk_app rowsOk_tk rowsOk_dp rowsOk_tl underLL_tl underLL_app underLL_tk underLL_dp nn1 nn2 take_rest take_full appD_nil Option.bind_some strip_undef strip1_undef norm_undef noTup_undef safe_undef cells_undef under_undef strip_int strip1_int norm_int noTup_int safe_int cells_int under_int strip_bool strip1_bool norm_bool noTup_bool safe_bool cells_bool under_bool strip_str strip1_str norm_str noTup_str safe_str cells_str under_str strip_agg strip1_agg norm_agg noTup_agg safe_agg cells_agg under_agg strip_tup strip1_tup norm_tup noTup_tup safe_tup cells_tup under_tup strip_slice strip1_slice norm_slice noTup_slice safe_slice cells_slice under_slice strip_nilp strip1_nilp norm_nilp noTup_nilp safe_nilp cells_nilp under_nilp strip_ptr strip1_ptr norm_ptr noTup_ptr safe_ptr cells_ptr under_ptr strip_rptr strip1_rptr norm_rptr noTup_rptr safe_rptr cells_rptr under_rptr strip_fn strip1_fn norm_fn noTup_fn safe_fn cells_fn under_fn strip_nilf strip1_nilf norm_nilf noTup_nilf safe_nilf cells_nilf under_nilf strip_iface strip1_iface norm_iface noTup_iface safe_iface cells_iface under_iface strip_nili strip1_nili norm_nili noTup_nili safe_nili cells_nili under_nili bin_add bin_sub bin_mul bin_quo bin_rem bin_eql bin_neq bin_lss bin_leq bin_gtr bin_geq bin_and bin_or bin_xor bin_andNot bin_shl bin_shr sbin_add sbin_eql sbin_neq sbin_lss sbin_leq sbin_gtr sbin_geq load_ptr load_rptr cellEq_int cellEq_bool cellEq_str cellsEq_nil cellsEq_cons rows_sl rows_str packD_one packD_nil packD_two leave_ret leave_normal leave_exit seqK_normal seqK_exit seqK_ret blockK_normal blockK_exit blockK_ret condK_bool exec_skip exec_exit exec_ret exec_loop exec_seq exec_block exec_cond ev_tmp ev_lit evs_nil evs_cons takeK_some take_tmp take_lit zk_eq keepK_some keepK_none keep_nil keep_cons putD_some putD_none put_eq get_nil get_cons steps_nil steps_cons step_none guardK_t guardK_f guardK_undef step_some pickV_bool eo_pick loadmV_ptr loadmV_rptr eo_loadm eo_load storeV_ptr eo_store storefV_ptr eo_storef clearK_ptr clearK_rptr clearK_none clear_eq nilCheckV_ptr nilCheckV_rptr nilCheckV_fn eo_nilCheck eqsV_agg eo_eqs eqbV_bool eo_eqb unV_neg unV_not eo_un convV_int eo_conv boundK_int bound_none bound_some sliceV_slice eo_slice substrV_str eo_substr fieldAddrV_ptr fieldAddrV_rptr eo_fieldAddr fieldV_agg eo_field indexV_slice eo_index indexArrV_ptr indexArrV_rptr eo_indexArr atV_str eo_at extractV_tup eo_extract extractnV_tup eo_extractn callV_fn eo_call callcV_fn eo_callc callrV_fn eo_callr callR_eq beq_st loadrV_rptr eo_loadr lenV_slice lenV_str eo_len appV_slice eo_append minV_int maxV_int eo_min2 eo_max2 eo_mov_t eo_mov_f eo_alloc eo_box eo_build eo_buildSlice eo_bin eo_mkfn callD_eq callC_eq encF encK encWr under_encF under_encWr rowsOk_F rowsOk_Wr eo_nat eo_s2b eo_b2s s2bV_str b2sV_slice natD_idx
set_option linter.unusedSimpArgs false
set_option linter.unusedVariables false
set_option maxHeartbeats 1000000
set_option maxRecDepth 4000
set_option maxHeartbeats 8000000

theorem act_err (d : DiskD) (w : WriteD) : (actP d w).2 = 0 ∨ (actP d w).2 = 32 ∨ (actP d w).2 = 2 := by
  unfold actP doesP
  split
  · exact .inr (.inl rfl)
  split
  · exact .inr (.inr rfl)
  repeat' split
  all_goals exact .inl rfl
theorem do_cases {d : DiskD} (h : Chk d) (w : WriteD) : (d.down = true ∧ doP d w = (zeroK, 30)) ∨ (d.down = false ∧ d.left = 0 ∧ doP d w = ({ d with down := true }, 30)) ∨ (∃ x, doP d w = (x, 0) ∧ Done d w x) ∨ ((doP d w).2 ≠ 30 ∧ (doP d w).2 ≠ 0 ∧ (doP d w).1 = zeroK) := by
  have hd := doP_chk w h
  by_cases c1 : mayW w = false
  · rw [if_pos c1] at hd
    exact .inr (.inr (.inr (by rw [hd]; exact ⟨by simp, by simp, rfl⟩)))
  rw [if_neg c1] at hd
  by_cases c2 : d.down = true
  · rw [if_pos c2] at hd
    exact .inl ⟨c2, hd⟩
  rw [if_neg c2] at hd
  by_cases c3 : d.left = 0
  · rw [if_pos c3] at hd
    exact .inr (.inl ⟨by simpa using c2, c3, hd⟩)
  rw [if_neg c3] at hd
  rcases act_err d w with ha | ha | ha
  · rw [if_neg (by rw [ha]; simp)] at hd
    unfold endP at hd
    split at hd
    · exact .inr (.inr (.inr (by rw [hd]; exact ⟨by simp, by simp, rfl⟩)))
    split at hd
    · exact .inr (.inr (.inr (by rw [hd]; exact ⟨by simp, by simp, rfl⟩)))
    · exact .inr (.inr (.inl ⟨_, hd, do_done h hd⟩))
  · rw [if_pos (by rw [ha]; simp), ha] at hd
    exact .inr (.inr (.inr (by rw [hd]; exact ⟨by simp, by simp, rfl⟩)))
  · rw [if_pos (by rw [ha]; simp), ha] at hd
    exact .inr (.inr (.inr (by rw [hd]; exact ⟨by simp, by simp, rfl⟩)))
/-- an armed disk on its way -/
structure Armed (n : Int) (d : DiskD) (done : Int) : Prop where
  chk : Chk d
  pos : 0 ≤ done ∧ done ≤ n
  down : d.down = true → done = n
  left : d.down = false → d.left = n - done
  rng : 0 ≤ d.left ∧ d.left ≤ 50
abbrev S5 := Nat × DiskD × Int
def e5 (l : List WriteD) (n : Int) (a : S5) : Env := [(1, .int .i64 n), (5, .ptr 0 0), (8, .int .i64 a.2.2), (38, .slice false (l.map encWr)), (39, .int .i64 l.length), (40, .int .i64 a.1)]
theorem mod50 (n : Int) : 0 ≤ (n.tmod 50 + 50).tmod 50 ∧ (n.tmod 50 + 50).tmod 50 < 50 ∧ IntKind.wrap .i64 (n.tmod 50 + 50) = n.tmod 50 + 50 := by
  have b1 := Int.tmod_lt_of_pos n (show (0 : Int) < 50 by omega)
  have b2 : -(50 : Int) < n.tmod 50 := by
    have := Int.tmod_lt_of_pos (-n) (show (0 : Int) < 50 by omega)
    rw [Int.neg_tmod] at this
    omega
  refine ⟨Int.tmod_nonneg _ (by omega), Int.tmod_lt_of_pos _ (by omega), wrap64 (by omega) (by omega)⟩
def tail5 : MCode := .seq r5_24 (.seq r5_25 .ret)
theorem t5 (l : List WriteD) (n : Int) (hl : l.length ≤ 9223372036854775807) : run tab 5 [.slice false (l.map encWr), .int .i64 n] [] = some (.bool true, []) := by
  have h23 := t23 l false
  have h21 := t21 65536
  have hz : okD (⟨[], 65536, -1, false⟩ : DiskD) := ⟨by simp, by simp, by simp⟩
  obtain ⟨m1, m2, m3⟩ := mod50 n
  have h24 := t24 ⟨[], 65536, -1, false⟩ ((n.tmod 50 + 50).tmod 50) hz
  have hck : checkP (⟨[], 65536, -1, false⟩ : DiskD) = true := by decide
  generalize hk : (n.tmod 50 + 50).tmod 50 = k at m1 m2 h24
  have hk1 : ¬ k < -1 := by omega
  simp [newP, encDr] at h21
  simp [armP, hck, hk1, encDr] at h24
  rw [run_eq, tab_5]
  cases c1 : greatWs l with
  | true =>
    rw [c1] at h23
    simp [m5, x5_0, q5_0_0, x5_1, q5_1_0, x5_2, q5_2_0, h23, esc_23, t15, esc_15]
  | false =>
    obtain ⟨g1, g2⟩ := greatWs_not c1
    rw [c1] at h23
    have h500 : ((50 : Int) = 0) = False := by simp
    simp [m5, x5_0, q5_0_0, x5_1, q5_1_0, x5_3, q5_3_0, x5_4, q5_4_0, q5_4_1, x5_5, q5_5_0, q5_5_1, x5_6, q5_6_0, x5_8, q5_8_0, x5_9, q5_9_0, h23, esc_23, m3, hk, h21, esc_21, h24, esc_24]
    simp only [Option.bind_assoc]
    refine loop_st (α := S5) (e5 l k) (fun a => [encK a.2.1]) (fun a => l.length - a.1) (fun a => a.1 ≤ l.length ∧ Armed k a.2.1 a.2.2) (fun _ => some (Dat.bool true, ([] : St))) (fun a ha => ?_) (0, ⟨[], 65536, k, false⟩, 0) ⟨Nat.zero_le _, ⟨checkP_iff.1 (by simp [checkP, checkL, usedP]), ⟨by simp, by simpa using m1⟩, by simp, by simp, ⟨by simpa using m1, by simp only; omega⟩⟩⟩
    obtain ⟨i, d, done⟩ := a
    obtain ⟨hi, har⟩ := ha
    simp only at hi har
    have hc := har.chk
    by_cases hlt : i < l.length
    · have hx := g2 _ (List.getElem_mem hlt)
      have h17 := t17 d l[i] hc.ok ⟨by omega, by omega⟩ (by have := har.rng; omega)
      have hw : IntKind.wrap .i64 ((i : Int) + 1) = i + 1 := wrap64 (by omega) (by omega)
      have hp := har.pos
      rcases do_cases hc l[i] with ⟨c2, hd⟩ | ⟨c2, c3, hd⟩ | ⟨x, hd, hdn⟩ | ⟨e1, e2, e3⟩
      · have hdone := har.down c2
        rw [hd] at h17
        simp [encDr, zeroK, c2] at h17
        refine .inl ⟨(i + 1, d, done), ?_, ⟨by simp only; omega, har⟩, by simp only; omega, rfl⟩
        simp [l5_0, m5, x5_0, q5_0_0, x5_1, q5_1_0, x5_2, q5_2_0, x5_3, q5_3_0, x5_4, q5_4_0, q5_4_1, x5_5, q5_5_0, q5_5_1, x5_6, q5_6_0, x5_7, q5_7_0, x5_8, q5_8_0, x5_9, q5_9_0, x5_10, q5_10_0, x5_11, q5_11_0, x5_12, q5_12_0, q5_12_1, x5_13, q5_13_0, x5_14, q5_14_0, q5_14_1, q5_14_2, x5_15, q5_15_0, x5_16, q5_16_0, x5_17, q5_17_0, x5_18, q5_18_0, x5_19, q5_19_0, q5_19_1, x5_20, q5_20_0, x5_21, q5_21_0, x5_22, q5_22_0, x5_23, q5_23_0, x5_24, q5_24_0, q5_24_1, x5_25, q5_25_0, q5_25_1, q5_25_2, q5_25_3, q5_25_4, e5, hlt, hw, h17, esc_17, c2, hdone]
      · have hdone : done = k := by have := har.left c2; omega
        rw [hd] at h17
        simp [encDr, c2, c3] at h17
        refine .inl ⟨(i + 1, { d with down := true }, done), ?_, ⟨by simp only; omega, ⟨⟨hc.files, hc.len, hc.cap, hc.used⟩, hp, fun _ => hdone, fun h => by simp at h, har.rng⟩⟩, by simp only; omega, rfl⟩
        simp [l5_0, m5, x5_0, q5_0_0, x5_1, q5_1_0, x5_2, q5_2_0, x5_3, q5_3_0, x5_4, q5_4_0, q5_4_1, x5_5, q5_5_0, q5_5_1, x5_6, q5_6_0, x5_7, q5_7_0, x5_8, q5_8_0, x5_9, q5_9_0, x5_10, q5_10_0, x5_11, q5_11_0, x5_12, q5_12_0, q5_12_1, x5_13, q5_13_0, x5_14, q5_14_0, q5_14_1, q5_14_2, x5_15, q5_15_0, x5_16, q5_16_0, x5_17, q5_17_0, x5_18, q5_18_0, x5_19, q5_19_0, q5_19_1, x5_20, q5_20_0, x5_21, q5_21_0, x5_22, q5_22_0, x5_23, q5_23_0, x5_24, q5_24_0, q5_24_1, x5_25, q5_25_0, q5_25_1, q5_25_2, q5_25_3, q5_25_4, e5, hlt, hw, h17, esc_17, c2, c3, hdone]
      · have hleft := har.left hdn.down.1
        have hrng := har.rng
        have hl0 := hdn.left
        have hw2 : IntKind.wrap .i64 (done + 1) = done + 1 := wrap64 (by omega) (by omega)
        have e1 : ¬ k ≤ done := by omega
        rw [if_pos (by omega)] at hl0
        rw [hd] at h17
        simp [encDr, hdn.down.1] at h17
        refine .inl ⟨(i + 1, x, done + 1), ?_, ⟨by simp only; omega, ⟨hdn.chk, ⟨by simp only; omega, by simp only; omega⟩, (fun h => by rw [hdn.down.2] at h; cases h), (fun _ => by simp only; omega), ⟨by simp only; omega, by simp only; omega⟩⟩⟩, by simp only; omega, rfl⟩
        simp [l5_0, m5, x5_0, q5_0_0, x5_1, q5_1_0, x5_2, q5_2_0, x5_3, q5_3_0, x5_4, q5_4_0, q5_4_1, x5_5, q5_5_0, q5_5_1, x5_6, q5_6_0, x5_7, q5_7_0, x5_8, q5_8_0, x5_9, q5_9_0, x5_10, q5_10_0, x5_11, q5_11_0, x5_12, q5_12_0, q5_12_1, x5_13, q5_13_0, x5_14, q5_14_0, q5_14_1, q5_14_2, x5_15, q5_15_0, x5_16, q5_16_0, x5_17, q5_17_0, x5_18, q5_18_0, x5_19, q5_19_0, q5_19_1, x5_20, q5_20_0, x5_21, q5_21_0, x5_22, q5_22_0, x5_23, q5_23_0, x5_24, q5_24_0, q5_24_1, x5_25, q5_25_0, q5_25_1, q5_25_2, q5_25_3, q5_25_4, e5, hlt, hw, h17, esc_17, hdn.down.1, hw2, e1]
      · simp [encDr, e3, zeroK] at h17
        refine .inl ⟨(i + 1, d, done), ?_, ⟨by simp only; omega, har⟩, by simp only; omega, rfl⟩
        simp [l5_0, m5, x5_0, q5_0_0, x5_1, q5_1_0, x5_2, q5_2_0, x5_3, q5_3_0, x5_4, q5_4_0, q5_4_1, x5_5, q5_5_0, q5_5_1, x5_6, q5_6_0, x5_7, q5_7_0, x5_8, q5_8_0, x5_9, q5_9_0, x5_10, q5_10_0, x5_11, q5_11_0, x5_12, q5_12_0, q5_12_1, x5_13, q5_13_0, x5_14, q5_14_0, q5_14_1, q5_14_2, x5_15, q5_15_0, x5_16, q5_16_0, x5_17, q5_17_0, x5_18, q5_18_0, x5_19, q5_19_0, q5_19_1, x5_20, q5_20_0, x5_21, q5_21_0, x5_22, q5_22_0, x5_23, q5_23_0, x5_24, q5_24_0, q5_24_1, x5_25, q5_25_0, q5_25_1, q5_25_2, q5_25_3, q5_25_4, e5, hlt, hw, h17, esc_17, e1, e2]
    · obtain rfl : i = l.length := by omega
      have h25 := t25 d [] false hc.ok
      have hp := har.pos
      have hcr : crashP d [] = (⟨crashL d.files [], d.cap, -1, false⟩, 0) := by unfold crashP; rw [checkP_iff.2 hc]; rfl
      rw [hcr] at h25
      simp [encDr] at h25
      refine .inr ?_
      cases c2 : d.down with
      | true =>
        rw [c2] at h25
        simp [l5_0, m5, x5_0, q5_0_0, x5_1, q5_1_0, x5_2, q5_2_0, x5_3, q5_3_0, x5_4, q5_4_0, q5_4_1, x5_5, q5_5_0, q5_5_1, x5_6, q5_6_0, x5_7, q5_7_0, x5_8, q5_8_0, x5_9, q5_9_0, x5_10, q5_10_0, x5_11, q5_11_0, x5_12, q5_12_0, q5_12_1, x5_13, q5_13_0, x5_14, q5_14_0, q5_14_1, q5_14_2, x5_15, q5_15_0, x5_16, q5_16_0, x5_17, q5_17_0, x5_18, q5_18_0, x5_19, q5_19_0, q5_19_1, x5_20, q5_20_0, x5_21, q5_21_0, x5_22, q5_22_0, x5_23, q5_23_0, x5_24, q5_24_0, q5_24_1, x5_25, q5_25_0, q5_25_1, q5_25_2, q5_25_3, q5_25_4, e5, h25, esc_25, c2, t15, esc_15]
      | false =>
        have hleft := har.left c2
        have hw3 : IntKind.wrap .i64 (k - done) = k - done := wrap64 (by omega) (by omega)
        rw [c2, hleft] at h25
        simp [l5_0, m5, x5_0, q5_0_0, x5_1, q5_1_0, x5_2, q5_2_0, x5_3, q5_3_0, x5_4, q5_4_0, q5_4_1, x5_5, q5_5_0, q5_5_1, x5_6, q5_6_0, x5_7, q5_7_0, x5_8, q5_8_0, x5_9, q5_9_0, x5_10, q5_10_0, x5_11, q5_11_0, x5_12, q5_12_0, q5_12_1, x5_13, q5_13_0, x5_14, q5_14_0, q5_14_1, q5_14_2, x5_15, q5_15_0, x5_16, q5_16_0, x5_17, q5_17_0, x5_18, q5_18_0, x5_19, q5_19_0, q5_19_1, x5_20, q5_20_0, x5_21, q5_21_0, x5_22, q5_22_0, x5_23, q5_23_0, x5_24, q5_24_0, q5_24_1, x5_25, q5_25_0, q5_25_1, q5_25_2, q5_25_3, q5_25_4, e5, h25, esc_25, c2, hleft, hw3, t15, esc_15]
end Go.Mir.D
