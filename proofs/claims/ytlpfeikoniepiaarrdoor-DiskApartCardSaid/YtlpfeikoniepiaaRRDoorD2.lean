/- How much a disk has, whether it may be. -/
import Derived.Test.YtlpfeikoniepiaaRRDoorD1
set_option linter.all false
namespace Go.Mir.D
attribute [local congr] bind_head
attribute [local simp] gc ofCells bindArgs resD St.get St.set Dat.underL Dat.underLL gc_self fillD elemsD rowsOk_nil rowsOk_cons rowsOk_app rowsOk_tk rowsOk_dp rowsOk_tl underLL_tl underLL_app underLL_tk underLL_dp nn1 nn2 take_rest take_full appD_nil Option.bind_some strip_undef strip1_undef norm_undef noTup_undef safe_undef cells_undef under_undef strip_int strip1_int norm_int noTup_int safe_int cells_int under_int strip_bool strip1_bool norm_bool noTup_bool safe_bool cells_bool under_bool strip_str strip1_str norm_str noTup_str safe_str cells_str under_str strip_agg strip1_agg norm_agg noTup_agg safe_agg cells_agg under_agg strip_tup strip1_tup norm_tup noTup_tup safe_tup cells_tup under_tup strip_slice strip1_slice norm_slice noTup_slice safe_slice cells_slice under_slice strip_nilp strip1_nilp norm_nilp noTup_nilp safe_nilp cells_nilp under_nilp strip_ptr strip1_ptr norm_ptr noTup_ptr safe_ptr cells_ptr under_ptr strip_rptr strip1_rptr norm_rptr noTup_rptr safe_rptr cells_rptr under_rptr strip_fn strip1_fn norm_fn noTup_fn safe_fn cells_fn under_fn strip_nilf strip1_nilf norm_nilf noTup_nilf safe_nilf cells_nilf under_nilf strip_iface strip1_iface norm_iface noTup_iface safe_iface cells_iface under_iface strip_nili strip1_nili norm_nili noTup_nili safe_nili cells_nili under_nili bin_add bin_sub bin_mul bin_quo bin_rem bin_eql bin_neq bin_lss bin_leq bin_gtr bin_geq bin_and bin_or bin_xor bin_andNot bin_shl bin_shr sbin_add sbin_eql sbin_neq sbin_lss sbin_leq sbin_gtr sbin_geq load_ptr load_rptr cellEq_int cellEq_bool cellEq_str cellsEq_nil cellsEq_cons rows_sl rows_str packD_one packD_nil packD_two leave_ret leave_normal leave_exit seqK_normal seqK_exit seqK_ret blockK_normal blockK_exit blockK_ret condK_bool exec_skip exec_exit exec_ret exec_loop exec_seq exec_block exec_cond ev_tmp ev_lit evs_nil evs_cons takeK_some take_tmp take_lit zk_eq keepK_some keepK_none keep_nil keep_cons putD_some putD_none put_eq get_nil get_cons steps_nil steps_cons step_none guardK_t guardK_f guardK_undef step_some pickV_bool eo_pick loadmV_ptr loadmV_rptr eo_loadm eo_load storeV_ptr eo_store storefV_ptr eo_storef clearK_ptr clearK_rptr clearK_none clear_eq nilCheckV_ptr nilCheckV_rptr nilCheckV_fn eo_nilCheck eqsV_agg eo_eqs eqbV_bool eo_eqb unV_neg unV_not eo_un convV_int eo_conv boundK_int bound_none bound_some sliceV_slice eo_slice substrV_str eo_substr fieldAddrV_ptr fieldAddrV_rptr eo_fieldAddr fieldV_agg eo_field indexV_slice eo_index indexArrV_ptr indexArrV_rptr eo_indexArr atV_str eo_at extractV_tup eo_extract extractnV_tup eo_extractn callV_fn eo_call callcV_fn eo_callc callrV_fn eo_callr callR_eq beq_st loadrV_rptr eo_loadr lenV_slice lenV_str eo_len appV_slice eo_append minV_int maxV_int eo_min2 eo_max2 eo_mov_t eo_mov_f eo_alloc eo_box eo_build eo_buildSlice eo_bin eo_mkfn callD_eq callC_eq encF encK encWr under_encF under_encWr rowsOk_F rowsOk_Wr eo_nat eo_s2b eo_b2s s2bV_str b2sV_slice natD_idx
set_option linter.unusedSimpArgs false
set_option linter.unusedVariables false
set_option maxHeartbeats 1000000
set_option maxRecDepth 4000
set_option maxHeartbeats 4000000

theorem less_irrefl : ∀ a : Txt, less a a = false
  | [] => rfl
  | c :: r => by simp [less, less_irrefl r]
theorem less_total : ∀ a b : Txt, (less a b || decide (a = b)) = !less b a
  | [], [] => rfl
  | [], c :: r => by simp [less]
  | c :: r, [] => by simp [less]
  | c :: r, d :: s => by
    simp only [less, List.cons.injEq]
    have ih := less_total r s
    by_cases h : c = d
    · subst h
      simpa using ih
    · by_cases h1 : c < d
      · have h2 : ¬ d < c := by intro h3; exact absurd (UInt8.lt_trans h1 h3) (UInt8.lt_irrefl _)
        simp [h1, h2, Ne.symm h]
      · have h2 : d < c := by
          rcases UInt8.lt_or_lt_of_ne h with h3 | h3
          · exact absurd h3 h1
          · exact h3
        simp [h, h1, h2]
theorem less_trans : ∀ {a b c : Txt}, less a b = true → less b c = true → less a c = true
  | a, [], c, h1, h2 => by cases a <;> simp [less] at h1
  | a, b :: r, [], h1, h2 => by simp [less] at h2
  | [], b :: r, c :: s, h1, h2 => by simp [less]
  | x :: a, b :: r, c :: s, h1, h2 => by
    simp only [less, Bool.or_eq_true, Bool.and_eq_true, decide_eq_true_eq] at h1 h2 ⊢
    rcases h1 with h1 | ⟨rfl, h1⟩
    · rcases h2 with h2 | ⟨rfl, h2⟩
      · exact .inl (UInt8.lt_trans h1 h2)
      · exact .inl h1
    · rcases h2 with h2 | ⟨rfl, h2⟩
      · exact .inl h2
      · exact .inr ⟨rfl, less_trans h1 h2⟩
theorem less_ne {a b : Txt} (h : less a b = true) : a ≠ b := by rintro rfl; rw [less_irrefl] at h; cases h
theorem less_asymm {a b : Txt} (h : less a b = true) : less b a = false := by
  cases h2 : less b a with
  | false => rfl
  | true => have := less_trans h h2; rw [less_irrefl] at this; cases this

def usedP (l : List FileD) : Nat := (l.map fun f => f.b.length).sum
theorem usedP_take (l : List FileD) (i : Nat) (h : i < l.length) : usedP (l.take (i + 1)) = usedP (l.take i) + (l[i]).b.length := by
  unfold usedP
  rw [List.take_add_one, List.getElem?_eq_getElem h, Option.toList_some, List.map_append, List.sum_append, List.map_cons, List.map_nil, List.sum_cons, List.sum_nil]
  omega
theorem usedP_le {l : List FileD} {m : Nat} (h : ∀ f ∈ l, f.b.length ≤ m) : usedP l ≤ l.length * m := by
  induction l with
  | nil => simp [usedP]
  | cons f r ih =>
    have h1 := h f (by simp)
    have h2 := ih fun x hx => h x (by simp [hx])
    unfold usedP at h2 ⊢
    simp only [List.map_cons, List.sum_cons, List.length_cons, Nat.add_mul]
    omega
theorem usedP_sub (l : List FileD) (i : Nat) : usedP (l.take i) ≤ usedP l := by
  unfold usedP
  conv => rhs; rw [← List.take_append_drop i l, List.map_append, List.sum_append]
  omega
structure okD (d : DiskD) : Prop where
  len : d.files.length ≤ 1000
  name : ∀ f ∈ d.files, f.name.length ≤ 1000
  b : ∀ f ∈ d.files, f.b.length ≤ 1000000
theorem okD.used {d : DiskD} (h : okD d) : usedP d.files ≤ 1000000000 := by
  have h1 := usedP_le h.b
  have h2 := h.len
  have : d.files.length * 1000000 ≤ 1000 * 1000000 := Nat.mul_le_mul_right _ h2
  omega
theorem t19' (d : DiskD) (hl : d.files.length ≤ 1000000) (hu : usedP d.files ≤ 1000000000000000) : run tab 19 [.agg (encK d)] [] = some (.int .i64 (usedP d.files), []) := by
  rw [run_eq, tab_19]
  simp [m19, x19_0, q19_0_0, x19_1, q19_1_0, x19_2, q19_2_0, x19_3, q19_3_0, x19_4, q19_4_0, q19_4_1, x19_5, q19_5_0, x19_6, q19_6_0]
  simp only [Option.bind_assoc]
  refine (loop_cont (fun i => [(1, .ptr 0 0), (2, .int .i64 (usedP (d.files.take i))), (6, .int .i64 d.files.length), (7, .int .i64 i)]) (fun _ => [encK d]) d.files.length (fun _ => True) (fun _ => some (Dat.int .i64 (usedP d.files), ([] : St))) trivial (fun _ => ?_) fun i hi _ => ?_)
  · simp [l19_0, m19, x19_0, q19_0_0, x19_1, q19_1_0, x19_2, q19_2_0, x19_3, q19_3_0, x19_4, q19_4_0, q19_4_1, x19_5, q19_5_0, x19_6, q19_6_0]
  · have hw : IntKind.wrap .i64 ((i : Int) + 1) = i + 1 := wrap64 (by omega) (by omega)
    have ht := usedP_take d.files i hi
    have hs := usedP_sub d.files (i + 1)
    have hw2 : IntKind.wrap .i64 ((usedP (d.files.take i) : Int) + (d.files[i]).b.length) = (usedP (d.files.take (i + 1)) : Int) := by
      rw [wrap64 (by omega) (by omega)]; omega
    refine .inl ⟨?_, trivial, rfl⟩
    simp [l19_0, m19, x19_0, q19_0_0, x19_1, q19_1_0, x19_2, q19_2_0, x19_3, q19_3_0, x19_4, q19_4_0, q19_4_1, x19_5, q19_5_0, x19_6, q19_6_0, hi, hw, hw2]
theorem t19 (d : DiskD) (hd : okD d) : run tab 19 [.agg (encK d)] [] = some (.int .i64 (usedP d.files), []) := t19' d (by have := hd.len; omega) (by have := hd.used; omega)
def goodF (f : FileD) : Bool := !decide (f.b = []) && (decide (0 ≤ f.sure) && decide (f.sure ≤ f.b.length))
def checkL : List FileD → Txt → Bool
  | [], _ => true
  | f :: r, last => (nameP f.name && (less last f.name && goodF f)) && checkL r f.name
def checkP (d : DiskD) : Bool := checkL d.files [] && (decide (d.files.length ≤ 64) && (decide (0 ≤ d.cap) && (decide (d.cap ≤ 65536) && decide ((usedP d.files : Int) ≤ d.cap))))
def lastF (l : List FileD) : Nat → Txt
  | 0 => []
  | i + 1 => match l[i]? with
    | some f => f.name
    | none => []
theorem checkL_drop (l : List FileD) (i : Nat) (hi : i < l.length) : checkL (l.drop i) (lastF l i) = ((nameP (l[i]).name && (less (lastF l i) (l[i]).name && goodF l[i])) && checkL (l.drop (i + 1)) (lastF l (i + 1))) := by
  rw [List.drop_eq_getElem_cons hi, checkL]
  simp [lastF, hi]
def e13 (d : DiskD) (i : Nat) : Env := [(1, .ptr 0 0), (3, .str (lastF d.files i)), (7, .slice false (d.files.map encF)), (8, .int .i64 d.files.length), (9, .int .i64 i)]
theorem t13 (d : DiskD) (hd : okD d) : run tab 13 [.agg (encK d)] [] = some (.int .i64 (if checkP d then 0 else 2), []) := by
  have h19 := t19 d hd
  simp only [encK] at h19
  rw [run_eq, tab_13]
  simp [m13, x13_0, q13_0_0, x13_1, q13_1_0, x13_2, q13_2_0, x13_3, q13_3_0, x13_4, q13_4_0, x13_5, q13_5_0, q13_5_1, q13_5_2, q13_5_3, q13_5_4, x13_6, q13_6_0, x13_7, q13_7_0, x13_8, q13_8_0, x13_9, q13_9_0, q13_9_1, q13_9_2, q13_9_3, x13_10, q13_10_0, x13_11, q13_11_0]
  simp only [Option.bind_assoc]
  refine (loop_cont (e13 d) (fun _ => [encK d]) d.files.length (fun i => checkL d.files [] = checkL (d.files.drop i) (lastF d.files i)) (fun _ => some (Dat.int .i64 (if checkP d then 0 else 2), ([] : St))) (by simp [lastF]) (fun hI => ?_) fun i hi hI => ?_)
  · rw [List.drop_length] at hI
    simp only [checkL] at hI
    by_cases h1 : d.files.length ≤ 64
    · have e1 : ¬ (64 : Int) < d.files.length := by omega
      by_cases h2 : 0 ≤ d.cap
      · have e2 : ¬ d.cap < 0 := by omega
        by_cases h3 : d.cap ≤ 65536
        · have e3 : ¬ 65536 < d.cap := by omega
          by_cases h4 : (usedP d.files : Int) ≤ d.cap
          · have e4 : ¬ d.cap < (usedP d.files : Int) := by omega
            simp [l13_0, m13, x13_0, q13_0_0, x13_1, q13_1_0, x13_2, q13_2_0, x13_3, q13_3_0, x13_4, q13_4_0, x13_5, q13_5_0, q13_5_1, q13_5_2, q13_5_3, q13_5_4, x13_6, q13_6_0, x13_7, q13_7_0, x13_8, q13_8_0, x13_9, q13_9_0, q13_9_1, q13_9_2, q13_9_3, x13_10, q13_10_0, x13_11, q13_11_0, e13, checkP, hI, h1, h2, h3, h4, e1, e2, e3, e4, h19, esc_19]
          · have e4 : d.cap < (usedP d.files : Int) := by omega
            simp [l13_0, m13, x13_0, q13_0_0, x13_1, q13_1_0, x13_2, q13_2_0, x13_3, q13_3_0, x13_4, q13_4_0, x13_5, q13_5_0, q13_5_1, q13_5_2, q13_5_3, q13_5_4, x13_6, q13_6_0, x13_7, q13_7_0, x13_8, q13_8_0, x13_9, q13_9_0, q13_9_1, q13_9_2, q13_9_3, x13_10, q13_10_0, x13_11, q13_11_0, e13, checkP, hI, h1, h2, h3, h4, e1, e2, e3, e4, h19, esc_19]
        · have e3 : 65536 < d.cap := by omega
          simp [l13_0, m13, x13_0, q13_0_0, x13_1, q13_1_0, x13_2, q13_2_0, x13_3, q13_3_0, x13_4, q13_4_0, x13_5, q13_5_0, q13_5_1, q13_5_2, q13_5_3, q13_5_4, x13_6, q13_6_0, x13_7, q13_7_0, x13_8, q13_8_0, x13_9, q13_9_0, q13_9_1, q13_9_2, q13_9_3, x13_10, q13_10_0, x13_11, q13_11_0, e13, checkP, hI, h1, h2, h3, e1, e2, e3]
      · have e2 : d.cap < 0 := by omega
        simp [l13_0, m13, x13_0, q13_0_0, x13_1, q13_1_0, x13_2, q13_2_0, x13_3, q13_3_0, x13_4, q13_4_0, x13_5, q13_5_0, q13_5_1, q13_5_2, q13_5_3, q13_5_4, x13_6, q13_6_0, x13_7, q13_7_0, x13_8, q13_8_0, x13_9, q13_9_0, q13_9_1, q13_9_2, q13_9_3, x13_10, q13_10_0, x13_11, q13_11_0, e13, checkP, hI, h1, h2, e1, e2]
    · have e1 : (64 : Int) < d.files.length := by omega
      simp [l13_0, m13, x13_0, q13_0_0, x13_1, q13_1_0, x13_2, q13_2_0, x13_3, q13_3_0, x13_4, q13_4_0, x13_5, q13_5_0, q13_5_1, q13_5_2, q13_5_3, q13_5_4, x13_6, q13_6_0, x13_7, q13_7_0, x13_8, q13_8_0, x13_9, q13_9_0, q13_9_1, q13_9_2, q13_9_3, x13_10, q13_10_0, x13_11, q13_11_0, e13, checkP, hI, h1, e1]
  · have hl := hd.len
    have hx := List.getElem_mem hi
    have hw : IntKind.wrap .i64 ((i : Int) + 1) = i + 1 := wrap64 (by omega) (by omega)
    have h14 := t14 (d.files[i]).name
    have hn : lastF d.files (i + 1) = (d.files[i]).name := by simp [lastF, hi]
    have hdr := checkL_drop d.files i hi
    have hlt := less_total (d.files[i]).name (lastF d.files i)
    rw [hdr] at hI
    cases c1 : nameP (d.files[i]).name with
    | false =>
      rw [c1] at h14
      have hc : checkP d = false := by unfold checkP; rw [hI, c1]; simp
      refine .inr ?_
      simp [l13_0, m13, x13_0, q13_0_0, x13_1, q13_1_0, x13_2, q13_2_0, x13_3, q13_3_0, x13_4, q13_4_0, x13_5, q13_5_0, q13_5_1, q13_5_2, q13_5_3, q13_5_4, x13_6, q13_6_0, x13_7, q13_7_0, x13_8, q13_8_0, x13_9, q13_9_0, q13_9_1, q13_9_2, q13_9_3, x13_10, q13_10_0, x13_11, q13_11_0, e13, hi, h14, esc_14, hc]
    | true =>
      rw [c1] at h14
      cases c2 : less (lastF d.files i) (d.files[i]).name with
      | false =>
        have hc : checkP d = false := by unfold checkP; rw [hI, c1, c2]; simp
        rw [c2, Bool.not_false] at hlt
        refine .inr ?_
        simp [l13_0, m13, x13_0, q13_0_0, x13_1, q13_1_0, x13_2, q13_2_0, x13_3, q13_3_0, x13_4, q13_4_0, x13_5, q13_5_0, q13_5_1, q13_5_2, q13_5_3, q13_5_4, x13_6, q13_6_0, x13_7, q13_7_0, x13_8, q13_8_0, x13_9, q13_9_0, q13_9_1, q13_9_2, q13_9_3, x13_10, q13_10_0, x13_11, q13_11_0, e13, hi, h14, esc_14, hlt, hc]
      | true =>
        rw [c2, Bool.not_true] at hlt
        by_cases c3 : (d.files[i]).b = []
        · have hc : checkP d = false := by unfold checkP; rw [hI, c1, c2]; simp [goodF, c3]
          refine .inr ?_
          simp [l13_0, m13, x13_0, q13_0_0, x13_1, q13_1_0, x13_2, q13_2_0, x13_3, q13_3_0, x13_4, q13_4_0, x13_5, q13_5_0, q13_5_1, q13_5_2, q13_5_3, q13_5_4, x13_6, q13_6_0, x13_7, q13_7_0, x13_8, q13_8_0, x13_9, q13_9_0, q13_9_1, q13_9_2, q13_9_3, x13_10, q13_10_0, x13_11, q13_11_0, e13, hi, h14, esc_14, hlt, c3, hc]
        · by_cases c4 : 0 ≤ (d.files[i]).sure
          · have e4 : ¬ (d.files[i]).sure < 0 := by omega
            by_cases c5 : (d.files[i]).sure ≤ (d.files[i]).b.length
            · have e5 : ¬ ((d.files[i]).b.length : Int) < (d.files[i]).sure := by omega
              refine .inl ⟨?_, ?_, rfl⟩
              · simp [l13_0, m13, x13_0, q13_0_0, x13_1, q13_1_0, x13_2, q13_2_0, x13_3, q13_3_0, x13_4, q13_4_0, x13_5, q13_5_0, q13_5_1, q13_5_2, q13_5_3, q13_5_4, x13_6, q13_6_0, x13_7, q13_7_0, x13_8, q13_8_0, x13_9, q13_9_0, q13_9_1, q13_9_2, q13_9_3, x13_10, q13_10_0, x13_11, q13_11_0, e13, hi, h14, esc_14, hlt, c3, e4, e5, hw, hn]
              · rw [hI, c1, c2]; simp [goodF, c3, c4, c5]
            · have e5 : ((d.files[i]).b.length : Int) < (d.files[i]).sure := by omega
              have hc : checkP d = false := by unfold checkP; rw [hI, c1, c2]; simp [goodF, c3, c4, c5]
              refine .inr ?_
              simp [l13_0, m13, x13_0, q13_0_0, x13_1, q13_1_0, x13_2, q13_2_0, x13_3, q13_3_0, x13_4, q13_4_0, x13_5, q13_5_0, q13_5_1, q13_5_2, q13_5_3, q13_5_4, x13_6, q13_6_0, x13_7, q13_7_0, x13_8, q13_8_0, x13_9, q13_9_0, q13_9_1, q13_9_2, q13_9_3, x13_10, q13_10_0, x13_11, q13_11_0, e13, hi, h14, esc_14, hlt, c3, e4, e5, hc]
          · have e4 : (d.files[i]).sure < 0 := by omega
            have hc : checkP d = false := by unfold checkP; rw [hI, c1, c2]; simp [goodF, c3, c4]
            refine .inr ?_
            simp [l13_0, m13, x13_0, q13_0_0, x13_1, q13_1_0, x13_2, q13_2_0, x13_3, q13_3_0, x13_4, q13_4_0, x13_5, q13_5_0, q13_5_1, q13_5_2, q13_5_3, q13_5_4, x13_6, q13_6_0, x13_7, q13_7_0, x13_8, q13_8_0, x13_9, q13_9_0, q13_9_1, q13_9_2, q13_9_3, x13_10, q13_10_0, x13_11, q13_11_0, e13, hi, h14, esc_14, hlt, c3, e4, hc]
end Go.Mir.D
