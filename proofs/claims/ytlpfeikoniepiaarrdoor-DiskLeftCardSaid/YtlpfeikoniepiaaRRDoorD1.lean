/- Names: letters alone, of which strings.Trim leaves nothing. -/
import Derived.Test.YtlpfeikoniepiaaRRDoorD0
set_option linter.all false
namespace Go.Mir.D
attribute [local congr] bind_head
attribute [local simp] gc ofCells bindArgs resD St.get St.set Dat.underL Dat.underLL gc_self fillD elemsD rowsOk_nil rowsOk_cons rowsOk_app rowsOk_tk rowsOk_dp rowsOk_tl underLL_tl underLL_app underLL_tk underLL_dp nn1 nn2 take_rest take_full appD_nil Option.bind_some strip_undef strip1_undef norm_undef noTup_undef safe_undef cells_undef under_undef strip_int strip1_int norm_int noTup_int safe_int cells_int under_int strip_bool strip1_bool norm_bool noTup_bool safe_bool cells_bool under_bool strip_str strip1_str norm_str noTup_str safe_str cells_str under_str strip_agg strip1_agg norm_agg noTup_agg safe_agg cells_agg under_agg strip_tup strip1_tup norm_tup noTup_tup safe_tup cells_tup under_tup strip_slice strip1_slice norm_slice noTup_slice safe_slice cells_slice under_slice strip_nilp strip1_nilp norm_nilp noTup_nilp safe_nilp cells_nilp under_nilp strip_ptr strip1_ptr norm_ptr noTup_ptr safe_ptr cells_ptr under_ptr strip_rptr strip1_rptr norm_rptr noTup_rptr safe_rptr cells_rptr under_rptr strip_fn strip1_fn norm_fn noTup_fn safe_fn cells_fn under_fn strip_nilf strip1_nilf norm_nilf noTup_nilf safe_nilf cells_nilf under_nilf strip_iface strip1_iface norm_iface noTup_iface safe_iface cells_iface under_iface strip_nili strip1_nili norm_nili noTup_nili safe_nili cells_nili under_nili bin_add bin_sub bin_mul bin_quo bin_rem bin_eql bin_neq bin_lss bin_leq bin_gtr bin_geq bin_and bin_or bin_xor bin_andNot bin_shl bin_shr sbin_add sbin_eql sbin_neq sbin_lss sbin_leq sbin_gtr sbin_geq load_ptr load_rptr cellEq_int cellEq_bool cellEq_str cellsEq_nil cellsEq_cons rows_sl rows_str packD_one packD_nil packD_two leave_ret leave_normal leave_exit seqK_normal seqK_exit seqK_ret blockK_normal blockK_exit blockK_ret condK_bool exec_skip exec_exit exec_ret exec_loop exec_seq exec_block exec_cond ev_tmp ev_lit evs_nil evs_cons takeK_some take_tmp take_lit zk_eq keepK_some keepK_none keep_nil keep_cons putD_some putD_none put_eq get_nil get_cons steps_nil steps_cons step_none guardK_t guardK_f guardK_undef step_some pickV_bool eo_pick loadmV_ptr loadmV_rptr eo_loadm eo_load storeV_ptr eo_store storefV_ptr eo_storef clearK_ptr clearK_rptr clearK_none clear_eq nilCheckV_ptr nilCheckV_rptr nilCheckV_fn eo_nilCheck eqsV_agg eo_eqs eqbV_bool eo_eqb unV_neg unV_not eo_un convV_int eo_conv boundK_int bound_none bound_some sliceV_slice eo_slice substrV_str eo_substr fieldAddrV_ptr fieldAddrV_rptr eo_fieldAddr fieldV_agg eo_field indexV_slice eo_index indexArrV_ptr indexArrV_rptr eo_indexArr atV_str eo_at extractV_tup eo_extract extractnV_tup eo_extractn callV_fn eo_call callcV_fn eo_callc callrV_fn eo_callr callR_eq beq_st loadrV_rptr eo_loadr lenV_slice lenV_str eo_len appV_slice eo_append minV_int maxV_int eo_min2 eo_max2 eo_mov_t eo_mov_f eo_alloc eo_box eo_build eo_buildSlice eo_bin eo_mkfn callD_eq callC_eq encF encK encWr under_encF under_encWr rowsOk_F rowsOk_Wr eo_nat eo_s2b eo_b2s s2bV_str b2sV_slice natD_idx
set_option linter.unusedSimpArgs false
set_option linter.unusedVariables false
set_option maxHeartbeats 1000000
set_option maxRecDepth 4000

def letters : Txt := [97, 98, 99, 100, 101, 102, 103, 104, 105, 106, 107, 108, 109, 110, 111, 112, 113, 114, 115, 116, 117, 118, 119, 120, 121, 122, 48, 49, 50, 51, 52, 53, 54, 55, 56, 57, 46]
def isL (c : UInt8) : Bool := letters.contains c
def setB : List Dat := (List.range 256).map fun i => .bool (isL (UInt8.ofNat i))
theorem t63 : run tab 63 [.str letters] [] = some (.tup [.agg setB, .bool true], []) := run_of_runF (k := 60) (by kernel_rfl)
theorem t15 : run tab 15 [] [] = some (.bool true, []) := run_of_runF (k := 60) (by kernel_rfl)
theorem setB_len : setB.length = 256 := by simp [setB]
theorem setB_safe : setB.all Dat.safe = true := by simp [setB, Dat.safe]
theorem setB_at (c : UInt8) : (setB.drop c.toNat).take 1 = [.bool (isL c)] := by
  have h : c.toNat < setB.length := by rw [setB_len]; exact c.toNat_lt
  rw [List.drop_eq_getElem_cons h]
  simp [setB]
theorem t78 (c : UInt8) : run tab 78 [.ptr 0 0, .int .u8 c.toNat] [setB] = some (.bool (isL c), [setB]) := by
  have h1 : ((c.toNat : Int) < 256) = True := eq_true (by have := c.toNat_lt; omega)
  have h2 : (c.toNat + 1 ≤ 256) = True := eq_true (by have := c.toNat_lt; omega)
  rw [run_eq, tab_78]
  simp [m78, x78_0, q78_0_0, x78_1, q78_1_0, h1, h2, setB_len, setB_at]
def trimL (s : Txt) : Txt := s.dropWhile isL
def trimR (s : Txt) : Txt := (s.reverse.dropWhile isL).reverse
theorem trimR_nil : trimR [] = [] := rfl
theorem trimR_step (s : Txt) (c : UInt8) : trimR (s ++ [c]) = if isL c then trimR s else s ++ [c] := by
  unfold trimR
  rw [List.reverse_append, List.reverse_cons, List.reverse_nil, List.nil_append, List.singleton_append, List.dropWhile_cons]
  split
  · rfl
  · simp
theorem drop_all : ∀ {s : Txt}, (∀ x ∈ s, isL x = true) → s.dropWhile isL = []
  | [], _ => rfl
  | c :: r, h => by
    rw [List.dropWhile_cons, if_pos (h c (by simp))]
    exact drop_all fun x hx => h x (by simp [hx])
theorem trim_all {s : Txt} (h : s.all isL = true) : trimL (trimR s) = [] := by
  have h1 : trimR s = [] := by
    unfold trimR
    rw [List.reverse_eq_nil_iff]
    exact drop_all fun x hx => List.all_eq_true.1 h x (List.mem_reverse.1 hx)
  rw [h1]; rfl
theorem t64 (s : Txt) (h : s.length ≤ 1000) : run tab 64 [.str s, .ptr 0 0] [setB] = some (.str (trimL s), [setB]) := by
  rw [run_eq, tab_64]
  simp [m64, x64_0, q64_0_0, x64_1, q64_1_0, x64_2, q64_2_0, x64_3, q64_3_0, x64_4, q64_4_0]
  simp only [Option.bind_assoc]
  refine loop_st (fun s => [(0, .str s), (1, .ptr 0 0)]) (fun _ => [setB]) (fun s : Txt => s.length) (fun s => s.length ≤ 1000) (fun s => some (Dat.str (trimL s), ([setB] : St))) (fun s hs => ?_) s h
  cases s with
  | nil => exact .inr (by simp [l64_0, m64, x64_0, q64_0_0, x64_1, q64_1_0, x64_2, q64_2_0, x64_3, q64_3_0, x64_4, q64_4_0, trimL])
  | cons c r =>
    have hc := t78 c
    have e1 : (0 : Int) < (r.length : Int) + 1 := by omega
    cases hl : isL c with
    | true =>
      rw [hl] at hc
      refine .inl ⟨r, ?_, by simp only [List.length_cons] at hs; omega, by simp, by simp [trimL, hl]⟩
      simp [l64_0, m64, x64_0, q64_0_0, x64_1, q64_1_0, x64_2, q64_2_0, x64_3, q64_3_0, x64_4, q64_4_0, hc, esc_78, e1]
    | false =>
      rw [hl] at hc
      refine .inr ?_
      simp [l64_0, m64, x64_0, q64_0_0, x64_1, q64_1_0, x64_2, q64_2_0, x64_3, q64_3_0, x64_4, q64_4_0, hc, esc_78, e1, trimL, hl]
theorem t65 (s : Txt) (h : s.length ≤ 1000) : run tab 65 [.str s, .ptr 0 0] [setB] = some (.str (trimR s), [setB]) := by
  rw [run_eq, tab_65]
  simp [m65, x65_0, q65_0_0, x65_1, q65_1_0, x65_2, q65_2_0, q65_2_1, x65_3, q65_3_0, x65_4, q65_4_0]
  simp only [Option.bind_assoc]
  refine loop_st (fun s => [(0, .str s), (1, .ptr 0 0)]) (fun _ => [setB]) (fun s : Txt => s.length) (fun s => s.length ≤ 1000) (fun s => some (Dat.str (trimR s), ([setB] : St))) (fun s hs => ?_) s h
  rcases List.eq_nil_or_concat s with rfl | ⟨r, c, rfl⟩
  · exact .inr (by simp [l65_0, m65, x65_0, q65_0_0, x65_1, q65_1_0, x65_2, q65_2_0, q65_2_1, x65_3, q65_3_0, x65_4, q65_4_0, trimR_nil])
  · have hc := t78 c
    have e1 : (0 : Int) < (r.length : Int) + 1 := by omega
    have e2 : IntKind.wrap .i64 ((r.length : Int) + 1 - 1) = r.length := by rw [wrap64 (by simp at hs; omega) (by simp at hs; omega)]; omega
    have e3 : IntKind.wrap .i64 (r.length : Int) = r.length := wrap64 (by omega) (by simp at hs; omega)
    have hst := trimR_step r c
    cases hl : isL c with
    | true =>
      rw [hl] at hc hst
      refine .inl ⟨r, ?_, by simp at hs; omega, by simp, by simpa using hst⟩
      simp [l65_0, m65, x65_0, q65_0_0, x65_1, q65_1_0, x65_2, q65_2_0, q65_2_1, x65_3, q65_3_0, x65_4, q65_4_0, hc, esc_78, e1, e2, e3]
    | false =>
      rw [hl] at hc hst
      refine .inr ?_
      simp at hst
      simp [l65_0, m65, x65_0, q65_0_0, x65_1, q65_1_0, x65_2, q65_2_0, q65_2_1, x65_3, q65_3_0, x65_4, q65_4_0, hc, esc_78, e1, e2, e3, hst]
theorem idxB_neg (c : UInt8) : ∀ (l : Txt) (i : Nat), (idxB l c.toNat i < 0) = (l.contains c = false)
  | [], i => by simp [idxB]
  | b :: l, i => by
    unfold idxB
    by_cases h : b = c
    · subst h
      simp
    · have h1 : ¬ ((b.toNat : Int) = c.toNat) := fun e => h (UInt8.toNat_inj.1 (by omega))
      rw [if_neg h1, idxB_neg c l (i + 1)]
      simp [List.contains_cons, Ne.symm h]
theorem t68 (c : UInt8) : run tab 68 [.str letters, .int .u8 c.toNat] [] = some (.int .i64 (idxB letters c.toNat 0), []) := by
  have h1 : ((c.toNat : Int) < 256) = True := eq_true (by have := c.toNat_lt; omega)
  have h82 : run tab 82 [.str letters, .int .u8 c.toNat] [] = some (.int .i64 (idxB letters c.toNat 0), []) := by
    rw [run_eq, tab_82]
    simp [m82, x82_0, q82_0_0, x82_1, q82_1_0, h1]
  rw [run_eq, tab_68]
  simp [m68, x68_0, q68_0_0, x68_1, q68_1_0, h82, esc_82]
theorem t41 (s : Txt) (h : s.length ≤ 1000000) : run tab 41 [.str s] [] = some (.bool (s.all isL), []) := by
  have hs : (s.length ≤ 35184372088832) = True := eq_true (by omega)
  rw [run_eq, tab_41]
  have hr : (rowsU s).length = s.length := by simp [rowsU]
  simp [m41, x41_0, q41_0_0, x41_1, q41_1_0, x41_2, q41_2_0, x41_3, q41_3_0, x41_4, q41_4_0, x41_5, q41_5_0, x41_6, q41_6_0, x41_7, q41_7_0, hs, hr]
  simp only [Option.bind_assoc]
  refine (loop_cont (fun i => [(6, .slice false (rowsU s)), (7, .int .i64 s.length), (8, .int .i64 i)]) (fun _ => []) s.length (fun i => (s.take i).all isL = true) (fun _ => some (Dat.bool (s.all isL), ([] : St))) (by simp) (fun hi => ?_) fun i hi hI => ?_)
  · rw [List.take_length] at hi
    simp [l41_0, m41, x41_0, q41_0_0, x41_1, q41_1_0, x41_2, q41_2_0, x41_3, q41_3_0, x41_4, q41_4_0, x41_5, q41_5_0, x41_6, q41_6_0, x41_7, q41_7_0, hi]
  · have hw : IntKind.wrap .i64 ((i : Int) + 1) = i + 1 := wrap64 (by omega) (by omega)
    have hc := t68 s[i]
    have hn := idxB_neg s[i] letters 0
    simp only [letters] at hc
    cases hl : isL s[i] with
    | true =>
      have hn' : (idxB letters (s[i]).toNat 0 < 0) = False := by rw [hn, show letters.contains s[i] = true from hl]; simp
      simp only [letters] at hn'
      refine .inl ⟨?_, ?_, rfl⟩
      · simp [l41_0, m41, x41_0, q41_0_0, x41_1, q41_1_0, x41_2, q41_2_0, x41_3, q41_3_0, x41_4, q41_4_0, x41_5, q41_5_0, x41_6, q41_6_0, x41_7, q41_7_0, hi, hw, hc, esc_68, hn', rowsU_map, encU]
      · have ht : s.take (i + 1) = s.take i ++ [s[i]] := by rw [List.take_add_one, List.getElem?_eq_getElem hi]; rfl
        rw [ht, List.all_append, hI, List.all_cons, hl]
        rfl
    | false =>
      have hn' : (idxB letters (s[i]).toNat 0 < 0) = True := by rw [hn, show letters.contains s[i] = false from hl]; simp
      have hall : s.all isL = false := by
        rw [List.all_eq_false]
        exact ⟨s[i], List.getElem_mem hi, by simp [hl]⟩
      simp only [letters] at hn'
      refine .inr ?_
      simp [l41_0, m41, x41_0, q41_0_0, x41_1, q41_1_0, x41_2, q41_2_0, x41_3, q41_3_0, x41_4, q41_4_0, x41_5, q41_5_0, x41_6, q41_6_0, x41_7, q41_7_0, hi, hw, hc, esc_68, hn', rowsU_map, encU, hall]
def nameP (s : Txt) : Bool := !decide (s = []) && (decide (s.length ≤ 8) && s.all isL)
theorem setB_under : Dat.underL 0 setB = true := underL_mk fun d hd => by
  obtain ⟨i, _, rfl⟩ := List.mem_map.1 hd
  rfl
theorem t40 (s : Txt) (h : s.length ≤ 1000) (h0 : s ≠ []) : run tab 40 [.str s, .str letters] [] = some (.str (trimL (trimR s)), []) := by
  have h63 := t63
  have h65 := t65 s h
  have h64 := t64 (trimR s) (by
    have : (trimR s).length ≤ s.length := by
      unfold trimR
      rw [List.length_reverse]
      refine Nat.le_trans (List.Sublist.length_le (List.dropWhile_sublist _)) ?_
      simp
    omega)
  have hl : letters.length = 37 := rfl
  have hln : (letters = []) = False := eq_false (by decide)
  rw [run_eq, tab_40]
  simp [m40, x40_0, q40_0_0, x40_1, q40_1_0, x40_2, q40_2_0, x40_3, q40_3_0, q40_3_1, x40_4, q40_4_0, q40_4_1, x40_5, q40_5_0, q40_5_1, x40_6, q40_6_0, x40_7, q40_7_0, x40_8, q40_8_0, h0, h63, esc_63, h65, esc_65, h64, esc_64, hl, hln, setB_safe, setB_len, setB_under]
theorem nameP_nil : nameP [] = false := rfl
theorem t14 (s : Txt) : run tab 14 [.str s] [] = some (.bool (nameP s), []) := by
  rw [run_eq, tab_14]
  by_cases h0 : s = []
  · subst h0
    simp [m14, x14_0, q14_0_0, x14_1, q14_1_0, q14_1_1, q14_1_2, nameP_nil]
  · by_cases h8 : s.length ≤ 8
    · have e8 : ((s.length : Int) ≤ 8) = True := eq_true (by omega)
      have h40 := t40 s (by omega) h0
      have h41 := t41 s (by omega)
      simp only [letters] at h40
      by_cases ht : trimL (trimR s) = []
      · simp [m14, x14_0, q14_0_0, x14_1, q14_1_0, q14_1_1, q14_1_2, h0, e8, h40, esc_40, h41, esc_41, ht, nameP, h8]
      · have hall : s.all isL = false := by
          cases hal : s.all isL with
          | false => rfl
          | true => exact absurd (trim_all hal) ht
        simp [m14, x14_0, q14_0_0, x14_1, q14_1_0, q14_1_1, q14_1_2, h0, e8, h40, esc_40, h41, esc_41, ht, nameP, h8, hall]
    · have e8 : ((s.length : Int) ≤ 8) = False := eq_false (by omega)
      simp [m14, x14_0, q14_0_0, x14_1, q14_1_0, q14_1_1, q14_1_2, h0, e8, nameP, h8]
end Go.Mir.D
