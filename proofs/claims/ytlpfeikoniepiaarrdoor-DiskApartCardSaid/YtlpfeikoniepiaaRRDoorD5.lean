/- A disk behind an operation. -/
import Derived.Test.YtlpfeikoniepiaaRRDoorD4
set_option linter.all false
namespace Go.Mir.D
attribute [local congr] bind_head
attribute [local simp] gc ofCells bindArgs resD St.get St.set Dat.underL Dat.underLL gc_self fillD elemsD rowsOk_nil rowsOk_cons rowsOk_app rowsOk_tk rowsOk_dp rowsOk_tl underLL_tl underLL_app underLL_tk underLL_dp nn1 nn2 take_rest take_full appD_nil Option.bind_some strip_undef strip1_undef norm_undef noTup_undef safe_undef cells_undef under_undef strip_int strip1_int norm_int noTup_int safe_int cells_int under_int strip_bool strip1_bool norm_bool noTup_bool safe_bool cells_bool under_bool strip_str strip1_str norm_str noTup_str safe_str cells_str under_str strip_agg strip1_agg norm_agg noTup_agg safe_agg cells_agg under_agg strip_tup strip1_tup norm_tup noTup_tup safe_tup cells_tup under_tup strip_slice strip1_slice norm_slice noTup_slice safe_slice cells_slice under_slice strip_nilp strip1_nilp norm_nilp noTup_nilp safe_nilp cells_nilp under_nilp strip_ptr strip1_ptr norm_ptr noTup_ptr safe_ptr cells_ptr under_ptr strip_rptr strip1_rptr norm_rptr noTup_rptr safe_rptr cells_rptr under_rptr strip_fn strip1_fn norm_fn noTup_fn safe_fn cells_fn under_fn strip_nilf strip1_nilf norm_nilf noTup_nilf safe_nilf cells_nilf under_nilf strip_iface strip1_iface norm_iface noTup_iface safe_iface cells_iface under_iface strip_nili strip1_nili norm_nili noTup_nili safe_nili cells_nili under_nili bin_add bin_sub bin_mul bin_quo bin_rem bin_eql bin_neq bin_lss bin_leq bin_gtr bin_geq bin_and bin_or bin_xor bin_andNot bin_shl bin_shr sbin_add sbin_eql sbin_neq sbin_lss sbin_leq sbin_gtr sbin_geq load_ptr load_rptr cellEq_int cellEq_bool cellEq_str cellsEq_nil cellsEq_cons rows_sl rows_str packD_one packD_nil packD_two leave_ret leave_normal leave_exit seqK_normal seqK_exit seqK_ret blockK_normal blockK_exit blockK_ret condK_bool exec_skip exec_exit exec_ret exec_loop exec_seq exec_block exec_cond ev_tmp ev_lit evs_nil evs_cons takeK_some take_tmp take_lit zk_eq keepK_some keepK_none keep_nil keep_cons putD_some putD_none put_eq get_nil get_cons steps_nil steps_cons step_none guardK_t guardK_f guardK_undef step_some pickV_bool eo_pick loadmV_ptr loadmV_rptr eo_loadm eo_load storeV_ptr eo_store storefV_ptr eo_storef clearK_ptr clearK_rptr clearK_none clear_eq nilCheckV_ptr nilCheckV_rptr nilCheckV_fn eo_nilCheck eqsV_agg eo_eqs eqbV_bool eo_eqb unV_neg unV_not eo_un convV_int eo_conv boundK_int bound_none bound_some sliceV_slice eo_slice substrV_str eo_substr fieldAddrV_ptr fieldAddrV_rptr eo_fieldAddr fieldV_agg eo_field indexV_slice eo_index indexArrV_ptr indexArrV_rptr eo_indexArr atV_str eo_at extractV_tup eo_extract extractnV_tup eo_extractn callV_fn eo_call callcV_fn eo_callc callrV_fn eo_callr callR_eq beq_st loadrV_rptr eo_loadr lenV_slice lenV_str eo_len appV_slice eo_append minV_int maxV_int eo_min2 eo_max2 eo_mov_t eo_mov_f eo_alloc eo_box eo_build eo_buildSlice eo_bin eo_mkfn callD_eq callC_eq encF encK encWr under_encF under_encWr rowsOk_F rowsOk_Wr eo_nat eo_s2b eo_b2s s2bV_str b2sV_slice natD_idx
set_option linter.unusedSimpArgs false
set_option linter.unusedVariables false
set_option maxHeartbeats 1000000
set_option maxRecDepth 4000
set_option maxHeartbeats 8000000

def isF (l : List FileD) (name : Txt) : Bool := if h : plIdx l name < l.length then decide ((l[plIdx l name]).name = name) else false
theorem plIdx_le (l : List FileD) (name : Txt) : plIdx l name ≤ l.length := List.findIdx_le_length
theorem placeF_eq (l : List FileD) (name : Txt) : placeF l name = ((plIdx l name : Int), isF l name) := by
  unfold placeF isF
  have := plIdx_le l name
  split
  · rfl
  · rw [show plIdx l name = l.length by omega]
def fileAt (l : List FileD) (name : Txt) : FileD := if isF l name = true then l.getD (plIdx l name) zeroF else ⟨name, [], 0⟩
theorem isF_lt {l : List FileD} {name : Txt} (h : isF l name = true) : plIdx l name < l.length := by
  unfold isF at h
  split at h
  · assumption
  · cases h
/-- the files behind it -/
def putF (l : List FileD) (name : Txt) (f : FileD) : List FileD := (l.take (plIdx l name) ++ (if f.b = [] then [] else [f])) ++ l.drop (if isF l name then plIdx l name + 1 else plIdx l name)
def doP (d : DiskD) (w : WriteD) : DiskD × Int :=
  if checkP d = false ∨ mayW w = false then (zeroK, 2)
  else if d.down = true then (zeroK, 30)
  else if d.left = 0 then ({ d with down := true }, 30)
  else if (doesP (fileAt d.files w.file) (isF d.files w.file) w).2 ≠ 0 then (zeroK, (doesP (fileAt d.files w.file) (isF d.files w.file) w).2)
  else if 64 < (putF d.files w.file (doesP (fileAt d.files w.file) (isF d.files w.file) w).1).length then (zeroK, 3)
  else if d.cap < (usedP (putF d.files w.file (doesP (fileAt d.files w.file) (isF d.files w.file) w).1) : Int) then (zeroK, 31)
  else ({ d with files := putF d.files w.file (doesP (fileAt d.files w.file) (isF d.files w.file) w).1, left := if 0 < d.left then d.left - 1 else d.left }, 0)
def encDr (x : DiskD × Int) : Dat := .tup [.agg (encK x.1), .int .i64 x.2]
theorem rows_encF (l : List FileD) : ∀ x ∈ l.map encF, x.length = 3 := by
  intro x hx
  obtain ⟨f, _, rfl⟩ := List.mem_map.1 hx
  rfl
theorem does_b (f : FileD) (is : Bool) (w : WriteD) : (doesP f is w).1.b.length ≤ f.b.length + w.b.length := by
  unfold doesP
  repeat' split
  all_goals simp only [List.length_append, List.length_take, List.length_nil]
  all_goals omega
theorem does_name (f : FileD) (is : Bool) (w : WriteD) : (doesP f is w).1.name = f.name := by
  unfold doesP
  repeat' split
  all_goals rfl
theorem fileAt_b {d : DiskD} (hd : okD d) (name : Txt) : (fileAt d.files name).b.length ≤ 1000000 := by
  unfold fileAt
  split
  · rename_i h
    have hlt := isF_lt h
    rw [List.getD_eq_getElem?_getD, List.getElem?_eq_getElem hlt]
    exact hd.b _ (List.getElem_mem hlt)
  · simp
theorem putF_len (l : List FileD) (name : Txt) (f : FileD) : (putF l name f).length + (if isF l name = true then 1 else 0) = l.length + (if f.b = [] then 0 else 1) := by
  have h2 := plIdx_le l name
  unfold putF
  simp only [List.length_append, List.length_take, List.length_drop]
  have h3 : (if f.b = [] then ([] : List FileD) else [f]).length = if f.b = [] then 0 else 1 := by split <;> rfl
  rw [h3]
  cases hi : isF l name with
  | true => have := isF_lt hi; simp only [if_true]; omega
  | false => simp only [Bool.false_eq_true, if_false]; omega
theorem putF_ok {d : DiskD} (hd : okD d) (w : WriteD) (hw : w.b.length ≤ 1000000) : (putF d.files w.file (doesP (fileAt d.files w.file) (isF d.files w.file) w).1).length ≤ 1001 ∧ ∀ f ∈ putF d.files w.file (doesP (fileAt d.files w.file) (isF d.files w.file) w).1, f.b.length ≤ 2000000 := by
  have h1 := hd.len
  have h2 := plIdx_le d.files w.file
  refine ⟨?_, fun f hf => ?_⟩
  · have := putF_len d.files w.file (doesP (fileAt d.files w.file) (isF d.files w.file) w).1
    have h3 : (if (doesP (fileAt d.files w.file) (isF d.files w.file) w).1.b = [] then 0 else 1) ≤ 1 := by split <;> omega
    omega
  · unfold putF at hf
    rcases List.mem_append.1 hf with hf | hf
    · rcases List.mem_append.1 hf with hf | hf
      · have := hd.b f (List.mem_of_mem_take hf); omega
      · split at hf
        · cases hf
        · simp only [List.mem_singleton] at hf
          have h3 := does_b (fileAt d.files w.file) (isF d.files w.file) w
          have h4 := fileAt_b hd w.file
          rw [hf]; omega
    · have := hd.b f (List.mem_of_mem_drop hf); omega
/-! the function's parts -/
def c17d : MCode := .seq (.block 1 (.seq r17_21 (.cond (.tmp 79) (.seq r17_22 .ret) (.seq r17_23 (.cond (.tmp 85) (.seq r17_24 .ret) (.seq r17_25 (.cond (.tmp 92) r17_26 .skip))))))) (.seq r17_27 .ret)
def c17c : MCode := .seq r17_15 (.seq (.seq r17_16 (.cond (.tmp 64) r17_17 .skip)) (.seq (.seq r17_18 (.cond (.tmp 69) r17_19 .skip)) (.seq r17_20 c17d)))
def c17b : MCode := .seq r17_8 (.seq r17_9 (.seq (.seq r17_10 (.cond (.tmp 41) r17_11 .skip)) (.seq r17_12 (.seq (.seq r17_13 (.cond (.tmp 54) (.seq r17_14 .ret) .skip)) c17c))))
def c17a : MCode := .seq r17_1 (.cond (.tmp 11) (.seq r17_2 .ret) (.seq r17_3 (.cond (.tmp 20) (.seq r17_4 .ret) (.seq r17_5 (.cond (.tmp 24) (.seq r17_6 (.seq r17_7 .ret)) .skip)))))
theorem body17 : m17.body = .seq r17_0 (.seq (.block 0 c17a) c17b) := rfl
theorem res17 : m17.res = [.cell 4 true 4, .tmp 5] := rfl
theorem own17 : m17.own = false := rfl
def z17 : List Dat := [.slice true [], .int .i64 0, .int .i64 0, .bool false]
/-- the end: is there room? -/
def endP (d : DiskD) (fs : List FileD) : DiskD × Int :=
  if 64 < fs.length then (zeroK, 3) else if d.cap < (usedP fs : Int) then (zeroK, 31) else ({ d with files := fs, left := if 0 < d.left then d.left - 1 else d.left }, 0)
theorem end17 (d : DiskD) (fs : List FileD) (o : Bool) (w : WriteD) (h1 : fs.length ≤ 2000) (h2 : ∀ f ∈ fs, f.b.length ≤ 10000000) (hl : -9223372036854775808 ≤ d.left ∧ d.left ≤ 9223372036854775807) (h19 : run tab 19 [.agg (encK { d with files := fs })] [] = some (.int .i64 (usedP fs), [])) :
    (exec (run tab) tab.esc loopW 0 c17d [(2, .ptr 0 0), (4, .ptr 2 0)] [z17, encWr w, [.slice o (fs.map encF), .int .i64 d.cap, .int .i64 d.left, .bool d.down]]).bind (leave m17 0) = some (encDr (endP d fs), []) := by
  simp only [encK] at h19
  by_cases c1 : 64 < fs.length
  · have e1 : (64 : Int) < fs.length := by omega
    simp [c17d, x17_21, q17_21_0, x17_22, q17_22_0, e1, endP, c1, encDr, zeroK, res17, own17, z17]
  · have e1 : ¬ (64 : Int) < fs.length := by omega
    by_cases c2 : d.cap < (usedP fs : Int)
    · simp [c17d, x17_21, q17_21_0, x17_23, q17_23_0, x17_24, q17_24_0, e1, h19, esc_19, c2, endP, c1, encDr, zeroK, res17, own17, z17]
    · by_cases c3 : 0 < d.left
      · have hw : IntKind.wrap .i64 (d.left - 1) = d.left - 1 := wrap64 (by omega) (by omega)
        simp [c17d, x17_21, q17_21_0, x17_23, q17_23_0, x17_25, q17_25_0, x17_26, q17_26_0, x17_27, q17_27_0, e1, h19, esc_19, c2, endP, c1, c3, hw, encDr, res17, own17, z17]
      · simp [c17d, x17_21, q17_21_0, x17_23, q17_23_0, x17_25, q17_25_0, x17_27, q17_27_0, e1, h19, esc_19, c2, endP, c1, c3, encDr, res17, own17, z17]
theorem put17 (d : DiskD) (w : WriteD) (name : Txt) (f : FileD) (hn : d.files.length ≤ 1000) (h1 : (putF d.files name f).length ≤ 2000) (h2 : ∀ f' ∈ putF d.files name f, f'.b.length ≤ 10000000) (hl : -9223372036854775808 ≤ d.left ∧ d.left ≤ 9223372036854775807) :
    (exec (run tab) tab.esc loopW 0 c17c [(2, .ptr 0 0), (4, .ptr 2 0), (6, .int .i64 (plIdx d.files name)), (7, .bool (isF d.files name)), (8, .ptr 3 0), (9, .int .i64 0), (54, .bool false)] [encF f, z17, encWr w, encK d]).bind (leave m17 0) = some (encDr (endP d (putF d.files name f)), []) := by
  have hk := plIdx_le d.files name
  have hu : usedP (putF d.files name f) ≤ 20000000000 := by
    have := usedP_le h2
    have : (putF d.files name f).length * 10000000 ≤ 2000 * 10000000 := Nat.mul_le_mul_right _ h1
    omega
  have he := end17 d (putF d.files name f) true w h1 h2 hl (t19' _ (by simp only; omega) (by simp only; omega))
  have hr : ∀ (l : List FileD), ∀ x ∈ l.map encF, x.length = 3 := rows_encF
  by_cases hb : f.b = []
  · cases hi : isF d.files name with
    | true =>
      have hlt := isF_lt hi
      have hw : IntKind.wrap .i64 ((plIdx d.files name : Int) + 1) = plIdx d.files name + 1 := wrap64 (by omega) (by omega)
      have a2 := appD_ok (esz := 3) (bytes := 40) (xs := (d.files.take (plIdx d.files name)).map encF) (ys := (d.files.drop (plIdx d.files name + 1)).map encF) (by simp only [List.length_map, List.length_take, List.length_drop]; omega) (hr _) (hr _)
      have hf : (putF d.files name f).map encF = (d.files.take (plIdx d.files name)).map encF ++ (d.files.drop (plIdx d.files name + 1)).map encF := by simp [putF, hb, hi]
      have ek : (plIdx d.files name + 1 ≤ d.files.length) = True := eq_true (by omega)
      have ek0 : (plIdx d.files name ≤ d.files.length) = True := eq_true hk
      rw [hf] at he
      simp [z17] at he
      simp at a2
      simp [c17c, x17_15, q17_15_0, x17_16, q17_16_0, x17_18, q17_18_0, x17_19, q17_19_0, x17_20, q17_20_0, q17_20_1, z17, hb, hw, ek, ek0, a2, he]
    | false =>
      have a2 := appD_ok (esz := 3) (bytes := 40) (xs := (d.files.take (plIdx d.files name)).map encF) (ys := (d.files.drop (plIdx d.files name)).map encF) (by simp only [List.length_map, List.length_take, List.length_drop]; omega) (hr _) (hr _)
      have hf : (putF d.files name f).map encF = (d.files.take (plIdx d.files name)).map encF ++ (d.files.drop (plIdx d.files name)).map encF := by simp [putF, hb, hi]
      have ek0 : (plIdx d.files name ≤ d.files.length) = True := eq_true hk
      rw [hf] at he
      simp [z17] at he
      simp at a2
      simp [c17c, x17_15, q17_15_0, x17_16, q17_16_0, x17_18, q17_18_0, x17_20, q17_20_0, q17_20_1, z17, hb, ek0, a2, he]
  · have a1 := appD_ok (esz := 3) (bytes := 40) (xs := (d.files.take (plIdx d.files name)).map encF) (ys := [encF f]) (by simp only [List.length_map, List.length_take, List.length_cons, List.length_nil]; omega) (hr _) (hr [f])
    have ek0 : (plIdx d.files name ≤ d.files.length) = True := eq_true hk
    cases hi : isF d.files name with
    | true =>
      have hlt := isF_lt hi
      have hw : IntKind.wrap .i64 ((plIdx d.files name : Int) + 1) = plIdx d.files name + 1 := wrap64 (by omega) (by omega)
      have a2 := appD_ok (esz := 3) (bytes := 40) (xs := (d.files.take (plIdx d.files name)).map encF ++ [encF f]) (ys := (d.files.drop (plIdx d.files name + 1)).map encF) (by simp only [List.length_append, List.length_cons, List.length_nil, List.length_map, List.length_take, List.length_drop]; omega) (fun x hx => by
        rcases List.mem_append.1 hx with hx | hx
        · exact hr _ x hx
        · exact hr [f] x hx) (hr _)
      have hf : (putF d.files name f).map encF = ((d.files.take (plIdx d.files name)).map encF ++ [encF f]) ++ (d.files.drop (plIdx d.files name + 1)).map encF := by simp [putF, hb, hi]
      have ek : (plIdx d.files name + 1 ≤ d.files.length) = True := eq_true (by omega)
      rw [hf] at he
      simp [z17] at he
      simp at a1 a2
      simp [c17c, x17_15, q17_15_0, x17_16, q17_16_0, x17_17, q17_17_0, x17_18, q17_18_0, x17_19, q17_19_0, x17_20, q17_20_0, q17_20_1, z17, hb, hw, ek, ek0, a1, a2, he]
    | false =>
      have a2 := appD_ok (esz := 3) (bytes := 40) (xs := (d.files.take (plIdx d.files name)).map encF ++ [encF f]) (ys := (d.files.drop (plIdx d.files name)).map encF) (by simp only [List.length_append, List.length_cons, List.length_nil, List.length_map, List.length_take, List.length_drop]; omega) (fun x hx => by
        rcases List.mem_append.1 hx with hx | hx
        · exact hr _ x hx
        · exact hr [f] x hx) (hr _)
      have hf : (putF d.files name f).map encF = ((d.files.take (plIdx d.files name)).map encF ++ [encF f]) ++ (d.files.drop (plIdx d.files name)).map encF := by simp [putF, hb, hi]
      rw [hf] at he
      simp [z17] at he
      simp at a1 a2
      simp [c17c, x17_15, q17_15_0, x17_16, q17_16_0, x17_17, q17_17_0, x17_18, q17_18_0, x17_20, q17_20_0, q17_20_1, z17, hb, ek0, a1, a2, he]
theorem file17 (d : DiskD) (w : WriteD) (hd : okD d) (hw : w.file.length ≤ 1000 ∧ w.b.length ≤ 1000000) (hm : mayW w = true) (hl : -9223372036854775808 ≤ d.left ∧ d.left ≤ 9223372036854775807) :
    (exec (run tab) tab.esc loopW 0 c17b [(2, .ptr 0 0), (3, .ptr 1 0), (4, .ptr 2 0), (24, .bool false)] [z17, encWr w, encK d]).bind (leave m17 0) =
      some (encDr (if (doesP (fileAt d.files w.file) (isF d.files w.file) w).2 ≠ 0 then (zeroK, (doesP (fileAt d.files w.file) (isF d.files w.file) w).2) else endP d (putF d.files w.file (doesP (fileAt d.files w.file) (isF d.files w.file) w).1)), []) := by
  have h45 := t45 d.files w.file (by have := hd.len; omega)
  rw [placeF_eq] at h45
  have h47 := t47 (fileAt d.files w.file) (isF d.files w.file) w 1 [encF (fileAt d.files w.file), z17, encWr w, encK d] hm (by have := fileAt_b hd w.file; omega) (by omega) (by simp [z17]) (by simp [z17])
  obtain ⟨g1, g2⟩ := putF_ok hd w hw.2
  have hp := put17 d w w.file (doesP (fileAt d.files w.file) (isF d.files w.file) w).1 hd.len (by omega) (fun f hf => by have := g2 f hf; omega) hl
  simp [encPl] at h45
  simp [encDo, z17] at h47
  simp [z17] at hp
  cases hi : isF d.files w.file with
  | true =>
    have hlt := isF_lt hi
    have hfa : fileAt d.files w.file = d.files[plIdx d.files w.file] := by
      unfold fileAt
      rw [if_pos hi, List.getD_eq_getElem?_getD, List.getElem?_eq_getElem hlt]
      rfl
    rw [hi] at h45 h47 hp
    rw [hfa] at h47 hp ⊢
    by_cases he : (doesP (d.files[plIdx d.files w.file]) true w).2 = 0
    · simp [he] at h47
      simp [c17b, x17_8, q17_8_0, q17_8_1, x17_9, q17_9_0, x17_10, q17_10_0, x17_11, q17_11_0, x17_12, q17_12_0, q17_12_1, x17_13, q17_13_0, z17, h45, esc_45, hlt, h47, esc_47, hp, he]
    · simp [c17b, x17_8, q17_8_0, q17_8_1, x17_9, q17_9_0, x17_10, q17_10_0, x17_11, q17_11_0, x17_12, q17_12_0, q17_12_1, x17_13, q17_13_0, x17_14, q17_14_0, z17, h45, esc_45, hlt, h47, esc_47, he, res17, own17, encDr, zeroK]
  | false =>
    have hfa : fileAt d.files w.file = ⟨w.file, [], 0⟩ := by
      unfold fileAt
      rw [if_neg (by rw [hi]; simp)]
    rw [hi] at h45 h47 hp
    rw [hfa] at h47 hp ⊢
    by_cases he : (doesP ⟨w.file, [], 0⟩ false w).2 = 0
    · simp [he] at h47
      simp [c17b, x17_8, q17_8_0, q17_8_1, x17_9, q17_9_0, x17_10, q17_10_0, x17_11, q17_11_0, x17_12, q17_12_0, q17_12_1, x17_13, q17_13_0, z17, h45, esc_45, h47, esc_47, hp, he]
    · simp [c17b, x17_8, q17_8_0, q17_8_1, x17_9, q17_9_0, x17_10, q17_10_0, x17_11, q17_11_0, x17_12, q17_12_0, q17_12_1, x17_13, q17_13_0, x17_14, q17_14_0, z17, h45, esc_45, h47, esc_47, he, res17, own17, encDr, zeroK]
theorem doP_eq (d : DiskD) (w : WriteD) : doP d w = if checkP d = false ∨ mayW w = false then (zeroK, 2) else if d.down = true then (zeroK, 30) else if d.left = 0 then ({ d with down := true }, 30) else
    if (doesP (fileAt d.files w.file) (isF d.files w.file) w).2 ≠ 0 then (zeroK, (doesP (fileAt d.files w.file) (isF d.files w.file) w).2) else endP d (putF d.files w.file (doesP (fileAt d.files w.file) (isF d.files w.file) w).1) := rfl
theorem run17 (a : List Dat) : run tab 17 a [] = (exec (run tab) tab.esc loopW 0 (.seq r17_0 (.seq (.block 0 c17a) c17b)) (bindArgs 0 a) []).bind (leave m17 0) := by rw [run_eq, tab_17]; rfl
theorem t17 (d : DiskD) (w : WriteD) (hd : okD d) (hw : w.file.length ≤ 1000 ∧ w.b.length ≤ 1000000) (hl : -9223372036854775808 ≤ d.left ∧ d.left ≤ 9223372036854775807) : run tab 17 [.agg (encK d), .agg (encWr w)] [] = some (encDr (doP d w), []) := by
  have h13 := t13 d hd
  have h44 := t44 w 1 [z17, encWr w, encK d] (by simp [z17]) (by simp [z17])
  rw [run17, doP_eq]
  cases c1 : checkP d with
  | false =>
    rw [c1] at h13
    simp at h13
    simp [c17a, x17_0, q17_0_0, x17_1, q17_1_0, q17_1_1, x17_2, q17_2_0, h13, esc_13, encDr, zeroK, res17, own17]
  | true =>
    rw [c1] at h13
    simp at h13
    cases c2 : mayW w with
    | false =>
      rw [c2] at h44
      simp [z17] at h44
      simp [c17a, x17_0, q17_0_0, x17_1, q17_1_0, q17_1_1, x17_2, q17_2_0, h13, esc_13, h44, esc_44, encDr, zeroK, res17, own17]
    | true =>
      have hf := file17 d w hd hw c2 hl
      rw [c2] at h44
      simp [z17] at h44 hf
      cases c3 : d.down with
      | true =>
        rw [c3] at h13 h44
        simp [c17a, x17_0, q17_0_0, x17_1, q17_1_0, q17_1_1, x17_3, q17_3_0, x17_4, q17_4_0, h13, esc_13, h44, esc_44, c3, encDr, zeroK, res17, own17]
      | false =>
        rw [c3] at h13 h44 hf
        by_cases c4 : d.left = 0
        · rw [c4] at h13 h44
          simp [c17a, x17_0, q17_0_0, x17_1, q17_1_0, q17_1_1, x17_3, q17_3_0, x17_5, q17_5_0, x17_6, q17_6_0, x17_7, q17_7_0, h13, esc_13, h44, esc_44, c3, c4, encDr, res17, own17]
        · simp [c17a, x17_0, q17_0_0, x17_1, q17_1_0, q17_1_1, x17_3, q17_3_0, x17_5, q17_5_0, h13, esc_13, h44, esc_44, c3, c4, hf]
end Go.Mir.D
