/- A disk behind a crash. -/
import Derived.Test.YtlpfeikoniepiaaRRDoorQ2
set_option linter.all false
namespace Go.Mir.D
attribute [local congr] bind_head
attribute [local simp] gc ofCells bindArgs resD St.get St.set Dat.underL Dat.underLL gc_self fillD elemsD rowsOk_nil rowsOk_cons rowsOk_app rowsOk_tk rowsOk_dp rowsOk_tl underLL_tl underLL_app underLL_tk underLL_dp nn1 nn2 take_rest take_full appD_nil Option.bind_some strip_undef strip1_undef norm_undef noTup_undef safe_undef cells_undef under_undef strip_int strip1_int norm_int noTup_int safe_int cells_int under_int strip_bool strip1_bool norm_bool noTup_bool safe_bool cells_bool under_bool strip_str strip1_str norm_str noTup_str safe_str cells_str under_str strip_agg strip1_agg norm_agg noTup_agg safe_agg cells_agg under_agg strip_tup strip1_tup norm_tup noTup_tup safe_tup cells_tup under_tup strip_slice strip1_slice norm_slice noTup_slice safe_slice cells_slice under_slice strip_nilp strip1_nilp norm_nilp noTup_nilp safe_nilp cells_nilp under_nilp strip_ptr strip1_ptr norm_ptr noTup_ptr safe_ptr cells_ptr under_ptr strip_rptr strip1_rptr norm_rptr noTup_rptr safe_rptr cells_rptr under_rptr strip_fn strip1_fn norm_fn noTup_fn safe_fn cells_fn under_fn strip_nilf strip1_nilf norm_nilf noTup_nilf safe_nilf cells_nilf under_nilf strip_iface strip1_iface norm_iface noTup_iface safe_iface cells_iface under_iface strip_nili strip1_nili norm_nili noTup_nili safe_nili cells_nili under_nili bin_add bin_sub bin_mul bin_quo bin_rem bin_eql bin_neq bin_lss bin_leq bin_gtr bin_geq bin_and bin_or bin_xor bin_andNot bin_shl bin_shr sbin_add sbin_eql sbin_neq sbin_lss sbin_leq sbin_gtr sbin_geq load_ptr load_rptr cellEq_int cellEq_bool cellEq_str cellsEq_nil cellsEq_cons rows_sl rows_str packD_one packD_nil packD_two leave_ret leave_normal leave_exit seqK_normal seqK_exit seqK_ret blockK_normal blockK_exit blockK_ret condK_bool exec_skip exec_exit exec_ret exec_loop exec_seq exec_block exec_cond ev_tmp ev_lit evs_nil evs_cons takeK_some take_tmp take_lit zk_eq keepK_some keepK_none keep_nil keep_cons putD_some putD_none put_eq get_nil get_cons steps_nil steps_cons step_none guardK_t guardK_f guardK_undef step_some pickV_bool eo_pick loadmV_ptr loadmV_rptr eo_loadm eo_load storeV_ptr eo_store storefV_ptr eo_storef clearK_ptr clearK_rptr clearK_none clear_eq nilCheckV_ptr nilCheckV_rptr nilCheckV_fn eo_nilCheck eqsV_agg eo_eqs eqbV_bool eo_eqb unV_neg unV_not eo_un convV_int eo_conv boundK_int bound_none bound_some sliceV_slice eo_slice substrV_str eo_substr fieldAddrV_ptr fieldAddrV_rptr eo_fieldAddr fieldV_agg eo_field indexV_slice eo_index indexArrV_ptr indexArrV_rptr eo_indexArr atV_str eo_at extractV_tup eo_extract extractnV_tup eo_extractn callV_fn eo_call callcV_fn eo_callc callrV_fn eo_callr callR_eq beq_st loadrV_rptr eo_loadr lenV_slice lenV_str eo_len appV_slice eo_append minV_int maxV_int eo_min2 eo_max2 eo_mov_t eo_mov_f eo_alloc eo_box eo_build eo_buildSlice eo_bin eo_mkfn callD_eq callC_eq encF encK encWr under_encF under_encWr rowsOk_F rowsOk_Wr eo_nat eo_s2b eo_b2s s2bV_str b2sV_slice natD_idx
set_option linter.unusedSimpArgs false
set_option linter.unusedVariables false
set_option maxHeartbeats 1000000
set_option maxRecDepth 4000
set_option maxHeartbeats 8000000

def encI (k : Int) : List Dat := [.int .i64 k]
theorem under_encI (n : Nat) (l : List Int) : Dat.underLL n (l.map encI) = true := underLL_mk fun d hd => by
  obtain ⟨x, _, rfl⟩ := List.mem_map.1 hd
  rfl
attribute [local simp] encI under_encI
/-- how much is sure of a file of which so many more bytes may be kept -/
def kept (f : FileD) (k : Int) : Int := f.sure + (if (f.b.length : Int) - f.sure < (if k < 0 then 0 else k) then (f.b.length : Int) - f.sure else (if k < 0 then 0 else k))
def sureK (f : FileD) (ks : List Int) : Int := match ks with
  | [] => f.sure
  | k :: _ => kept f k
def crash1 (f : FileD) (ks : List Int) : List FileD := if 0 < sureK f ks then [⟨f.name, f.b.take (sureK f ks).toNat, sureK f ks⟩] else []
def crashL : List FileD → List Int → List FileD
  | [], _ => []
  | f :: r, ks => crash1 f ks ++ crashL r ks.tail
theorem crashL_app : ∀ (a b : List FileD) (ks : List Int), crashL (a ++ b) ks = crashL a ks ++ crashL b (ks.drop a.length)
  | [], b, ks => by simp [crashL]
  | f :: a, b, ks => by
    rw [List.cons_append, crashL, crashL, crashL_app a b, List.append_assoc, List.length_cons]
    congr 2
    cases ks <;> simp
theorem crashL_take (l : List FileD) (ks : List Int) (i : Nat) (h : i < l.length) : crashL (l.take (i + 1)) ks = crashL (l.take i) ks ++ crash1 l[i] (ks.drop i) := by
  rw [List.take_add_one, List.getElem?_eq_getElem h, Option.toList_some, crashL_app, List.length_take, show min i l.length = i by omega]
  simp [crashL]
def crashP (d : DiskD) (ks : List Int) : DiskD × Int := if checkP d then (⟨crashL d.files ks, d.cap, -1, false⟩, 0) else (zeroK, 2)
theorem sureK_rng {f : FileD} (h : 0 ≤ f.sure ∧ f.sure ≤ f.b.length) (ks : List Int) : f.sure ≤ sureK f ks ∧ sureK f ks ≤ f.b.length := by
  unfold sureK
  cases ks with
  | nil => exact ⟨Int.le_refl _, h.2⟩
  | cons k ks =>
    simp only [kept]
    split <;> split <;> omega
theorem crashL_len : ∀ (l : List FileD) (ks : List Int), (crashL l ks).length ≤ l.length
  | [], ks => by simp [crashL]
  | f :: r, ks => by
    have ih := crashL_len r ks.tail
    have : (crash1 f ks).length ≤ 1 := by unfold crash1; split <;> simp
    simp only [crashL, List.length_append, List.length_cons]
    omega
def e25 (d : DiskD) (ks : List Int) (o : Bool) (i : Nat) : Env := [(1, .slice o (ks.map encI)), (4, .ptr 1 0), (6, .ptr 2 0), (17, .slice false (d.files.map encF)), (18, .int .i64 d.files.length), (19, .int .i64 i)]
def s25 (d : DiskD) (ks : List Int) (i : Nat) : St := [[.slice true ((crashL (d.files.take i) ks).map encF), .int .i64 d.cap, .int .i64 (-1), .bool false], z17, encK d]
theorem t25 (d : DiskD) (ks : List Int) (o : Bool) (hd : okD d) : run tab 25 [.agg (encK d), .slice o (ks.map encI)] [] = some (encDr (crashP d ks), []) := by
  have h13 := t13 d hd
  rw [run_eq, tab_25]
  cases c1 : checkP d with
  | false =>
    rw [c1] at h13
    simp at h13
    simp [m25, x25_0, q25_0_0, x25_1, q25_1_0, x25_2, q25_2_0, x25_3, q25_3_0, x25_4, q25_4_0, x25_5, q25_5_0, x25_6, q25_6_0, x25_7, q25_7_0, x25_8, q25_8_0, q25_8_1, q25_8_2, x25_9, q25_9_0, x25_10, q25_10_0, q25_10_1, x25_11, q25_11_0, q25_11_1, x25_12, q25_12_0, x25_13, q25_13_0, h13, esc_13, crashP, c1, encDr, zeroK]
  | true =>
    rw [c1] at h13
    simp at h13
    have hc := checkP_iff.1 c1
    simp [m25, x25_0, q25_0_0, x25_1, q25_1_0, x25_2, q25_2_0, x25_3, q25_3_0, x25_4, q25_4_0, x25_5, q25_5_0, x25_6, q25_6_0, x25_7, q25_7_0, x25_8, q25_8_0, q25_8_1, q25_8_2, x25_9, q25_9_0, x25_10, q25_10_0, q25_10_1, x25_11, q25_11_0, q25_11_1, x25_12, q25_12_0, x25_13, q25_13_0, h13, esc_13]
    simp only [Option.bind_assoc]
    refine (loop_cont (e25 d ks o) (s25 d ks) d.files.length (fun _ => True) (fun _ => some (encDr (crashP d ks), ([] : St))) trivial (fun _ => ?_) fun i hi _ => ?_)
    · simp [l25_0, m25, x25_0, q25_0_0, x25_1, q25_1_0, x25_2, q25_2_0, x25_3, q25_3_0, x25_4, q25_4_0, x25_5, q25_5_0, x25_6, q25_6_0, x25_7, q25_7_0, x25_8, q25_8_0, q25_8_1, q25_8_2, x25_9, q25_9_0, x25_10, q25_10_0, q25_10_1, x25_11, q25_11_0, q25_11_1, x25_12, q25_12_0, x25_13, q25_13_0, e25, s25, z17, crashP, c1, encDr]
    · have hx := List.getElem_mem hi
      have hl := hc.len
      have hg := goodF_get (checkL_mem hc.files _ hx).2.2
      have hsr := sureK_rng hg.2 (ks.drop i)
      have hb := hc.ok.b _ hx
      have hw : IntKind.wrap .i64 ((i : Int) + 1) = i + 1 := wrap64 (by omega) (by omega)
      have hct := crashL_take d.files ks i hi
      have hcl := crashL_len (d.files.take i) ks
      have hcl2 : (crashL (d.files.take i) ks).length ≤ 64 := by rw [List.length_take] at hcl; omega
      have hw1 : IntKind.wrap .i64 (((d.files[i]).b.length : Int) - (d.files[i]).sure) = ((d.files[i]).b.length : Int) - (d.files[i]).sure := wrap64 (by omega) (by omega)
      refine .inl ⟨?_, trivial, rfl⟩
      by_cases c2 : i < ks.length
      · have e2 : ((i : Int) < ks.length) = True := eq_true (by omega)
        have hdr : ks.drop i = ks[i] :: ks.drop (i + 1) := List.drop_eq_getElem_cons c2
        rw [hdr] at hct hsr
        have hsk : sureK d.files[i] (ks[i] :: ks.drop (i + 1)) = kept d.files[i] ks[i] := rfl
        rw [hsk] at hsr
        have hw2 : IntKind.wrap .i64 (kept d.files[i] ks[i]) = kept d.files[i] ks[i] := wrap64 (by omega) (by omega)
        simp only [kept] at hw2
        by_cases c3 : 0 < kept d.files[i] ks[i]
        · have hc1 : crash1 d.files[i] (ks[i] :: ks.drop (i + 1)) = [⟨(d.files[i]).name, (d.files[i]).b.take (kept d.files[i] ks[i]).toNat, kept d.files[i] ks[i]⟩] := by unfold crash1; rw [hsk, if_pos c3]
          rw [hc1] at hct
          have e3 : ((kept d.files[i] ks[i]).toNat ≤ (d.files[i]).b.length) = True := eq_true (by omega)
          have e4 : (0 ≤ kept d.files[i] ks[i]) = True := eq_true (by omega)
          have a1 := appD_ok (esz := 3) (bytes := 40) (xs := (crashL (d.files.take i) ks).map encF) (ys := [encF ⟨(d.files[i]).name, (d.files[i]).b.take (kept d.files[i] ks[i]).toNat, kept d.files[i] ks[i]⟩]) (by simp only [List.length_map, List.length_cons, List.length_nil]; omega) (rows_encF _) (rows_encF [_])
          simp only [kept] at c3 hct e3 e4 a1
          simp at a1
          simp [l25_0, m25, x25_0, q25_0_0, x25_1, q25_1_0, x25_2, q25_2_0, x25_3, q25_3_0, x25_4, q25_4_0, x25_5, q25_5_0, x25_6, q25_6_0, x25_7, q25_7_0, x25_8, q25_8_0, q25_8_1, q25_8_2, x25_9, q25_9_0, x25_10, q25_10_0, q25_10_1, x25_11, q25_11_0, q25_11_1, x25_12, q25_12_0, x25_13, q25_13_0, e25, s25, z17, hi, hw, e2, c2, hw1, hw2, c3, e3, e4, a1, hct]
        · have hc1 : crash1 d.files[i] (ks[i] :: ks.drop (i + 1)) = [] := by unfold crash1; rw [hsk, if_neg c3]
          rw [hc1, List.append_nil] at hct
          simp only [kept] at c3
          simp [l25_0, m25, x25_0, q25_0_0, x25_1, q25_1_0, x25_2, q25_2_0, x25_3, q25_3_0, x25_4, q25_4_0, x25_5, q25_5_0, x25_6, q25_6_0, x25_7, q25_7_0, x25_8, q25_8_0, q25_8_1, q25_8_2, x25_9, q25_9_0, x25_10, q25_10_0, q25_10_1, x25_11, q25_11_0, q25_11_1, x25_12, q25_12_0, x25_13, q25_13_0, e25, s25, z17, hi, hw, e2, c2, hw1, hw2, c3, hct]
      · have e2 : ((i : Int) < ks.length) = False := eq_false (by omega)
        rw [List.drop_eq_nil_of_le (by omega)] at hct hsr
        by_cases c3 : 0 < (d.files[i]).sure
        · have hc1 : crash1 d.files[i] [] = [⟨(d.files[i]).name, (d.files[i]).b.take ((d.files[i]).sure).toNat, (d.files[i]).sure⟩] := by unfold crash1 sureK; simp only; rw [if_pos c3]
          rw [hc1] at hct
          have e3 : (((d.files[i]).sure).toNat ≤ (d.files[i]).b.length) = True := eq_true (by omega)
          have e4 : (0 ≤ (d.files[i]).sure) = True := eq_true (by omega)
          have a1 := appD_ok (esz := 3) (bytes := 40) (xs := (crashL (d.files.take i) ks).map encF) (ys := [encF ⟨(d.files[i]).name, (d.files[i]).b.take ((d.files[i]).sure).toNat, (d.files[i]).sure⟩]) (by simp only [List.length_map, List.length_cons, List.length_nil]; omega) (rows_encF _) (rows_encF [_])
          simp at a1
          simp [l25_0, m25, x25_0, q25_0_0, x25_1, q25_1_0, x25_2, q25_2_0, x25_3, q25_3_0, x25_4, q25_4_0, x25_5, q25_5_0, x25_6, q25_6_0, x25_7, q25_7_0, x25_8, q25_8_0, q25_8_1, q25_8_2, x25_9, q25_9_0, x25_10, q25_10_0, q25_10_1, x25_11, q25_11_0, q25_11_1, x25_12, q25_12_0, x25_13, q25_13_0, e25, s25, z17, hi, hw, e2, hw1, c3, e3, e4, a1, hct]
        · have hc1 : crash1 d.files[i] [] = [] := by unfold crash1 sureK; simp only; rw [if_neg c3]
          rw [hc1, List.append_nil] at hct
          simp [l25_0, m25, x25_0, q25_0_0, x25_1, q25_1_0, x25_2, q25_2_0, x25_3, q25_3_0, x25_4, q25_4_0, x25_5, q25_5_0, x25_6, q25_6_0, x25_7, q25_7_0, x25_8, q25_8_0, q25_8_1, q25_8_2, x25_9, q25_9_0, x25_10, q25_10_0, q25_10_1, x25_11, q25_11_0, q25_11_1, x25_12, q25_12_0, x25_13, q25_13_0, e25, s25, z17, hi, hw, e2, hw1, c3, hct]
end Go.Mir.D
