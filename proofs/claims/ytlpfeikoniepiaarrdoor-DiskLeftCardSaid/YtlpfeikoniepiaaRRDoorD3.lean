/- A file found, its place; whether an operation may be. -/
import Derived.Test.YtlpfeikoniepiaaRRDoorD2
set_option linter.all false
namespace Go.Mir.D
attribute [local congr] bind_head
attribute [local simp] gc ofCells bindArgs resD St.get St.set Dat.underL Dat.underLL gc_self fillD elemsD rowsOk_nil rowsOk_cons rowsOk_app rowsOk_tk rowsOk_dp rowsOk_tl underLL_tl underLL_app underLL_tk underLL_dp nn1 nn2 take_rest take_full appD_nil Option.bind_some strip_undef strip1_undef norm_undef noTup_undef safe_undef cells_undef under_undef strip_int strip1_int norm_int noTup_int safe_int cells_int under_int strip_bool strip1_bool norm_bool noTup_bool safe_bool cells_bool under_bool strip_str strip1_str norm_str noTup_str safe_str cells_str under_str strip_agg strip1_agg norm_agg noTup_agg safe_agg cells_agg under_agg strip_tup strip1_tup norm_tup noTup_tup safe_tup cells_tup under_tup strip_slice strip1_slice norm_slice noTup_slice safe_slice cells_slice under_slice strip_nilp strip1_nilp norm_nilp noTup_nilp safe_nilp cells_nilp under_nilp strip_ptr strip1_ptr norm_ptr noTup_ptr safe_ptr cells_ptr under_ptr strip_rptr strip1_rptr norm_rptr noTup_rptr safe_rptr cells_rptr under_rptr strip_fn strip1_fn norm_fn noTup_fn safe_fn cells_fn under_fn strip_nilf strip1_nilf norm_nilf noTup_nilf safe_nilf cells_nilf under_nilf strip_iface strip1_iface norm_iface noTup_iface safe_iface cells_iface under_iface strip_nili strip1_nili norm_nili noTup_nili safe_nili cells_nili under_nili bin_add bin_sub bin_mul bin_quo bin_rem bin_eql bin_neq bin_lss bin_leq bin_gtr bin_geq bin_and bin_or bin_xor bin_andNot bin_shl bin_shr sbin_add sbin_eql sbin_neq sbin_lss sbin_leq sbin_gtr sbin_geq load_ptr load_rptr cellEq_int cellEq_bool cellEq_str cellsEq_nil cellsEq_cons rows_sl rows_str packD_one packD_nil packD_two leave_ret leave_normal leave_exit seqK_normal seqK_exit seqK_ret blockK_normal blockK_exit blockK_ret condK_bool exec_skip exec_exit exec_ret exec_loop exec_seq exec_block exec_cond ev_tmp ev_lit evs_nil evs_cons takeK_some take_tmp take_lit zk_eq keepK_some keepK_none keep_nil keep_cons putD_some putD_none put_eq get_nil get_cons steps_nil steps_cons step_none guardK_t guardK_f guardK_undef step_some pickV_bool eo_pick loadmV_ptr loadmV_rptr eo_loadm eo_load storeV_ptr eo_store storefV_ptr eo_storef clearK_ptr clearK_rptr clearK_none clear_eq nilCheckV_ptr nilCheckV_rptr nilCheckV_fn eo_nilCheck eqsV_agg eo_eqs eqbV_bool eo_eqb unV_neg unV_not eo_un convV_int eo_conv boundK_int bound_none bound_some sliceV_slice eo_slice substrV_str eo_substr fieldAddrV_ptr fieldAddrV_rptr eo_fieldAddr fieldV_agg eo_field indexV_slice eo_index indexArrV_ptr indexArrV_rptr eo_indexArr atV_str eo_at extractV_tup eo_extract extractnV_tup eo_extractn callV_fn eo_call callcV_fn eo_callc callrV_fn eo_callr callR_eq beq_st loadrV_rptr eo_loadr lenV_slice lenV_str eo_len appV_slice eo_append minV_int maxV_int eo_min2 eo_max2 eo_mov_t eo_mov_f eo_alloc eo_box eo_build eo_buildSlice eo_bin eo_mkfn callD_eq callC_eq encF encK encWr under_encF under_encWr rowsOk_F rowsOk_Wr eo_nat eo_s2b eo_b2s s2bV_str b2sV_slice natD_idx
set_option linter.unusedSimpArgs false
set_option linter.unusedVariables false
set_option maxHeartbeats 1000000
set_option maxRecDepth 4000
set_option maxHeartbeats 4000000

def zeroF : FileD := ⟨[], [], 0⟩
def zeroK : DiskD := ⟨[], 0, 0, false⟩
theorem t43 (f : FileD) (name : Txt) (id : Nat) (σ : St) (h : St.get σ id = some [.str name]) (hid : id < σ.length) : run tab 43 [.agg (encF f), .ptr id 0] σ = some (.bool (decide (f.name = name)), σ) := by
  rw [run_eq, tab_43]
  simp [m43, x43_0, q43_0_0, x43_1, q43_1_0, h, hid, gc_self, show id ≠ σ.length by omega, show (id == σ.length) = false by simp; omega]
def idxF (l : List FileD) (name : Txt) : Int := if l.findIdx (fun f => decide (f.name = name)) < l.length then (l.findIdx (fun f => decide (f.name = name)) : Int) else -1
theorem findIdx_split {α : Type} (p : α → Bool) (l : List α) (i : Nat) (hi : i < l.length) (hI : i ≤ l.findIdx p) : if p l[i] = true then l.findIdx p = i else i + 1 ≤ l.findIdx p := by
  split
  · rename_i h
    exact Nat.le_antisymm (Nat.not_lt.1 fun h2 => by have := List.not_of_lt_findIdx h2; rw [h] at this; cases this) hI
  · rename_i h
    rcases Nat.lt_or_ge i (l.findIdx p) with h1 | h1
    · exact h1
    · have e : l.findIdx p = i := by omega
      exact absurd (by have := List.findIdx_getElem (p := p) (xs := l) (w := by omega); simpa [e] using this) h
theorem t42 (l : List FileD) (name : Txt) (id : Nat) (σ : St) (hl : l.length ≤ 1000000) (h : St.get σ id = some [.str name]) (hid : id < σ.length) :
    run tab 42 [.slice false (l.map encF), .fn 43 [.ptr id 0]] σ = some (.int .i64 (idxF l name), σ) := by
  have h0 : Dat.under 0 (Dat.ptr id 0) = false := by simp [Dat.under]
  rw [run_eq, tab_42]
  simp [m42, x42_0, q42_0_0, x42_1, q42_1_0, x42_2, q42_2_0, x42_3, q42_3_0, x42_4, q42_4_0, x42_5, q42_5_0, x42_6, q42_6_0, x42_7, q42_7_0]
  simp only [Option.bind_assoc]
  refine (loop_cont (fun i => [(0, .slice false (l.map encF)), (1, .fn 43 [.ptr id 0]), (7, .int .i64 l.length), (8, .int .i64 i)]) (fun _ => σ) l.length (fun i => i ≤ l.findIdx fun f => decide (f.name = name)) (fun _ => some (Dat.int .i64 (idxF l name), σ)) (Nat.zero_le _) (fun hI => ?_) fun i hi hI => ?_)
  · have hx : idxF l name = -1 := by unfold idxF; rw [if_neg (by omega)]
    simp [l42_0, m42, x42_0, q42_0_0, x42_1, q42_1_0, x42_2, q42_2_0, x42_3, q42_3_0, x42_4, q42_4_0, x42_5, q42_5_0, x42_6, q42_6_0, x42_7, q42_7_0, hx, gc_self]
  · have hw : IntKind.wrap .i64 ((i : Int) + 1) = i + 1 := wrap64 (by omega) (by omega)
    have hc := t43 l[i] name id σ h hid
    have hsp := findIdx_split (fun f : FileD => decide (f.name = name)) l i hi hI
    by_cases hp : (l[i]).name = name
    · rw [if_pos (by simpa using hp)] at hsp
      have hx : idxF l name = i := by unfold idxF; rw [hsp, if_pos hi]
      simp [hp] at hc
      refine .inr ?_
      simp [l42_0, m42, x42_0, q42_0_0, x42_1, q42_1_0, x42_2, q42_2_0, x42_3, q42_3_0, x42_4, q42_4_0, x42_5, q42_5_0, x42_6, q42_6_0, x42_7, q42_7_0, hi, hc, esc_43, hx, gc_self, hp]
    · rw [if_neg (by simpa using hp)] at hsp
      simp [hp] at hc
      refine .inl ⟨?_, hsp, rfl⟩
      simp [l42_0, m42, x42_0, q42_0_0, x42_1, q42_1_0, x42_2, q42_2_0, x42_3, q42_3_0, x42_4, q42_4_0, x42_5, q42_5_0, x42_6, q42_6_0, x42_7, q42_7_0, hi, hc, esc_43, hw, gc_self, hp]
def getP (l : List FileD) (name : Txt) : FileD × Bool := if h : l.findIdx (fun f => decide (f.name = name)) < l.length then (l[l.findIdx (fun f => decide (f.name = name))], true) else (zeroF, false)
def encG (x : FileD × Bool) : Dat := .tup [.agg (encF x.1), .bool x.2]
theorem t16 (d : DiskD) (name : Txt) (hl : d.files.length ≤ 1000000) : run tab 16 [.agg (encK d), .str name] [] = some (encG (getP d.files name), []) := by
  have h42 := t42 d.files name 1 [encF zeroF, [.str name], encK d] hl (by simp) (by simp)
  rw [run_eq, tab_16]
  simp [zeroF] at h42
  by_cases h : d.files.findIdx (fun f => decide (f.name = name)) < d.files.length
  · have hx : idxF d.files name = (d.files.findIdx (fun f => decide (f.name = name)) : Int) := if_pos h
    have h0 : ¬ ((d.files.findIdx (fun f => decide (f.name = name)) : Int) < 0) := by omega
    simp [hx] at h42
    simp [m16, x16_0, q16_0_0, x16_1, q16_1_0, x16_2, q16_2_0, x16_3, q16_3_0, x16_4, q16_4_0, q16_4_1, h42, esc_42, h0, h, getP, encG]
  · have hx : idxF d.files name = -1 := if_neg h
    simp [hx] at h42
    simp [m16, x16_0, q16_0_0, x16_1, q16_1_0, x16_2, q16_2_0, x16_3, q16_3_0, x16_4, q16_4_0, q16_4_1, h42, esc_42, h, getP, encG, zeroF]
theorem t46 (f : FileD) : run tab 46 [.rptr (encF f)] [] = some (.str f.name, []) := by
  rw [run_eq, tab_46]
  simp [m46, x46_0, q46_0_0, x46_1, q46_1_0]
def plIdx (l : List FileD) (name : Txt) : Nat := l.findIdx fun f => !less f.name name
def placeF (l : List FileD) (name : Txt) : Int × Bool := if h : plIdx l name < l.length then ((plIdx l name : Int), decide ((l[plIdx l name]).name = name)) else ((l.length : Int), false)
def encPl (x : Int × Bool) : Dat := .tup [.int .i64 x.1, .bool x.2]
theorem t45 (l : List FileD) (name : Txt) (hl : l.length ≤ 1000000) : run tab 45 [.slice false (l.map encF), .str name, .fn 46 []] [] = some (encPl (placeF l name), []) := by
  rw [run_eq, tab_45]
  simp [m45, x45_0, q45_0_0, x45_1, q45_1_0, x45_2, q45_2_0, x45_3, q45_3_0, x45_4, q45_4_0, x45_5, q45_5_0, x45_6, q45_6_0, x45_7, q45_7_0, x45_8, q45_8_0]
  simp only [Option.bind_assoc]
  refine (loop_cont (fun i => [(0, .slice false (l.map encF)), (1, .str name), (2, .fn 46 []), (11, .int .i64 l.length), (12, .int .i64 i)]) (fun _ => []) l.length (fun i => i ≤ plIdx l name) (fun _ => some (encPl (placeF l name), ([] : St))) (Nat.zero_le _) (fun hI => ?_) fun i hi hI => ?_)
  · have hx : placeF l name = ((l.length : Int), false) := by unfold placeF; rw [dif_neg (by omega)]
    simp [l45_0, m45, x45_0, q45_0_0, x45_1, q45_1_0, x45_2, q45_2_0, x45_3, q45_3_0, x45_4, q45_4_0, x45_5, q45_5_0, x45_6, q45_6_0, x45_7, q45_7_0, x45_8, q45_8_0, hx, encPl]
  · have hw : IntKind.wrap .i64 ((i : Int) + 1) = i + 1 := wrap64 (by omega) (by omega)
    have hc := t46 l[i]
    have hsp := findIdx_split (fun f : FileD => !less f.name name) l i hi hI
    cases hp : less (l[i]).name name with
    | false =>
      rw [if_pos (by simp [hp])] at hsp
      have hx : placeF l name = ((i : Int), decide ((l[i]).name = name)) := by
        have e : plIdx l name = i := hsp
        unfold placeF
        rw [dif_pos (by rw [e]; exact hi)]
        simp only [e]
      refine .inr ?_
      simp at hc
      simp [l45_0, m45, x45_0, q45_0_0, x45_1, q45_1_0, x45_2, q45_2_0, x45_3, q45_3_0, x45_4, q45_4_0, x45_5, q45_5_0, x45_6, q45_6_0, x45_7, q45_7_0, x45_8, q45_8_0, hi, hc, esc_46, hx, encPl, hp]
    | true =>
      rw [if_neg (by simp [hp])] at hsp
      refine .inl ⟨?_, hsp, rfl⟩
      simp at hc
      simp [l45_0, m45, x45_0, q45_0_0, x45_1, q45_1_0, x45_2, q45_2_0, x45_3, q45_3_0, x45_4, q45_4_0, x45_5, q45_5_0, x45_6, q45_6_0, x45_7, q45_7_0, x45_8, q45_8_0, hi, hc, esc_46, hw, hp]
def mayW (w : WriteD) : Bool := nameP w.file &&
  (if w.op = 0 ∨ w.op = 2 then !decide (w.b = []) && decide (w.n = 0) else if w.op = 3 then decide (w.b = []) && decide (0 ≤ w.n) else if w.op = 1 ∨ w.op = 4 then decide (w.b = []) && decide (w.n = 0) else false)
theorem t44 (w : WriteD) (id : Nat) (σ : St) (h : St.get σ id = some (encWr w)) (hid : id < σ.length) : run tab 44 [.ptr id 0] σ = some (.bool (mayW w), σ) := by
  have h14 := t14 w.file
  simp only [encWr] at h
  rw [run_eq, tab_44]
  cases c1 : nameP w.file with
  | false =>
    rw [c1] at h14
    simp [m44, x44_0, q44_0_0, x44_1, q44_1_0, x44_2, q44_2_0, x44_3, q44_3_0, x44_4, q44_4_0, x44_5, q44_5_0, x44_6, q44_6_0, q44_6_1, q44_6_2, x44_7, q44_7_0, x44_8, q44_8_0, q44_8_1, q44_8_2, x44_9, q44_9_0, x44_10, q44_10_0, x44_11, q44_11_0, q44_11_1, q44_11_2, x44_12, q44_12_0, h, h14, esc_14, mayW, c1, gc_self]
  | true =>
    rw [c1] at h14
    by_cases o0 : w.op = 0
    · by_cases c2 : w.b = []
      · simp [m44, x44_0, q44_0_0, x44_1, q44_1_0, x44_2, q44_2_0, x44_3, q44_3_0, x44_4, q44_4_0, x44_5, q44_5_0, x44_6, q44_6_0, q44_6_1, q44_6_2, x44_7, q44_7_0, x44_8, q44_8_0, q44_8_1, q44_8_2, x44_9, q44_9_0, x44_10, q44_10_0, x44_11, q44_11_0, q44_11_1, q44_11_2, x44_12, q44_12_0, h, h14, esc_14, mayW, c1, gc_self, o0, c2]
      · simp [m44, x44_0, q44_0_0, x44_1, q44_1_0, x44_2, q44_2_0, x44_3, q44_3_0, x44_4, q44_4_0, x44_5, q44_5_0, x44_6, q44_6_0, q44_6_1, q44_6_2, x44_7, q44_7_0, x44_8, q44_8_0, q44_8_1, q44_8_2, x44_9, q44_9_0, x44_10, q44_10_0, x44_11, q44_11_0, q44_11_1, q44_11_2, x44_12, q44_12_0, h, h14, esc_14, mayW, c1, gc_self, o0, c2]
    · by_cases o2 : w.op = 2
      · by_cases c2 : w.b = []
        · simp [m44, x44_0, q44_0_0, x44_1, q44_1_0, x44_2, q44_2_0, x44_3, q44_3_0, x44_4, q44_4_0, x44_5, q44_5_0, x44_6, q44_6_0, q44_6_1, q44_6_2, x44_7, q44_7_0, x44_8, q44_8_0, q44_8_1, q44_8_2, x44_9, q44_9_0, x44_10, q44_10_0, x44_11, q44_11_0, q44_11_1, q44_11_2, x44_12, q44_12_0, h, h14, esc_14, mayW, c1, gc_self, o2, c2]
        · simp [m44, x44_0, q44_0_0, x44_1, q44_1_0, x44_2, q44_2_0, x44_3, q44_3_0, x44_4, q44_4_0, x44_5, q44_5_0, x44_6, q44_6_0, q44_6_1, q44_6_2, x44_7, q44_7_0, x44_8, q44_8_0, q44_8_1, q44_8_2, x44_9, q44_9_0, x44_10, q44_10_0, x44_11, q44_11_0, q44_11_1, q44_11_2, x44_12, q44_12_0, h, h14, esc_14, mayW, c1, gc_self, o2, c2]
      · by_cases o3 : w.op = 3
        · by_cases c2 : w.b = []
          · simp [m44, x44_0, q44_0_0, x44_1, q44_1_0, x44_2, q44_2_0, x44_3, q44_3_0, x44_4, q44_4_0, x44_5, q44_5_0, x44_6, q44_6_0, q44_6_1, q44_6_2, x44_7, q44_7_0, x44_8, q44_8_0, q44_8_1, q44_8_2, x44_9, q44_9_0, x44_10, q44_10_0, x44_11, q44_11_0, q44_11_1, q44_11_2, x44_12, q44_12_0, h, h14, esc_14, mayW, c1, gc_self, o3, c2]
          · simp [m44, x44_0, q44_0_0, x44_1, q44_1_0, x44_2, q44_2_0, x44_3, q44_3_0, x44_4, q44_4_0, x44_5, q44_5_0, x44_6, q44_6_0, q44_6_1, q44_6_2, x44_7, q44_7_0, x44_8, q44_8_0, q44_8_1, q44_8_2, x44_9, q44_9_0, x44_10, q44_10_0, x44_11, q44_11_0, q44_11_1, q44_11_2, x44_12, q44_12_0, h, h14, esc_14, mayW, c1, gc_self, o3, c2]
        · by_cases o1 : w.op = 1
          · by_cases c2 : w.b = []
            · simp [m44, x44_0, q44_0_0, x44_1, q44_1_0, x44_2, q44_2_0, x44_3, q44_3_0, x44_4, q44_4_0, x44_5, q44_5_0, x44_6, q44_6_0, q44_6_1, q44_6_2, x44_7, q44_7_0, x44_8, q44_8_0, q44_8_1, q44_8_2, x44_9, q44_9_0, x44_10, q44_10_0, x44_11, q44_11_0, q44_11_1, q44_11_2, x44_12, q44_12_0, h, h14, esc_14, mayW, c1, gc_self, o1, c2]
            · simp [m44, x44_0, q44_0_0, x44_1, q44_1_0, x44_2, q44_2_0, x44_3, q44_3_0, x44_4, q44_4_0, x44_5, q44_5_0, x44_6, q44_6_0, q44_6_1, q44_6_2, x44_7, q44_7_0, x44_8, q44_8_0, q44_8_1, q44_8_2, x44_9, q44_9_0, x44_10, q44_10_0, x44_11, q44_11_0, q44_11_1, q44_11_2, x44_12, q44_12_0, h, h14, esc_14, mayW, c1, gc_self, o1, c2]
          · by_cases o4 : w.op = 4
            · by_cases c2 : w.b = []
              · simp [m44, x44_0, q44_0_0, x44_1, q44_1_0, x44_2, q44_2_0, x44_3, q44_3_0, x44_4, q44_4_0, x44_5, q44_5_0, x44_6, q44_6_0, q44_6_1, q44_6_2, x44_7, q44_7_0, x44_8, q44_8_0, q44_8_1, q44_8_2, x44_9, q44_9_0, x44_10, q44_10_0, x44_11, q44_11_0, q44_11_1, q44_11_2, x44_12, q44_12_0, h, h14, esc_14, mayW, c1, gc_self, o4, c2]
              · simp [m44, x44_0, q44_0_0, x44_1, q44_1_0, x44_2, q44_2_0, x44_3, q44_3_0, x44_4, q44_4_0, x44_5, q44_5_0, x44_6, q44_6_0, q44_6_1, q44_6_2, x44_7, q44_7_0, x44_8, q44_8_0, q44_8_1, q44_8_2, x44_9, q44_9_0, x44_10, q44_10_0, x44_11, q44_11_0, q44_11_1, q44_11_2, x44_12, q44_12_0, h, h14, esc_14, mayW, c1, gc_self, o4, c2]
            · simp [m44, x44_0, q44_0_0, x44_1, q44_1_0, x44_2, q44_2_0, x44_3, q44_3_0, x44_4, q44_4_0, x44_5, q44_5_0, x44_6, q44_6_0, q44_6_1, q44_6_2, x44_7, q44_7_0, x44_8, q44_8_0, q44_8_1, q44_8_2, x44_9, q44_9_0, x44_10, q44_10_0, x44_11, q44_11_0, q44_11_1, q44_11_2, x44_12, q44_12_0, h, h14, esc_14, mayW, c1, gc_self, o0, o1, o2, o3, o4]
end Go.Mir.D
