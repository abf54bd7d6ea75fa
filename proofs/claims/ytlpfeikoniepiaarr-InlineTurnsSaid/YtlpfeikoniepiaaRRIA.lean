import Derived.Test.YtlpfeikoniepiaaRRL25
import Derived.Test.YtlpfeikoniepiaaRRL26
import Derived.Test.YtlpfeikoniepiaaRRP2
import Derived.Test.YtlpfeikoniepiaaRRMirIn
set_option linter.all false
namespace Go.Mir.A
attribute [local congr] bind_head
attribute [local simp] encW encO encPt encE under_encB under_encW under_encO under_encE rowsOk_B rowsOk_W rowsOk_O rowsOk_E gc ofCells bindArgs resD St.get St.set Dat.underL Dat.underLL gc_self fillD elemsD rowsOk_nil rowsOk_cons rowsOk_app rowsOk_tk rowsOk_dp rowsOk_tl underLL_tl underLL_app underLL_tk underLL_dp nn1 nn2 take_rest take_full appD_nil Option.bind_some strip_undef strip1_undef norm_undef noTup_undef safe_undef cells_undef under_undef strip_int strip1_int norm_int noTup_int safe_int cells_int under_int strip_bool strip1_bool norm_bool noTup_bool safe_bool cells_bool under_bool strip_str strip1_str norm_str noTup_str safe_str cells_str under_str strip_agg strip1_agg norm_agg noTup_agg safe_agg cells_agg under_agg strip_tup strip1_tup norm_tup noTup_tup safe_tup cells_tup under_tup strip_slice strip1_slice norm_slice noTup_slice safe_slice cells_slice under_slice strip_nilp strip1_nilp norm_nilp noTup_nilp safe_nilp cells_nilp under_nilp strip_ptr strip1_ptr norm_ptr noTup_ptr safe_ptr cells_ptr under_ptr strip_rptr strip1_rptr norm_rptr noTup_rptr safe_rptr cells_rptr under_rptr strip_fn strip1_fn norm_fn noTup_fn safe_fn cells_fn under_fn strip_nilf strip1_nilf norm_nilf noTup_nilf safe_nilf cells_nilf under_nilf strip_iface strip1_iface norm_iface noTup_iface safe_iface cells_iface under_iface strip_nili strip1_nili norm_nili noTup_nili safe_nili cells_nili under_nili bin_add bin_sub bin_mul bin_quo bin_rem bin_eql bin_neq bin_lss bin_leq bin_gtr bin_geq bin_and bin_or bin_xor bin_andNot bin_shl bin_shr sbin_add sbin_eql sbin_neq sbin_lss sbin_leq sbin_gtr sbin_geq load_ptr load_rptr cellEq_int cellEq_bool cellEq_str cellsEq_nil cellsEq_cons rows_sl rows_str packD_one packD_nil packD_two leave_ret leave_normal leave_exit seqK_normal seqK_exit seqK_ret blockK_normal blockK_exit blockK_ret condK_bool exec_skip exec_exit exec_ret exec_loop exec_seq exec_block exec_cond ev_tmp ev_lit evs_nil evs_cons takeK_some take_tmp take_lit zk_eq keepK_some keepK_none keep_nil keep_cons putD_some putD_none put_eq get_nil get_cons steps_nil steps_cons step_none guardK_t guardK_f guardK_undef step_some pickV_bool eo_pick loadmV_ptr loadmV_rptr eo_loadm eo_load storeV_ptr eo_store storefV_ptr eo_storef clearK_ptr clearK_rptr clearK_none clear_eq nilCheckV_ptr nilCheckV_rptr nilCheckV_fn eo_nilCheck eqsV_agg eo_eqs eqbV_bool eo_eqb unV_neg unV_not eo_un convV_int eo_conv boundK_int bound_none bound_some sliceV_slice eo_slice substrV_str eo_substr fieldAddrV_ptr fieldAddrV_rptr eo_fieldAddr fieldV_agg eo_field indexV_slice eo_index indexArrV_ptr indexArrV_rptr eo_indexArr atV_str eo_at extractV_tup eo_extract extractnV_tup eo_extractn callV_fn eo_call callcV_fn eo_callc callrV_fn eo_callr callR_eq beq_st loadrV_rptr eo_loadr lenV_slice lenV_str eo_len appV_slice eo_append minV_int maxV_int eo_min2 eo_max2 eo_mov_t eo_mov_f eo_alloc eo_box eo_build eo_buildSlice eo_bin eo_mkfn callD_eq callC_eq encPs encP encB encS encR under_encP under_encS under_encR rowsOk_S rowsOk_P rowsOk_R
set_option linter.unusedSimpArgs false
set_option linter.unusedVariables false
set_option maxHeartbeats 1000000
set_option maxRecDepth 4000

theorem t24 : run tab 24 [] [] = some (.bool true, []) := run_of_runF (k := 60) (by kernel_rfl)

section
variable (l : List Opn) (F id : Nat) (q : Opn → Bool) (c : List Dat) (σ : St)
def e78 (i : Nat) : Env := [(1, .fn F [.ptr id 0]), (4, .slice true (((l.take i).filter q).map encO)), (7, .slice false (l.map encO)), (8, .int .i64 l.length), (9, .int .i64 i)]
theorem t78 (hl : l.length ≤ 1000000) (hq : ∀ (p : Opn) (σ' : St), St.get σ' id = some c → id < σ'.length → run tab F [.agg (encO p), .ptr id 0] σ' = some (.bool (q p), σ')) (hσ : St.get σ id = some c) :
    run tab 78 [.slice false (l.map encO), .fn F [.ptr id 0]] σ = some (.slice true ((l.filter q).map encO), σ) := by
  have hid := St.get_lt hσ
  rw [run_eq, tab_78]
  simp [m78, x78_0, q78_0_0, x78_1, q78_1_0, x78_2, q78_2_0, x78_3, q78_3_0, x78_4, q78_4_0, x78_5, q78_5_0, x78_6, q78_6_0, x78_7, q78_7_0, gc_self, hid]
  simp only [Option.bind_assoc]
  refine (loop_cont (e78 l F id q) (fun _ => σ) l.length (fun _ => True) (fun _ => some (Dat.slice true ((l.filter q).map encO), σ)) trivial (fun _ => ?_) fun i hi _ => ?_)
  · simp [l78_0, m78, x78_0, q78_0_0, x78_1, q78_1_0, x78_2, q78_2_0, x78_3, q78_3_0, x78_4, q78_4_0, x78_5, q78_5_0, x78_6, q78_6_0, x78_7, q78_7_0, e78, gc_self, hid]
  · have hw : IntKind.wrap .i64 ((i : Int) + 1) = i + 1 := wrap64 (by omega) (by omega)
    have hc := hq l[i] (encO l[i] :: σ) (by rw [St.get_cons_old hid]; exact hσ) (by simp; omega)
    have hfs := filter_take q l i hi
    have hfl := filter_take_len q l i
    refine .inl ⟨?_, trivial, rfl⟩
    cases hqi : q l[i] with
    | true =>
      rw [hqi, if_pos rfl] at hfs
      rw [hqi] at hc
      have a1 := app_one (enc := encO) (n := 3) (bytes := 40) (fun _ => rfl) ((l.take i).filter q) l[i] (by omega)
      simp at hc a1
      simp [l78_0, m78, x78_0, q78_0_0, x78_1, q78_1_0, x78_2, q78_2_0, x78_3, q78_3_0, x78_4, q78_4_0, x78_5, q78_5_0, x78_6, q78_6_0, x78_7, q78_7_0, e78, hi, hw, gc_self, hid, hc, hfs, a1]
    | false =>
      rw [hqi] at hfs hc
      simp at hc hfs
      simp [l78_0, m78, x78_0, q78_0_0, x78_1, q78_1_0, x78_2, q78_2_0, x78_3, q78_3_0, x78_4, q78_4_0, x78_5, q78_5_0, x78_6, q78_6_0, x78_7, q78_7_0, e78, hi, hw, gc_self, hid, hc, hfs]
end
section
variable (l : List Row) (F id : Nat) (q : Row → Bool) (c : List Dat) (σ : St)
def e62 (i : Nat) : Env := [(1, .fn F [.ptr id 0]), (4, .slice true (((l.take i).filter q).map encW)), (7, .slice false (l.map encW)), (8, .int .i64 l.length), (9, .int .i64 i)]
theorem t62 (hl : l.length ≤ 2000000) (hq : ∀ (p : Row) (σ' : St), St.get σ' id = some c → id < σ'.length → run tab F [.agg (encW p), .ptr id 0] σ' = some (.bool (q p), σ')) (hσ : St.get σ id = some c) :
    run tab 62 [.slice false (l.map encW), .fn F [.ptr id 0]] σ = some (.slice true ((l.filter q).map encW), σ) := by
  have hid := St.get_lt hσ
  rw [run_eq, tab_62]
  simp [m62, x62_0, q62_0_0, x62_1, q62_1_0, x62_2, q62_2_0, x62_3, q62_3_0, x62_4, q62_4_0, x62_5, q62_5_0, x62_6, q62_6_0, x62_7, q62_7_0, gc_self, hid]
  simp only [Option.bind_assoc]
  refine (loop_cont (e62 l F id q) (fun _ => σ) l.length (fun _ => True) (fun _ => some (Dat.slice true ((l.filter q).map encW), σ)) trivial (fun _ => ?_) fun i hi _ => ?_)
  · simp [l62_0, m62, x62_0, q62_0_0, x62_1, q62_1_0, x62_2, q62_2_0, x62_3, q62_3_0, x62_4, q62_4_0, x62_5, q62_5_0, x62_6, q62_6_0, x62_7, q62_7_0, e62, gc_self, hid]
  · have hw : IntKind.wrap .i64 ((i : Int) + 1) = i + 1 := wrap64 (by omega) (by omega)
    have hc := hq l[i] (encW l[i] :: σ) (by rw [St.get_cons_old hid]; exact hσ) (by simp; omega)
    have hfs := filter_take q l i hi
    have hfl := filter_take_len q l i
    refine .inl ⟨?_, trivial, rfl⟩
    cases hqi : q l[i] with
    | true =>
      rw [hqi, if_pos rfl] at hfs
      rw [hqi] at hc
      have a1 := app_one (enc := encW) (n := 5) (bytes := 56) (fun _ => rfl) ((l.take i).filter q) l[i] (by omega)
      simp at hc a1
      simp [l62_0, m62, x62_0, q62_0_0, x62_1, q62_1_0, x62_2, q62_2_0, x62_3, q62_3_0, x62_4, q62_4_0, x62_5, q62_5_0, x62_6, q62_6_0, x62_7, q62_7_0, e62, hi, hw, gc_self, hid, hc, hfs, a1]
    | false =>
      rw [hqi] at hfs hc
      simp at hc hfs
      simp [l62_0, m62, x62_0, q62_0_0, x62_1, q62_1_0, x62_2, q62_2_0, x62_3, q62_3_0, x62_4, q62_4_0, x62_5, q62_5_0, x62_6, q62_6_0, x62_7, q62_7_0, e62, hi, hw, gc_self, hid, hc, hfs]
end
theorem t79 (o : Opn) (pid : Int) (id : Nat) (σ : St) (h : St.get σ id = some [.int .i64 pid]) (hid : id < σ.length) : run tab 79 [.agg (encO o), .ptr id 0] σ = some (.bool (decide (o.pid = pid)), σ) := by
  rw [run_eq, tab_79]
  simp [m79, x79_0, q79_0_0, x79_1, q79_1_0, h, hid, gc_self, show id ≠ σ.length by omega, show (id == σ.length) = false by simp; omega]
theorem t90 (o : Opn) (pid : Int) (id : Nat) (σ : St) (h : St.get σ id = some [.int .i64 pid]) (hid : id < σ.length) : run tab 90 [.agg (encO o), .ptr id 0] σ = some (.bool (!decide (o.pid = pid)), σ) := by
  rw [run_eq, tab_90]
  simp [m90, x90_0, q90_0_0, x90_1, q90_1_0, h, hid, gc_self, show id ≠ σ.length by omega, show (id == σ.length) = false by simp; omega]
theorem t88 (o x : Opn) (id : Nat) (σ : St) (h : St.get σ id = some (encO x)) (hid : id < σ.length) : run tab 88 [.agg (encO o), .ptr id 0] σ = some (.bool (decide (o.pid < x.pid)), σ) := by
  simp at h
  rw [run_eq, tab_88]
  simp [m88, x88_0, q88_0_0, x88_1, q88_1_0, h, hid, gc_self, show id ≠ σ.length by omega, show (id == σ.length) = false by simp; omega]
theorem t89 (o x : Opn) (id : Nat) (σ : St) (h : St.get σ id = some (encO x)) (hid : id < σ.length) : run tab 89 [.agg (encO o), .ptr id 0] σ = some (.bool (decide (x.pid < o.pid)), σ) := by
  simp at h
  rw [run_eq, tab_89]
  simp [m89, x89_0, q89_0_0, x89_1, q89_1_0, h, hid, gc_self, show id ≠ σ.length by omega, show (id == σ.length) = false by simp; omega]
theorem t85 (r : Row) (p : Part) (id : Nat) (σ : St) (h : St.get σ id = some (encPt p)) (hid : id < σ.length) : run tab 85 [.agg (encW r), .ptr id 0] σ = some (.bool (decide (p.start ≤ r.off)), σ) := by
  simp at h
  rw [run_eq, tab_85]
  simp [m85, x85_0, q85_0_0, x85_1, q85_1_0, h, hid, gc_self, show id ≠ σ.length by omega, show (id == σ.length) = false by simp; omega]
end Go.Mir.A
namespace Go.Mir.A
attribute [local congr] bind_head
attribute [local simp] encW encO encPt encE under_encB under_encW under_encO under_encE rowsOk_B rowsOk_W rowsOk_O rowsOk_E gc ofCells bindArgs resD St.get St.set Dat.underL Dat.underLL gc_self fillD elemsD rowsOk_nil rowsOk_cons rowsOk_app rowsOk_tk rowsOk_dp rowsOk_tl underLL_tl underLL_app underLL_tk underLL_dp nn1 nn2 take_rest take_full appD_nil Option.bind_some strip_undef strip1_undef norm_undef noTup_undef safe_undef cells_undef under_undef strip_int strip1_int norm_int noTup_int safe_int cells_int under_int strip_bool strip1_bool norm_bool noTup_bool safe_bool cells_bool under_bool strip_str strip1_str norm_str noTup_str safe_str cells_str under_str strip_agg strip1_agg norm_agg noTup_agg safe_agg cells_agg under_agg strip_tup strip1_tup norm_tup noTup_tup safe_tup cells_tup under_tup strip_slice strip1_slice norm_slice noTup_slice safe_slice cells_slice under_slice strip_nilp strip1_nilp norm_nilp noTup_nilp safe_nilp cells_nilp under_nilp strip_ptr strip1_ptr norm_ptr noTup_ptr safe_ptr cells_ptr under_ptr strip_rptr strip1_rptr norm_rptr noTup_rptr safe_rptr cells_rptr under_rptr strip_fn strip1_fn norm_fn noTup_fn safe_fn cells_fn under_fn strip_nilf strip1_nilf norm_nilf noTup_nilf safe_nilf cells_nilf under_nilf strip_iface strip1_iface norm_iface noTup_iface safe_iface cells_iface under_iface strip_nili strip1_nili norm_nili noTup_nili safe_nili cells_nili under_nili bin_add bin_sub bin_mul bin_quo bin_rem bin_eql bin_neq bin_lss bin_leq bin_gtr bin_geq bin_and bin_or bin_xor bin_andNot bin_shl bin_shr sbin_add sbin_eql sbin_neq sbin_lss sbin_leq sbin_gtr sbin_geq load_ptr load_rptr cellEq_int cellEq_bool cellEq_str cellsEq_nil cellsEq_cons rows_sl rows_str packD_one packD_nil packD_two leave_ret leave_normal leave_exit seqK_normal seqK_exit seqK_ret blockK_normal blockK_exit blockK_ret condK_bool exec_skip exec_exit exec_ret exec_loop exec_seq exec_block exec_cond ev_tmp ev_lit evs_nil evs_cons takeK_some take_tmp take_lit zk_eq keepK_some keepK_none keep_nil keep_cons putD_some putD_none put_eq get_nil get_cons steps_nil steps_cons step_none guardK_t guardK_f guardK_undef step_some pickV_bool eo_pick loadmV_ptr loadmV_rptr eo_loadm eo_load storeV_ptr eo_store storefV_ptr eo_storef clearK_ptr clearK_rptr clearK_none clear_eq nilCheckV_ptr nilCheckV_rptr nilCheckV_fn eo_nilCheck eqsV_agg eo_eqs eqbV_bool eo_eqb unV_neg unV_not eo_un convV_int eo_conv boundK_int bound_none bound_some sliceV_slice eo_slice substrV_str eo_substr fieldAddrV_ptr fieldAddrV_rptr eo_fieldAddr fieldV_agg eo_field indexV_slice eo_index indexArrV_ptr indexArrV_rptr eo_indexArr atV_str eo_at extractV_tup eo_extract extractnV_tup eo_extractn callV_fn eo_call callcV_fn eo_callc callrV_fn eo_callr callR_eq beq_st loadrV_rptr eo_loadr lenV_slice lenV_str eo_len appV_slice eo_append minV_int maxV_int eo_min2 eo_max2 eo_mov_t eo_mov_f eo_alloc eo_box eo_build eo_buildSlice eo_bin eo_mkfn callD_eq callC_eq encPs encP encB encS encR under_encP under_encS under_encR rowsOk_S rowsOk_P rowsOk_R
set_option linter.unusedSimpArgs false
set_option linter.unusedVariables false
set_option maxHeartbeats 1000000
set_option maxRecDepth 4000

def openP (p : Part) (pid : Int) : Opn × Bool := match p.opn.filter fun o => decide (o.pid = pid) with
  | [] => (⟨pid, 0, []⟩, false)
  | o :: _ => (o, true)
theorem t65 (p : Part) (pid : Int) (hl : p.opn.length ≤ 1000000) : run tab 65 [.agg (encPt p), .int .i64 pid] [] = some (.tup [.agg (encO (openP p pid).1), .bool (openP p pid).2], []) := by
  have h78 := t78 p.opn 79 1 (fun o => decide (o.pid = pid)) [.int .i64 pid] [[.int .i64 0, .int .i64 0, .slice true []], [.int .i64 pid], encPt p] hl (fun o σ' h hid => t79 o pid 1 σ' h hid) (by simp)
  simp at h78
  rw [run_eq, tab_65]
  cases hf : p.opn.filter fun o => decide (o.pid = pid) with
  | nil =>
    rw [hf] at h78
    simp [m65, x65_0, q65_0_0, x65_1, q65_1_0, x65_2, q65_2_0, x65_3, q65_3_0, x65_4, q65_4_0, h78, openP, hf]
  | cons o r =>
    rw [hf] at h78
    simp at h78
    have : ¬ ((r.length : Int) + 1 = 0) := by omega
    simp [m65, x65_0, q65_0_0, x65_1, q65_1_0, x65_2, q65_2_0, x65_3, q65_3_0, x65_4, q65_4_0, h78, openP, hf, this]
def awayP (p : Part) (pid : Int) : Part := { p with opn := p.opn.filter fun o => !decide (o.pid = pid) }
theorem t84 (p : Part) (pid : Int) (hl : p.opn.length ≤ 1000000) : run tab 84 [.agg (encPt p), .int .i64 pid] [] = some (.agg (encPt (awayP p pid)), []) := by
  have h78 := t78 p.opn 90 1 (fun o => !decide (o.pid = pid)) [.int .i64 pid] [[.int .i64 0, .int .i64 0, .slice true [], .slice true [], .slice true []], [.int .i64 pid], encPt p] hl (fun o σ' h hid => t90 o pid 1 σ' h hid) (by simp)
  simp at h78
  rw [run_eq, tab_84]
  simp [m84, x84_0, q84_0_0, x84_1, q84_1_0, x84_2, q84_2_0, h78, awayP]
def withP (p : Part) (x : Opn) : Part := { p with opn := (p.opn.filter fun o => decide (o.pid < x.pid)) ++ [x] ++ p.opn.filter fun o => decide (x.pid < o.pid) }
theorem t83 (p : Part) (x : Opn) (hl : p.opn.length ≤ 1000000) : run tab 83 [.agg (encPt p), .agg (encO x)] [] = some (.agg (encPt (withP p x)), []) := by
  have ha := t78 p.opn 88 1 (fun o => decide (o.pid < x.pid)) (encO x) [[.int .i64 0, .int .i64 0, .slice true [], .slice true [], .slice true []], encO x, encPt p] hl (fun o σ' h hid => t88 o x 1 σ' h hid) (by simp)
  have hb := t78 p.opn 89 1 (fun o => decide (x.pid < o.pid)) (encO x) [[.int .i64 0, .int .i64 0, .slice true [], .slice true [], .slice true []], encO x, encPt p] hl (fun o σ' h hid => t89 o x 1 σ' h hid) (by simp)
  have la : (p.opn.filter fun o => decide (o.pid < x.pid)).length ≤ p.opn.length := List.length_filter_le ..
  have lb : (p.opn.filter fun o => decide (x.pid < o.pid)).length ≤ p.opn.length := List.length_filter_le ..
  have a1 := app_one (enc := encO) (n := 3) (bytes := 40) (fun _ => rfl) (p.opn.filter fun o => decide (o.pid < x.pid)) x (by omega)
  have a2 := app_all (enc := encO) (n := 3) (bytes := 40) (fun _ => rfl) ((p.opn.filter fun o => decide (o.pid < x.pid)) ++ [x]) (p.opn.filter fun o => decide (x.pid < o.pid)) (by simp; omega)
  simp at ha hb a1 a2
  rw [run_eq, tab_83]
  simp [m83, x83_0, q83_0_0, x83_1, q83_1_0, x83_2, q83_2_0, x83_3, q83_3_0, q83_3_1, x83_4, q83_4_0, ha, hb, a1, a2, withP]

def rowAt (b : Batch) (off : Int) (i : Nat) (r : Rec) : Row := ⟨if off = -1 then -1 else off + i, b.pid, b.seq + i, r.key, r.value⟩
def rowsB (b : Batch) (off : Int) : List Row := b.recs.mapIdx (rowAt b off)
theorem mapIdx_take {α β : Type} (f : Nat → α → β) (l : List α) (i : Nat) (h : i < l.length) : (l.take (i + 1)).mapIdx f = (l.take i).mapIdx f ++ [f i l[i]] := by
  rw [List.take_succ_eq_append_getElem h, List.mapIdx_append]
  simp [Nat.min_eq_left (Nat.le_of_lt h)]
theorem rowsB_len (b : Batch) (off : Int) : (rowsB b off).length = b.recs.length := by simp [rowsB]
def stepOf (off : Int) : Int := if off = -1 then 0 else 1
def e87 (b : Batch) (off : Int) (i : Nat) : Env := [(1, .int .i64 off), (2, .ptr 0 0), (4, .slice true (((b.recs.take i).mapIdx (rowAt b off)).map encW)), (5, .int .i64 (stepOf off)), (12, .int .i64 b.recs.length), (13, .int .i64 i)]
theorem t87 (b : Batch) (off : Int) (hl : b.recs.length ≤ 1000) (ho : -1 ≤ off ∧ off ≤ 1000000000) (hs : 0 ≤ b.seq ∧ b.seq ≤ 1000000000) : run tab 87 [.agg (encB b), .int .i64 off] [] = some (.slice false ((rowsB b off).map encW), []) := by
  have key : ∀ (cont : Ex × Env × St → Option (Dat × St)) (e0 : Env), e0 = e87 b off 0 → (∀ e : Env, e = [(1, .int .i64 off), (2, .ptr 0 0), (4, .slice true ((rowsB b off).map encW)), (5, .int .i64 (stepOf off)), (12, .int .i64 b.recs.length), (13, .int .i64 b.recs.length), (14, .bool false)] → cont (.exit 0, e, [encB b]) = some (.slice false ((rowsB b off).map encW), [])) →
      (loopW (exec (run tab) tab.esc loopW 0 l87_0) e0 [encB b]).bind cont = some (.slice false ((rowsB b off).map encW), []) := by
    intro cont e0 he0 hcont
    subst he0
    refine (loop_cont (e87 b off) (fun _ => [encB b]) b.recs.length (fun _ => True) (fun _ => some (Dat.slice false ((rowsB b off).map encW), ([] : St))) trivial (fun _ => ?_) fun i hi _ => ?_)
    · refine ⟨(.exit 0, _, [encB b]), ?_, by simp, hcont _ rfl⟩
      simp [l87_0, m87, x87_0, q87_0_0, x87_1, q87_1_0, x87_2, q87_2_0, x87_3, q87_3_0, x87_4, q87_4_0, x87_5, q87_5_0, x87_6, q87_6_0, x87_7, q87_7_0, q87_7_1, x87_8, q87_8_0, q87_8_1, q87_8_2, q87_8_3, x87_9, q87_9_0, x87_10, q87_10_0, e87, rowsB]
    · have hw : IntKind.wrap .i64 ((i : Int) + 1) = i + 1 := wrap64 (by omega) (by omega)
      have hw2 : IntKind.wrap .i64 (b.seq + i) = b.seq + i := wrap64 (by omega) (by omega)
      have hm := mapIdx_take (rowAt b off) b.recs i hi
      have a1 := app_one (enc := encW) (n := 5) (bytes := 56) (fun _ => rfl) ((b.recs.take i).mapIdx (rowAt b off)) (rowAt b off i b.recs[i]) (by rw [List.length_mapIdx, List.length_take]; omega)
      refine .inl ⟨?_, trivial, rfl⟩
      by_cases h1 : off = -1
      · subst h1
        have hw3 : IntKind.wrap .i64 (0 : Int) = 0 := by decide
        have hw4 : IntKind.wrap .i64 (-1 : Int) = -1 := by decide
        simp [rowAt] at a1
        simp [l87_0, m87, x87_0, q87_0_0, x87_1, q87_1_0, x87_2, q87_2_0, x87_3, q87_3_0, x87_4, q87_4_0, x87_5, q87_5_0, x87_6, q87_6_0, x87_7, q87_7_0, q87_7_1, x87_8, q87_8_0, q87_8_1, q87_8_2, q87_8_3, x87_9, q87_9_0, x87_10, q87_10_0, e87, hi, hw, hw2, hw3, hw4, stepOf, hm, rowAt, a1]
      · have hw3 : IntKind.wrap .i64 (i : Int) = i := wrap64 (by omega) (by omega)
        have hw4 : IntKind.wrap .i64 (off + i) = off + i := wrap64 (by omega) (by omega)
        simp [rowAt, h1] at a1
        simp [l87_0, m87, x87_0, q87_0_0, x87_1, q87_1_0, x87_2, q87_2_0, x87_3, q87_3_0, x87_4, q87_4_0, x87_5, q87_5_0, x87_6, q87_6_0, x87_7, q87_7_0, q87_7_1, x87_8, q87_8_0, q87_8_1, q87_8_2, q87_8_3, x87_9, q87_9_0, x87_10, q87_10_0, e87, hi, hw, hw2, hw3, hw4, stepOf, hm, rowAt, h1, a1]
  rw [run_eq, tab_87]
  by_cases h1 : off = -1
  · subst h1
    simp [m87, x87_0, q87_0_0, x87_1, q87_1_0, x87_2, q87_2_0, x87_3, q87_3_0, x87_4, q87_4_0, x87_5, q87_5_0, x87_6, q87_6_0, x87_7, q87_7_0, q87_7_1, x87_8, q87_8_0, q87_8_1, q87_8_2, q87_8_3, x87_9, q87_9_0, x87_10, q87_10_0]
    simp only [Option.bind_assoc]
    refine key _ _ rfl fun e he => ?_
    subst he
    simp [m87, x87_0, q87_0_0, x87_1, q87_1_0, x87_2, q87_2_0, x87_3, q87_3_0, x87_4, q87_4_0, x87_5, q87_5_0, x87_6, q87_6_0, x87_7, q87_7_0, q87_7_1, x87_8, q87_8_0, q87_8_1, q87_8_2, q87_8_3, x87_9, q87_9_0, x87_10, q87_10_0]
  · have h1' := eq_false h1
    have hs1 : stepOf off = 1 := by simp [stepOf, h1]
    simp [m87, x87_0, q87_0_0, x87_1, q87_1_0, x87_2, q87_2_0, x87_3, q87_3_0, x87_4, q87_4_0, x87_5, q87_5_0, x87_6, q87_6_0, x87_7, q87_7_0, q87_7_1, x87_8, q87_8_0, q87_8_1, q87_8_2, q87_8_3, x87_9, q87_9_0, x87_10, q87_10_0, h1']
    simp only [Option.bind_assoc]
    refine key _ _ (by rw [e87, hs1]; rfl) fun e he => ?_
    subst he
    simp [m87, x87_0, q87_0_0, x87_1, q87_1_0, x87_2, q87_2_0, x87_3, q87_3_0, x87_4, q87_4_0, x87_5, q87_5_0, x87_6, q87_6_0, x87_7, q87_7_0, q87_7_1, x87_8, q87_8_0, q87_8_1, q87_8_2, q87_8_3, x87_9, q87_9_0, x87_10, q87_10_0]
def addP (p : Part) (b : Batch) : Part := { p with rows := p.rows ++ rowsB b p.fin, fin := p.fin + b.recs.length }
theorem t82 (p : Part) (b : Batch) (hr : p.rows.length ≤ 2000000) (hl : b.recs.length ≤ 1000) (ho : 0 ≤ p.fin ∧ p.fin ≤ 1000000000) (hs : 0 ≤ b.seq ∧ b.seq ≤ 1000000000) : run tab 82 [.agg (encPt p), .agg (encB b)] [] = some (.agg (encPt (addP p b)), []) := by
  have h87 := t87 b p.fin hl (by omega) hs
  have a1 := app_all (enc := encW) (n := 5) (bytes := 56) (fun _ => rfl) p.rows (rowsB b p.fin) (by rw [rowsB_len]; omega)
  have hw : IntKind.wrap .i64 (p.fin + b.recs.length) = p.fin + b.recs.length := wrap64 (by omega) (by omega)
  simp at h87 a1
  rw [run_eq, tab_82]
  simp [m82, x82_0, q82_0_0, x82_1, q82_1_0, x82_2, q82_2_0, q82_2_1, x82_3, q82_3_0, q82_3_1, x82_4, q82_4_0, h87, esc_87, a1, hw, addP]
end Go.Mir.A
namespace Go.Mir.A
attribute [local congr] bind_head
attribute [local simp] encW encO encPt encE under_encB under_encW under_encO under_encE rowsOk_B rowsOk_W rowsOk_O rowsOk_E gc ofCells bindArgs resD St.get St.set Dat.underL Dat.underLL gc_self fillD elemsD rowsOk_nil rowsOk_cons rowsOk_app rowsOk_tk rowsOk_dp rowsOk_tl underLL_tl underLL_app underLL_tk underLL_dp nn1 nn2 take_rest take_full appD_nil Option.bind_some strip_undef strip1_undef norm_undef noTup_undef safe_undef cells_undef under_undef strip_int strip1_int norm_int noTup_int safe_int cells_int under_int strip_bool strip1_bool norm_bool noTup_bool safe_bool cells_bool under_bool strip_str strip1_str norm_str noTup_str safe_str cells_str under_str strip_agg strip1_agg norm_agg noTup_agg safe_agg cells_agg under_agg strip_tup strip1_tup norm_tup noTup_tup safe_tup cells_tup under_tup strip_slice strip1_slice norm_slice noTup_slice safe_slice cells_slice under_slice strip_nilp strip1_nilp norm_nilp noTup_nilp safe_nilp cells_nilp under_nilp strip_ptr strip1_ptr norm_ptr noTup_ptr safe_ptr cells_ptr under_ptr strip_rptr strip1_rptr norm_rptr noTup_rptr safe_rptr cells_rptr under_rptr strip_fn strip1_fn norm_fn noTup_fn safe_fn cells_fn under_fn strip_nilf strip1_nilf norm_nilf noTup_nilf safe_nilf cells_nilf under_nilf strip_iface strip1_iface norm_iface noTup_iface safe_iface cells_iface under_iface strip_nili strip1_nili norm_nili noTup_nili safe_nili cells_nili under_nili bin_add bin_sub bin_mul bin_quo bin_rem bin_eql bin_neq bin_lss bin_leq bin_gtr bin_geq bin_and bin_or bin_xor bin_andNot bin_shl bin_shr sbin_add sbin_eql sbin_neq sbin_lss sbin_leq sbin_gtr sbin_geq load_ptr load_rptr cellEq_int cellEq_bool cellEq_str cellsEq_nil cellsEq_cons rows_sl rows_str packD_one packD_nil packD_two leave_ret leave_normal leave_exit seqK_normal seqK_exit seqK_ret blockK_normal blockK_exit blockK_ret condK_bool exec_skip exec_exit exec_ret exec_loop exec_seq exec_block exec_cond ev_tmp ev_lit evs_nil evs_cons takeK_some take_tmp take_lit zk_eq keepK_some keepK_none keep_nil keep_cons putD_some putD_none put_eq get_nil get_cons steps_nil steps_cons step_none guardK_t guardK_f guardK_undef step_some pickV_bool eo_pick loadmV_ptr loadmV_rptr eo_loadm eo_load storeV_ptr eo_store storefV_ptr eo_storef clearK_ptr clearK_rptr clearK_none clear_eq nilCheckV_ptr nilCheckV_rptr nilCheckV_fn eo_nilCheck eqsV_agg eo_eqs eqbV_bool eo_eqb unV_neg unV_not eo_un convV_int eo_conv boundK_int bound_none bound_some sliceV_slice eo_slice substrV_str eo_substr fieldAddrV_ptr fieldAddrV_rptr eo_fieldAddr fieldV_agg eo_field indexV_slice eo_index indexArrV_ptr indexArrV_rptr eo_indexArr atV_str eo_at extractV_tup eo_extract extractnV_tup eo_extractn callV_fn eo_call callcV_fn eo_callc callrV_fn eo_callr callR_eq beq_st loadrV_rptr eo_loadr lenV_slice lenV_str eo_len appV_slice eo_append minV_int maxV_int eo_min2 eo_max2 eo_mov_t eo_mov_f eo_alloc eo_box eo_build eo_buildSlice eo_bin eo_mkfn callD_eq callC_eq encPs encP encB encS encR under_encP under_encS under_encR rowsOk_S rowsOk_P rowsOk_R
set_option linter.unusedSimpArgs false
set_option linter.unusedVariables false
set_option maxHeartbeats 1000000
set_option maxRecDepth 4000

def sameRc (a b : Rec) : Bool := decide (a.key = b.key) && decide (a.value = b.value)
def sameRcs : List Rec → List Rec → Bool
  | [], [] => true
  | a :: x, b :: y => sameRc a b && sameRcs x y
  | _, _ => false
def sameBt (a b : Batch) : Bool := decide (a.pid = b.pid) && (decide (a.epoch = b.epoch) && (decide (a.seq = b.seq) && ((a.txn == b.txn) && (decide (a.recs.length = b.recs.length) && sameRcs a.recs b.recs))))
def e86 (a : Batch) (i : Nat) : Env := [(2, .ptr 0 0), (3, .ptr 1 0), (43, .int .i64 a.recs.length), (44, .int .i64 i)]
theorem t86 (a b : Batch) (hl : a.recs.length ≤ 9223372036854775807) : run tab 86 [.agg (encB a), .agg (encB b)] [] = some (.bool (sameBt a b), []) := by
  rw [run_eq, tab_86]
  by_cases h1 : a.pid = b.pid
  · by_cases h2 : a.epoch = b.epoch
    · by_cases h3 : a.seq = b.seq
      · by_cases h4 : a.txn = b.txn
        · have h4' : (a.txn == b.txn) = true := by simp [h4]
          by_cases h5 : a.recs.length = b.recs.length
          · have h5' : ((a.recs.length : Int) = b.recs.length) = True := eq_true (by omega)
            simp [m86, x86_0, q86_0_0, x86_1, q86_1_0, q86_1_1, q86_1_2, q86_1_3, q86_1_4, q86_1_5, x86_2, q86_2_0, x86_3, q86_3_0, x86_4, q86_4_0, x86_5, q86_5_0, x86_6, q86_6_0, q86_6_1, x86_7, q86_7_0, x86_8, q86_8_0, x86_9, q86_9_0, eq_true h1, eq_true h2, eq_true h3, h4', h5', eq_true h5, sameBt]
            simp only [Option.bind_assoc]
            refine (loop_cont (e86 a) (fun _ => [encB b, encB a]) a.recs.length (fun _ => True) (fun i => some (Dat.bool (sameRcs (a.recs.drop i) (b.recs.drop i)), [])) trivial (fun _ => ?_) fun i hi _ => ?_)
            · rw [List.drop_length, h5, List.drop_length]
              simp [l86_0, m86, x86_0, q86_0_0, x86_1, q86_1_0, q86_1_1, q86_1_2, q86_1_3, q86_1_4, q86_1_5, x86_2, q86_2_0, x86_3, q86_3_0, x86_4, q86_4_0, x86_5, q86_5_0, x86_6, q86_6_0, q86_6_1, x86_7, q86_7_0, x86_8, q86_8_0, x86_9, q86_9_0, e86, h5, sameRcs]
            · have hw : IntKind.wrap .i64 ((i : Int) + 1) = i + 1 := wrap64 (by omega) (by omega)
              have hi2 : i < b.recs.length := by omega
              rw [List.drop_eq_getElem_cons hi, List.drop_eq_getElem_cons hi2]
              cases hs : sameRc a.recs[i] b.recs[i] with
              | true =>
                have hs' := hs
                simp only [sameRc] at hs'
                refine .inl ⟨?_, trivial, ?_⟩
                · simp [l86_0, m86, x86_0, q86_0_0, x86_1, q86_1_0, q86_1_1, q86_1_2, q86_1_3, q86_1_4, q86_1_5, x86_2, q86_2_0, x86_3, q86_3_0, x86_4, q86_4_0, x86_5, q86_5_0, x86_6, q86_6_0, q86_6_1, x86_7, q86_7_0, x86_8, q86_8_0, x86_9, q86_9_0, e86, hi, hi2, hw, hs']
                · simp [sameRcs, hs]
              | false =>
                have hs' := hs
                simp only [sameRc] at hs'
                refine .inr ?_
                simp [l86_0, m86, x86_0, q86_0_0, x86_1, q86_1_0, q86_1_1, q86_1_2, q86_1_3, q86_1_4, q86_1_5, x86_2, q86_2_0, x86_3, q86_3_0, x86_4, q86_4_0, x86_5, q86_5_0, x86_6, q86_6_0, q86_6_1, x86_7, q86_7_0, x86_8, q86_8_0, x86_9, q86_9_0, e86, hi, hi2, hs', hs, sameRcs]
          · have h5' : ((a.recs.length : Int) = b.recs.length) = False := eq_false (by omega)
            simp [m86, x86_0, q86_0_0, x86_1, q86_1_0, q86_1_1, q86_1_2, q86_1_3, q86_1_4, q86_1_5, x86_2, q86_2_0, x86_3, q86_3_0, x86_4, q86_4_0, x86_5, q86_5_0, x86_6, q86_6_0, q86_6_1, x86_7, q86_7_0, x86_8, q86_8_0, x86_9, q86_9_0, eq_true h1, eq_true h2, eq_true h3, h4', h5', eq_false h5, sameBt]
        · have h4' : (a.txn == b.txn) = false := by simpa using h4
          simp [m86, x86_0, q86_0_0, x86_1, q86_1_0, q86_1_1, q86_1_2, q86_1_3, q86_1_4, q86_1_5, x86_2, q86_2_0, x86_3, q86_3_0, x86_4, q86_4_0, x86_5, q86_5_0, x86_6, q86_6_0, q86_6_1, x86_7, q86_7_0, x86_8, q86_8_0, x86_9, q86_9_0, eq_true h1, eq_true h2, eq_true h3, h4', sameBt]
      · simp [m86, x86_0, q86_0_0, x86_1, q86_1_0, q86_1_1, q86_1_2, q86_1_3, q86_1_4, q86_1_5, x86_2, q86_2_0, x86_3, q86_3_0, x86_4, q86_4_0, x86_5, q86_5_0, x86_6, q86_6_0, q86_6_1, x86_7, q86_7_0, x86_8, q86_8_0, x86_9, q86_9_0, eq_true h1, eq_true h2, eq_false h3, sameBt]
    · simp [m86, x86_0, q86_0_0, x86_1, q86_1_0, q86_1_1, q86_1_2, q86_1_3, q86_1_4, q86_1_5, x86_2, q86_2_0, x86_3, q86_3_0, x86_4, q86_4_0, x86_5, q86_5_0, x86_6, q86_6_0, q86_6_1, x86_7, q86_7_0, x86_8, q86_8_0, x86_9, q86_9_0, eq_true h1, eq_false h2, sameBt]
  · simp [m86, x86_0, q86_0_0, x86_1, q86_1_0, q86_1_1, q86_1_2, q86_1_3, q86_1_4, q86_1_5, x86_2, q86_2_0, x86_3, q86_3_0, x86_4, q86_4_0, x86_5, q86_5_0, x86_6, q86_6_0, q86_6_1, x86_7, q86_7_0, x86_8, q86_8_0, x86_9, q86_9_0, eq_false h1, sameBt]

def sameW (a b : Row) : Bool := decide (a.off = b.off) && (decide (a.pid = b.pid) && (decide (a.seq = b.seq) && (decide (a.key = b.key) && decide (a.value = b.value))))
def sameE (a b : Entry) : Bool := decide (a.kind = b.kind) && ((a.yes == b.yes) && (decide (a.nxt = b.nxt) && (decide (a.off = b.off) && (sameW a.row b.row && (sameBt a.b b.b && sameP a.prod b.prod)))))
theorem t76 (a b : Entry) (hl : a.b.recs.length ≤ 9223372036854775807) (hs : a.prod.seen.length ≤ 9223372036854775807) : run tab 76 [.agg (encE a), .agg (encE b)] [] = some (.bool (sameE a b), []) := by
  have h86 := t86 a.b b.b hl
  have h45 := t45 a.prod b.prod hs
  simp at h86 h45
  rw [run_eq, tab_76]
  by_cases h1 : a.kind = b.kind
  · cases h2 : a.yes == b.yes with
    | true =>
      by_cases h3 : a.nxt = b.nxt
      · by_cases h4 : a.off = b.off
        · cases h5 : sameW a.row b.row with
          | true =>
            have h5' := h5
            simp only [sameW] at h5'
            cases h6 : sameBt a.b b.b with
            | true =>
              rw [h6] at h86
              simp [m76, x76_0, q76_0_0, x76_1, q76_1_0, q76_1_1, q76_1_2, q76_1_3, q76_1_4, q76_1_5, q76_1_6, q76_1_7, eq_true h1, h2, eq_true h3, eq_true h4, h5', h86, esc_86, h45, esc_45, sameE, h5, h6]
            | false =>
              rw [h6] at h86
              simp [m76, x76_0, q76_0_0, x76_1, q76_1_0, q76_1_1, q76_1_2, q76_1_3, q76_1_4, q76_1_5, q76_1_6, q76_1_7, eq_true h1, h2, eq_true h3, eq_true h4, h5', h86, esc_86, sameE, h5, h6]
          | false =>
            have h5' := h5
            simp only [sameW] at h5'
            simp [m76, x76_0, q76_0_0, x76_1, q76_1_0, q76_1_1, q76_1_2, q76_1_3, q76_1_4, q76_1_5, q76_1_6, q76_1_7, eq_true h1, h2, eq_true h3, eq_true h4, h5', sameE, h5]
        · simp [m76, x76_0, q76_0_0, x76_1, q76_1_0, q76_1_1, q76_1_2, q76_1_3, q76_1_4, q76_1_5, q76_1_6, q76_1_7, eq_true h1, h2, eq_true h3, eq_false h4, sameE]
      · simp [m76, x76_0, q76_0_0, x76_1, q76_1_0, q76_1_1, q76_1_2, q76_1_3, q76_1_4, q76_1_5, q76_1_6, q76_1_7, eq_true h1, h2, eq_false h3, sameE]
    | false => simp [m76, x76_0, q76_0_0, x76_1, q76_1_0, q76_1_1, q76_1_2, q76_1_3, q76_1_4, q76_1_5, q76_1_6, q76_1_7, eq_true h1, h2, sameE]
  · simp [m76, x76_0, q76_0_0, x76_1, q76_1_0, q76_1_1, q76_1_2, q76_1_3, q76_1_4, q76_1_5, q76_1_6, q76_1_7, eq_false h1, sameE]

def zeroB : Batch := ⟨0, 0, 0, false, []⟩
def zeroW : Row := ⟨0, 0, 0, [], []⟩
def zeroE : Entry := ⟨0, zeroB, false, 0, 0, zeroW, zeroP⟩
def keptE (x : Entry) : Entry :=
  if x.kind = 3 then { zeroE with kind := 3, b := x.b, yes := x.yes, nxt := if x.yes then x.nxt else 0 }
  else if x.kind = 0 then { zeroE with kind := 0, b := x.b }
  else if x.kind = 1 then { zeroE with kind := 1, b := { zeroB with pid := x.b.pid, epoch := x.b.epoch }, yes := x.yes }
  else if x.kind = 4 then { zeroE with kind := 4, b := { zeroB with pid := x.b.pid, epoch := x.b.epoch }, nxt := x.nxt }
  else if x.kind = 2 then { zeroE with kind := 2, off := x.off }
  else if x.kind = 5 then { zeroE with kind := 5, row := { x.row with off := 0 } }
  else { zeroE with kind := 6, prod := x.prod }
theorem t77 (x : Entry) (hk : 0 ≤ x.kind ∧ x.kind ≤ 6) : run tab 77 [.ptr 0 0] [encE x] = some (.agg (encE (keptE x)), [encE x]) := by
  obtain ⟨kind, b, yes, nxt, off, row, prod⟩ := x
  simp only at hk
  rw [run_eq, tab_77]
  have : kind = 0 ∨ kind = 1 ∨ kind = 2 ∨ kind = 3 ∨ kind = 4 ∨ kind = 5 ∨ kind = 6 := by omega
  rcases this with rfl | rfl | rfl | rfl | rfl | rfl | rfl
  · simp [m77, x77_0, q77_0_0, x77_1, q77_1_0, x77_2, q77_2_0, x77_3, q77_3_0, x77_4, q77_4_0, x77_5, q77_5_0, x77_6, q77_6_0, x77_7, q77_7_0, x77_8, q77_8_0, x77_9, q77_9_0, x77_10, q77_10_0, x77_11, q77_11_0, x77_12, q77_12_0, x77_13, q77_13_0, x77_14, q77_14_0, q77_14_1, q77_14_2, q77_14_3, x77_15, q77_15_0, q77_15_1, q77_15_2, q77_15_3, x77_16, q77_16_0, x77_17, q77_17_0, x77_18, q77_18_0, x77_19, q77_19_0, x77_20, q77_20_0, keptE, zeroE, zeroB, zeroW, zeroP]
  · simp [m77, x77_0, q77_0_0, x77_1, q77_1_0, x77_2, q77_2_0, x77_3, q77_3_0, x77_4, q77_4_0, x77_5, q77_5_0, x77_6, q77_6_0, x77_7, q77_7_0, x77_8, q77_8_0, x77_9, q77_9_0, x77_10, q77_10_0, x77_11, q77_11_0, x77_12, q77_12_0, x77_13, q77_13_0, x77_14, q77_14_0, q77_14_1, q77_14_2, q77_14_3, x77_15, q77_15_0, q77_15_1, q77_15_2, q77_15_3, x77_16, q77_16_0, x77_17, q77_17_0, x77_18, q77_18_0, x77_19, q77_19_0, x77_20, q77_20_0, keptE, zeroE, zeroB, zeroW, zeroP]
  · simp [m77, x77_0, q77_0_0, x77_1, q77_1_0, x77_2, q77_2_0, x77_3, q77_3_0, x77_4, q77_4_0, x77_5, q77_5_0, x77_6, q77_6_0, x77_7, q77_7_0, x77_8, q77_8_0, x77_9, q77_9_0, x77_10, q77_10_0, x77_11, q77_11_0, x77_12, q77_12_0, x77_13, q77_13_0, x77_14, q77_14_0, q77_14_1, q77_14_2, q77_14_3, x77_15, q77_15_0, q77_15_1, q77_15_2, q77_15_3, x77_16, q77_16_0, x77_17, q77_17_0, x77_18, q77_18_0, x77_19, q77_19_0, x77_20, q77_20_0, keptE, zeroE, zeroB, zeroW, zeroP]
  · cases yes <;> simp [m77, x77_0, q77_0_0, x77_1, q77_1_0, x77_2, q77_2_0, x77_3, q77_3_0, x77_4, q77_4_0, x77_5, q77_5_0, x77_6, q77_6_0, x77_7, q77_7_0, x77_8, q77_8_0, x77_9, q77_9_0, x77_10, q77_10_0, x77_11, q77_11_0, x77_12, q77_12_0, x77_13, q77_13_0, x77_14, q77_14_0, q77_14_1, q77_14_2, q77_14_3, x77_15, q77_15_0, q77_15_1, q77_15_2, q77_15_3, x77_16, q77_16_0, x77_17, q77_17_0, x77_18, q77_18_0, x77_19, q77_19_0, x77_20, q77_20_0, keptE, zeroE, zeroB, zeroW, zeroP]
  · simp [m77, x77_0, q77_0_0, x77_1, q77_1_0, x77_2, q77_2_0, x77_3, q77_3_0, x77_4, q77_4_0, x77_5, q77_5_0, x77_6, q77_6_0, x77_7, q77_7_0, x77_8, q77_8_0, x77_9, q77_9_0, x77_10, q77_10_0, x77_11, q77_11_0, x77_12, q77_12_0, x77_13, q77_13_0, x77_14, q77_14_0, q77_14_1, q77_14_2, q77_14_3, x77_15, q77_15_0, q77_15_1, q77_15_2, q77_15_3, x77_16, q77_16_0, x77_17, q77_17_0, x77_18, q77_18_0, x77_19, q77_19_0, x77_20, q77_20_0, keptE, zeroE, zeroB, zeroW, zeroP]
  · simp [m77, x77_0, q77_0_0, x77_1, q77_1_0, x77_2, q77_2_0, x77_3, q77_3_0, x77_4, q77_4_0, x77_5, q77_5_0, x77_6, q77_6_0, x77_7, q77_7_0, x77_8, q77_8_0, x77_9, q77_9_0, x77_10, q77_10_0, x77_11, q77_11_0, x77_12, q77_12_0, x77_13, q77_13_0, x77_14, q77_14_0, q77_14_1, q77_14_2, q77_14_3, x77_15, q77_15_0, q77_15_1, q77_15_2, q77_15_3, x77_16, q77_16_0, x77_17, q77_17_0, x77_18, q77_18_0, x77_19, q77_19_0, x77_20, q77_20_0, keptE, zeroE, zeroB, zeroW, zeroP]
  · simp [m77, x77_0, q77_0_0, x77_1, q77_1_0, x77_2, q77_2_0, x77_3, q77_3_0, x77_4, q77_4_0, x77_5, q77_5_0, x77_6, q77_6_0, x77_7, q77_7_0, x77_8, q77_8_0, x77_9, q77_9_0, x77_10, q77_10_0, x77_11, q77_11_0, x77_12, q77_12_0, x77_13, q77_13_0, x77_14, q77_14_0, q77_14_1, q77_14_2, q77_14_3, x77_15, q77_15_0, q77_15_1, q77_15_2, q77_15_3, x77_16, q77_16_0, x77_17, q77_17_0, x77_18, q77_18_0, x77_19, q77_19_0, x77_20, q77_20_0, keptE, zeroE, zeroB, zeroW, zeroP]
end Go.Mir.A
