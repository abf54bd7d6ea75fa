import Derived.Test.YtlpfeikoniepiaaRRIB
import Derived.Test.YtlpfeikoniepiaaRRP3
set_option linter.all false
namespace Go.Mir.A
attribute [local congr] bind_head
attribute [local simp] encW encO encPt encE under_encB under_encW under_encO under_encE rowsOk_B rowsOk_W rowsOk_O rowsOk_E gc ofCells bindArgs resD St.get St.set Dat.underL Dat.underLL gc_self fillD elemsD rowsOk_nil rowsOk_cons rowsOk_app rowsOk_tk rowsOk_dp rowsOk_tl underLL_tl underLL_app underLL_tk underLL_dp nn1 nn2 take_rest take_full appD_nil Option.bind_some strip_undef strip1_undef norm_undef noTup_undef safe_undef cells_undef under_undef strip_int strip1_int norm_int noTup_int safe_int cells_int under_int strip_bool strip1_bool norm_bool noTup_bool safe_bool cells_bool under_bool strip_str strip1_str norm_str noTup_str safe_str cells_str under_str strip_agg strip1_agg norm_agg noTup_agg safe_agg cells_agg under_agg strip_tup strip1_tup norm_tup noTup_tup safe_tup cells_tup under_tup strip_slice strip1_slice norm_slice noTup_slice safe_slice cells_slice under_slice strip_nilp strip1_nilp norm_nilp noTup_nilp safe_nilp cells_nilp under_nilp strip_ptr strip1_ptr norm_ptr noTup_ptr safe_ptr cells_ptr under_ptr strip_rptr strip1_rptr norm_rptr noTup_rptr safe_rptr cells_rptr under_rptr strip_fn strip1_fn norm_fn noTup_fn safe_fn cells_fn under_fn strip_nilf strip1_nilf norm_nilf noTup_nilf safe_nilf cells_nilf under_nilf strip_iface strip1_iface norm_iface noTup_iface safe_iface cells_iface under_iface strip_nili strip1_nili norm_nili noTup_nili safe_nili cells_nili under_nili bin_add bin_sub bin_mul bin_quo bin_rem bin_eql bin_neq bin_lss bin_leq bin_gtr bin_geq bin_and bin_or bin_xor bin_andNot bin_shl bin_shr sbin_add sbin_eql sbin_neq sbin_lss sbin_leq sbin_gtr sbin_geq load_ptr load_rptr cellEq_int cellEq_bool cellEq_str cellsEq_nil cellsEq_cons rows_sl rows_str packD_one packD_nil packD_two leave_ret leave_normal leave_exit seqK_normal seqK_exit seqK_ret blockK_normal blockK_exit blockK_ret condK_bool exec_skip exec_exit exec_ret exec_loop exec_seq exec_block exec_cond ev_tmp ev_lit evs_nil evs_cons takeK_some take_tmp take_lit zk_eq keepK_some keepK_none keep_nil keep_cons putD_some putD_none put_eq get_nil get_cons steps_nil steps_cons step_none guardK_t guardK_f guardK_undef step_some pickV_bool eo_pick loadmV_ptr loadmV_rptr eo_loadm eo_load storeV_ptr eo_store storefV_ptr eo_storef clearK_ptr clearK_rptr clearK_none clear_eq nilCheckV_ptr nilCheckV_rptr nilCheckV_fn eo_nilCheck eqsV_agg eo_eqs eqbV_bool eo_eqb unV_neg unV_not eo_un convV_int eo_conv boundK_int bound_none bound_some sliceV_slice eo_slice substrV_str eo_substr fieldAddrV_ptr fieldAddrV_rptr eo_fieldAddr fieldV_agg eo_field indexV_slice eo_index indexArrV_ptr indexArrV_rptr eo_indexArr atV_str eo_at extractV_tup eo_extract extractnV_tup eo_extractn callV_fn eo_call callcV_fn eo_callc callrV_fn eo_callr callR_eq beq_st loadrV_rptr eo_loadr lenV_slice lenV_str eo_len appV_slice eo_append minV_int maxV_int eo_min2 eo_max2 eo_mov_t eo_mov_f eo_alloc eo_box eo_build eo_buildSlice eo_bin eo_mkfn callD_eq callC_eq encPs encP encB encS encR under_encP under_encS under_encR rowsOk_S rowsOk_P rowsOk_R
set_option linter.unusedSimpArgs false
set_option linter.unusedVariables false
set_option maxHeartbeats 1000000
set_option maxRecDepth 4000
set_option maxHeartbeats 4000000

def e61 (l : List Batch) (i : Nat) : Env := [(1, .fn 38 []), (4, .slice true (((l.take i).filter mayB).map encB)), (7, .slice false (l.map encB)), (8, .int .i64 l.length), (9, .int .i64 i)]
theorem t61 (l : List Batch) (hl : l.length ≤ 1000000) (hr : ∀ b ∈ l, b.recs.length ≤ 1000) : run tab 61 [.slice false (l.map encB), .fn 38 []] [] = some (.slice true ((l.filter mayB).map encB), []) := by
  rw [run_eq, tab_61]
  simp [m61, x61_0, q61_0_0, x61_1, q61_1_0, x61_2, q61_2_0, x61_3, q61_3_0, x61_4, q61_4_0, x61_5, q61_5_0, x61_6, q61_6_0, x61_7, q61_7_0]
  simp only [Option.bind_assoc]
  refine (loop_cont (e61 l) (fun _ => []) l.length (fun _ => True) (fun _ => some (Dat.slice true ((l.filter mayB).map encB), ([] : St))) trivial (fun _ => ?_) fun i hi _ => ?_)
  · simp [l61_0, m61, x61_0, q61_0_0, x61_1, q61_1_0, x61_2, q61_2_0, x61_3, q61_3_0, x61_4, q61_4_0, x61_5, q61_5_0, x61_6, q61_6_0, x61_7, q61_7_0, e61]
  · have hw : IntKind.wrap .i64 ((i : Int) + 1) = i + 1 := wrap64 (by omega) (by omega)
    have hc := t38 l[i] (hr _ (List.getElem_mem hi))
    have hfs := filter_take mayB l i hi
    have hfl := filter_take_len mayB l i
    refine .inl ⟨?_, trivial, rfl⟩
    cases hqi : mayB l[i] with
    | true =>
      rw [hqi, if_pos rfl] at hfs
      rw [hqi] at hc
      have a1 := app_one (enc := encB) (n := 5) (bytes := 56) (fun _ => rfl) ((l.take i).filter mayB) l[i] (by omega)
      simp at hc a1
      simp [l61_0, m61, x61_0, q61_0_0, x61_1, q61_1_0, x61_2, q61_2_0, x61_3, q61_3_0, x61_4, q61_4_0, x61_5, q61_5_0, x61_6, q61_6_0, x61_7, q61_7_0, e61, hi, hw, hc, esc_38, hfs, a1]
    | false =>
      rw [hqi] at hfs hc
      simp at hc hfs
      simp [l61_0, m61, x61_0, q61_0_0, x61_1, q61_1_0, x61_2, q61_2_0, x61_3, q61_3_0, x61_4, q61_4_0, x61_5, q61_5_0, x61_6, q61_6_0, x61_7, q61_7_0, e61, hi, hw, hc, esc_38, hfs]
def rowE (r : Row) : Entry := { zeroE with kind := 5, row := { r with off := 0 } }
def okRow (r : Row) : Bool := decide (-1 ≤ r.off) && (decide (r.off ≤ 1048576) && mayE (rowE r))
theorem t63 (r : Row) : run tab 63 [.agg (encW r)] [] = some (.bool (okRow r), []) := by
  have h64 := t64 (rowE r) (by simp [rowE, zeroE, zeroB]) (by simp [rowE, zeroE, zeroP])
  rw [run_eq, tab_63]
  by_cases h1 : -1 ≤ r.off
  · by_cases h2 : r.off ≤ 1048576
    · simp only [okRow, h1, h2, decide_true, Bool.true_and]
      simp [rowE, zeroE, zeroB, zeroP] at h64
      simp [m63, x63_0, q63_0_0, x63_1, q63_1_0, x63_2, q63_2_0, x63_3, q63_3_0, q63_3_1, h1, h2, h64, esc_64, rowE, zeroE, zeroB, zeroP]
    · simp [m63, x63_0, q63_0_0, x63_1, q63_1_0, x63_2, q63_2_0, x63_3, q63_3_0, q63_3_1, h1, h2, okRow]
  · simp [m63, x63_0, q63_0_0, x63_1, q63_1_0, x63_2, q63_2_0, x63_3, q63_3_0, q63_3_1, h1, okRow]
def e62n (l : List Row) (i : Nat) : Env := [(1, .fn 63 []), (4, .slice true (((l.take i).filter okRow).map encW)), (7, .slice false (l.map encW)), (8, .int .i64 l.length), (9, .int .i64 i)]
theorem t62n (l : List Row) (hl : l.length ≤ 2000000) : run tab 62 [.slice false (l.map encW), .fn 63 []] [] = some (.slice true ((l.filter okRow).map encW), []) := by
  rw [run_eq, tab_62]
  simp [m62, x62_0, q62_0_0, x62_1, q62_1_0, x62_2, q62_2_0, x62_3, q62_3_0, x62_4, q62_4_0, x62_5, q62_5_0, x62_6, q62_6_0, x62_7, q62_7_0]
  simp only [Option.bind_assoc]
  refine (loop_cont (e62n l) (fun _ => []) l.length (fun _ => True) (fun _ => some (Dat.slice true ((l.filter okRow).map encW), ([] : St))) trivial (fun _ => ?_) fun i hi _ => ?_)
  · simp [l62_0, m62, x62_0, q62_0_0, x62_1, q62_1_0, x62_2, q62_2_0, x62_3, q62_3_0, x62_4, q62_4_0, x62_5, q62_5_0, x62_6, q62_6_0, x62_7, q62_7_0, e62n]
  · have hw : IntKind.wrap .i64 ((i : Int) + 1) = i + 1 := wrap64 (by omega) (by omega)
    have hc := t63 l[i]
    have hfs := filter_take okRow l i hi
    have hfl := filter_take_len okRow l i
    refine .inl ⟨?_, trivial, rfl⟩
    cases hqi : okRow l[i] with
    | true =>
      rw [hqi, if_pos rfl] at hfs
      rw [hqi] at hc
      have a1 := app_one (enc := encW) (n := 5) (bytes := 56) (fun _ => rfl) ((l.take i).filter okRow) l[i] (by omega)
      simp at hc a1
      simp [l62_0, m62, x62_0, q62_0_0, x62_1, q62_1_0, x62_2, q62_2_0, x62_3, q62_3_0, x62_4, q62_4_0, x62_5, q62_5_0, x62_6, q62_6_0, x62_7, q62_7_0, e62n, hi, hw, hc, esc_63, hfs, a1]
    | false =>
      rw [hqi] at hfs hc
      simp at hc hfs
      simp [l62_0, m62, x62_0, q62_0_0, x62_1, q62_1_0, x62_2, q62_2_0, x62_3, q62_3_0, x62_4, q62_4_0, x62_5, q62_5_0, x62_6, q62_6_0, x62_7, q62_7_0, e62n, hi, hw, hc, esc_63, hfs]
/-- the pids rise -/
def risen : List Opn → Int → Bool
  | [], _ => true
  | o :: r, last => decide (last < o.pid) && risen r o.pid
def lastO (l : List Opn) : Nat → Int
  | 0 => 0
  | i + 1 => match l[i]? with
    | some o => o.pid
    | none => 0
def e49 (l : List Opn) (i : Nat) : Env := [(1, .ptr 0 0), (3, .int .i64 (lastO l i)), (8, .slice false (l.map encO)), (9, .int .i64 l.length), (10, .int .i64 i)]
theorem risen_at {l : List Opn} (h : risen l 0 = true) : ∀ i (hi : i < l.length), lastO l i < (l[i]).pid := by
  have key : ∀ (l : List Opn) (a : Int), risen l a = true → ∀ i (hi : i < l.length), (if i = 0 then a else lastO l i) < (l[i]).pid := by
    intro l
    induction l with
    | nil => intro a _ i hi; cases hi
    | cons o r ih =>
      intro a h i hi
      simp only [risen, Bool.and_eq_true, decide_eq_true_eq] at h
      cases i with
      | zero => simpa using h.1
      | succ i =>
        have := ih o.pid h.2 i (by simpa using hi)
        cases i with
        | zero => simpa [lastO] using this
        | succ i => simpa [lastO] using this
  intro i hi
  have := key l 0 h i hi
  cases i with
  | zero => simpa [lastO] using this
  | succ i => simpa using this
theorem t49 (p : Part) (h1 : risen p.opn 0 = true) (h2 : ∀ o ∈ p.opn, o.bats.length ≤ 1000 ∧ ∀ b ∈ o.bats, mayB b = true) (h3 : ∀ r ∈ p.rows, okRow r = true) (h4 : mayPs p.prods 0 = true) (ho : p.opn.length ≤ 1000000) (hr : p.rows.length ≤ 2000000) (hp : p.prods.length ≤ 1000000) : run tab 49 [.agg (encPt p)] [] = some (.bool true, []) := by
  have h62 := t62n p.rows hr
  have h19 := t19 p.prods (by omega) (fun q hq => by have := knownP_len (mayPs_mem h4 q hq); omega)
  rw [List.filter_eq_self.2 h3] at h62
  rw [h4] at h19
  simp at h62 h19
  rw [run_eq, tab_49]
  simp [m49, x49_0, q49_0_0, x49_1, q49_1_0, x49_2, q49_2_0, x49_3, q49_3_0, x49_4, q49_4_0, x49_5, q49_5_0, q49_5_1, q49_5_2, x49_6, q49_6_0, x49_7, q49_7_0, x49_8, q49_8_0, x49_9, q49_9_0, x49_10, q49_10_0, q49_10_1]
  simp only [Option.bind_assoc]
  refine (loop_cont (e49 p.opn) (fun _ => [encPt p]) p.opn.length (fun _ => True) (fun _ => some (Dat.bool true, ([] : St))) trivial (fun _ => ?_) fun i hi _ => ?_)
  · simp [l49_0, m49, x49_0, q49_0_0, x49_1, q49_1_0, x49_2, q49_2_0, x49_3, q49_3_0, x49_4, q49_4_0, x49_5, q49_5_0, q49_5_1, q49_5_2, x49_6, q49_6_0, x49_7, q49_7_0, x49_8, q49_8_0, x49_9, q49_9_0, x49_10, q49_10_0, q49_10_1, e49, h62, esc_62, h19, esc_19]
  · have hw : IntKind.wrap .i64 ((i : Int) + 1) = i + 1 := wrap64 (by omega) (by omega)
    have hx := List.getElem_mem hi
    have hle : lastO p.opn (i + 1) = (p.opn[i]).pid := by simp [lastO, hi]
    have hgt := risen_at h1 i hi
    have hgt' : ¬ (p.opn[i]).pid ≤ lastO p.opn i := by omega
    have h61 := t61 (p.opn[i]).bats (by have := (h2 _ hx).1; omega) (fun b hb => by have := (mayB_get ((h2 _ hx).2 b hb)).2.2.2.2.2.2.1; omega)
    rw [List.filter_eq_self.2 (h2 _ hx).2] at h61
    refine .inl ⟨?_, trivial, rfl⟩
    simp [l49_0, m49, x49_0, q49_0_0, x49_1, q49_1_0, x49_2, q49_2_0, x49_3, q49_3_0, x49_4, q49_4_0, x49_5, q49_5_0, q49_5_1, q49_5_2, x49_6, q49_6_0, x49_7, q49_7_0, x49_8, q49_8_0, x49_9, q49_9_0, x49_10, q49_10_0, q49_10_1, e49, hi, hw, hle, hgt', h61, esc_61]
end Go.Mir.A
namespace Go.Mir.A
attribute [local congr] bind_head
attribute [local simp] encW encO encPt encE under_encB under_encW under_encO under_encE rowsOk_B rowsOk_W rowsOk_O rowsOk_E gc ofCells bindArgs resD St.get St.set Dat.underL Dat.underLL gc_self fillD elemsD rowsOk_nil rowsOk_cons rowsOk_app rowsOk_tk rowsOk_dp rowsOk_tl underLL_tl underLL_app underLL_tk underLL_dp nn1 nn2 take_rest take_full appD_nil Option.bind_some strip_undef strip1_undef norm_undef noTup_undef safe_undef cells_undef under_undef strip_int strip1_int norm_int noTup_int safe_int cells_int under_int strip_bool strip1_bool norm_bool noTup_bool safe_bool cells_bool under_bool strip_str strip1_str norm_str noTup_str safe_str cells_str under_str strip_agg strip1_agg norm_agg noTup_agg safe_agg cells_agg under_agg strip_tup strip1_tup norm_tup noTup_tup safe_tup cells_tup under_tup strip_slice strip1_slice norm_slice noTup_slice safe_slice cells_slice under_slice strip_nilp strip1_nilp norm_nilp noTup_nilp safe_nilp cells_nilp under_nilp strip_ptr strip1_ptr norm_ptr noTup_ptr safe_ptr cells_ptr under_ptr strip_rptr strip1_rptr norm_rptr noTup_rptr safe_rptr cells_rptr under_rptr strip_fn strip1_fn norm_fn noTup_fn safe_fn cells_fn under_fn strip_nilf strip1_nilf norm_nilf noTup_nilf safe_nilf cells_nilf under_nilf strip_iface strip1_iface norm_iface noTup_iface safe_iface cells_iface under_iface strip_nili strip1_nili norm_nili noTup_nili safe_nili cells_nili under_nili bin_add bin_sub bin_mul bin_quo bin_rem bin_eql bin_neq bin_lss bin_leq bin_gtr bin_geq bin_and bin_or bin_xor bin_andNot bin_shl bin_shr sbin_add sbin_eql sbin_neq sbin_lss sbin_leq sbin_gtr sbin_geq load_ptr load_rptr cellEq_int cellEq_bool cellEq_str cellsEq_nil cellsEq_cons rows_sl rows_str packD_one packD_nil packD_two leave_ret leave_normal leave_exit seqK_normal seqK_exit seqK_ret blockK_normal blockK_exit blockK_ret condK_bool exec_skip exec_exit exec_ret exec_loop exec_seq exec_block exec_cond ev_tmp ev_lit evs_nil evs_cons takeK_some take_tmp take_lit zk_eq keepK_some keepK_none keep_nil keep_cons putD_some putD_none put_eq get_nil get_cons steps_nil steps_cons step_none guardK_t guardK_f guardK_undef step_some pickV_bool eo_pick loadmV_ptr loadmV_rptr eo_loadm eo_load storeV_ptr eo_store storefV_ptr eo_storef clearK_ptr clearK_rptr clearK_none clear_eq nilCheckV_ptr nilCheckV_rptr nilCheckV_fn eo_nilCheck eqsV_agg eo_eqs eqbV_bool eo_eqb unV_neg unV_not eo_un convV_int eo_conv boundK_int bound_none bound_some sliceV_slice eo_slice substrV_str eo_substr fieldAddrV_ptr fieldAddrV_rptr eo_fieldAddr fieldV_agg eo_field indexV_slice eo_index indexArrV_ptr indexArrV_rptr eo_indexArr atV_str eo_at extractV_tup eo_extract extractnV_tup eo_extractn callV_fn eo_call callcV_fn eo_callc callrV_fn eo_callr callR_eq beq_st loadrV_rptr eo_loadr lenV_slice lenV_str eo_len appV_slice eo_append minV_int maxV_int eo_min2 eo_max2 eo_mov_t eo_mov_f eo_alloc eo_box eo_build eo_buildSlice eo_bin eo_mkfn callD_eq callC_eq encPs encP encB encS encR under_encP under_encS under_encR rowsOk_S rowsOk_P rowsOk_R
set_option linter.unusedSimpArgs false
set_option linter.unusedVariables false
set_option maxHeartbeats 1000000
set_option maxRecDepth 4000
set_option maxHeartbeats 4000000

theorem t67 (s : Seen) (p : Prod) (id : Nat) (σ : St) (h : St.get σ id = some (encP p)) (hid : id < σ.length) : run tab 67 [.agg (encS s), .ptr id 0] σ = some (.bool (decide (s.seq < p.next)), σ) := by
  simp at h
  rw [run_eq, tab_67]
  simp [m67, x67_0, q67_0_0, x67_1, q67_1_0, h, hid, gc_self, show id ≠ σ.length by omega, show (id == σ.length) = false by simp; omega]
section
variable (l : List Seen) (F id : Nat) (q : Seen → Bool) (c : List Dat) (σ : St)
def e66 (i : Nat) : Env := [(1, .fn F [.ptr id 0]), (4, .slice true (((l.take i).filter q).map encS)), (7, .slice false (l.map encS)), (8, .int .i64 l.length), (9, .int .i64 i)]
theorem t66 (hl : l.length ≤ 1000000) (hq : ∀ (p : Seen) (σ' : St), St.get σ' id = some c → id < σ'.length → run tab F [.agg (encS p), .ptr id 0] σ' = some (.bool (q p), σ')) (hσ : St.get σ id = some c) :
    run tab 66 [.slice false (l.map encS), .fn F [.ptr id 0]] σ = some (.slice true ((l.filter q).map encS), σ) := by
  have hid := St.get_lt hσ
  rw [run_eq, tab_66]
  simp [m66, x66_0, q66_0_0, x66_1, q66_1_0, x66_2, q66_2_0, x66_3, q66_3_0, x66_4, q66_4_0, x66_5, q66_5_0, x66_6, q66_6_0, x66_7, q66_7_0, gc_self, hid]
  simp only [Option.bind_assoc]
  refine (loop_cont (e66 l F id q) (fun _ => σ) l.length (fun _ => True) (fun _ => some (Dat.slice true ((l.filter q).map encS), σ)) trivial (fun _ => ?_) fun i hi _ => ?_)
  · simp [l66_0, m66, x66_0, q66_0_0, x66_1, q66_1_0, x66_2, q66_2_0, x66_3, q66_3_0, x66_4, q66_4_0, x66_5, q66_5_0, x66_6, q66_6_0, x66_7, q66_7_0, e66, gc_self, hid]
  · have hw : IntKind.wrap .i64 ((i : Int) + 1) = i + 1 := wrap64 (by omega) (by omega)
    have hc := hq l[i] (encS l[i] :: σ) (by rw [St.get_cons_old hid]; exact hσ) (by simp; omega)
    have hfs := filter_take q l i hi
    have hfl := filter_take_len q l i
    refine .inl ⟨?_, trivial, rfl⟩
    cases hqi : q l[i] with
    | true =>
      rw [hqi, if_pos rfl] at hfs
      rw [hqi] at hc
      have a1 := app_one (enc := encS) (n := 3) (bytes := 24) (fun _ => rfl) ((l.take i).filter q) l[i] (by omega)
      simp at hc a1
      simp [l66_0, m66, x66_0, q66_0_0, x66_1, q66_1_0, x66_2, q66_2_0, x66_3, q66_3_0, x66_4, q66_4_0, x66_5, q66_5_0, x66_6, q66_6_0, x66_7, q66_7_0, e66, hi, hw, gc_self, hid, hc, hfs, a1]
    | false =>
      rw [hqi] at hfs hc
      simp at hc hfs
      simp [l66_0, m66, x66_0, q66_0_0, x66_1, q66_1_0, x66_2, q66_2_0, x66_3, q66_3_0, x66_4, q66_4_0, x66_5, q66_5_0, x66_6, q66_6_0, x66_7, q66_7_0, e66, hi, hw, gc_self, hid, hc, hfs]
end
/-- a producer, ahead of its open transaction -/
def aheadP (p : Part) (x : Prod) : Prod := match (openP p x.pid).1.bats with
  | [] => x
  | b :: _ => { x with next := b.seq, seen := x.seen.filter fun s => decide (s.seq < b.seq) }
theorem t50 (p : Part) (x : Prod) (ho : p.opn.length ≤ 1000000) (hs : x.seen.length ≤ 1000000) : run tab 50 [.agg (encPt p), .agg (encP x)] [] = some (.agg (encP (aheadP p x)), []) := by
  have h65 := t65 p x.pid ho
  simp at h65
  rw [run_eq, tab_50]
  cases hk : (openP p x.pid).2 with
  | false =>
    rw [hk] at h65
    have h0 := (openP_not hk).1
    simp [m50, x50_0, q50_0_0, x50_1, q50_1_0, q50_1_1, x50_2, q50_2_0, q50_2_1, x50_3, q50_3_0, x50_4, q50_4_0, q50_4_1, x50_5, q50_5_0, x50_6, q50_6_0, h65, esc_65, aheadP, h0]
  | true =>
    rw [hk] at h65
    cases hb : (openP p x.pid).1.bats with
    | nil =>
      rw [hb] at h65
      simp at h65
      simp [m50, x50_0, q50_0_0, x50_1, q50_1_0, q50_1_1, x50_2, q50_2_0, q50_2_1, x50_3, q50_3_0, x50_4, q50_4_0, q50_4_1, x50_5, q50_5_0, x50_6, q50_6_0, h65, esc_65, aheadP, hb]
    | cons b r =>
      rw [hb] at h65
      have h66 := t66 x.seen 67 1 (fun s => decide (s.seq < b.seq)) (encP { x with next := b.seq }) [[.int .i64 0, .int .i64 0, .int .i64 0, .slice true []], encP { x with next := b.seq }, encPt p] hs (fun s σ' h hid => t67 s _ 1 σ' h hid) (by simp)
      simp at h65 h66
      have hr : ¬ ((r.length : Int) + 1 = 0) := by omega
      simp [m50, x50_0, q50_0_0, x50_1, q50_1_0, q50_1_1, x50_2, q50_2_0, q50_2_1, x50_3, q50_3_0, x50_4, q50_4_0, q50_4_1, x50_5, q50_5_0, x50_6, q50_6_0, h65, esc_65, aheadP, hb, h66, hr]
end Go.Mir.A
namespace Go.Mir.A
attribute [local congr] bind_head
attribute [local simp] encW encO encPt encE under_encB under_encW under_encO under_encE rowsOk_B rowsOk_W rowsOk_O rowsOk_E gc ofCells bindArgs resD St.get St.set Dat.underL Dat.underLL gc_self fillD elemsD rowsOk_nil rowsOk_cons rowsOk_app rowsOk_tk rowsOk_dp rowsOk_tl underLL_tl underLL_app underLL_tk underLL_dp nn1 nn2 take_rest take_full appD_nil Option.bind_some strip_undef strip1_undef norm_undef noTup_undef safe_undef cells_undef under_undef strip_int strip1_int norm_int noTup_int safe_int cells_int under_int strip_bool strip1_bool norm_bool noTup_bool safe_bool cells_bool under_bool strip_str strip1_str norm_str noTup_str safe_str cells_str under_str strip_agg strip1_agg norm_agg noTup_agg safe_agg cells_agg under_agg strip_tup strip1_tup norm_tup noTup_tup safe_tup cells_tup under_tup strip_slice strip1_slice norm_slice noTup_slice safe_slice cells_slice under_slice strip_nilp strip1_nilp norm_nilp noTup_nilp safe_nilp cells_nilp under_nilp strip_ptr strip1_ptr norm_ptr noTup_ptr safe_ptr cells_ptr under_ptr strip_rptr strip1_rptr norm_rptr noTup_rptr safe_rptr cells_rptr under_rptr strip_fn strip1_fn norm_fn noTup_fn safe_fn cells_fn under_fn strip_nilf strip1_nilf norm_nilf noTup_nilf safe_nilf cells_nilf under_nilf strip_iface strip1_iface norm_iface noTup_iface safe_iface cells_iface under_iface strip_nili strip1_nili norm_nili noTup_nili safe_nili cells_nili under_nili bin_add bin_sub bin_mul bin_quo bin_rem bin_eql bin_neq bin_lss bin_leq bin_gtr bin_geq bin_and bin_or bin_xor bin_andNot bin_shl bin_shr sbin_add sbin_eql sbin_neq sbin_lss sbin_leq sbin_gtr sbin_geq load_ptr load_rptr cellEq_int cellEq_bool cellEq_str cellsEq_nil cellsEq_cons rows_sl rows_str packD_one packD_nil packD_two leave_ret leave_normal leave_exit seqK_normal seqK_exit seqK_ret blockK_normal blockK_exit blockK_ret condK_bool exec_skip exec_exit exec_ret exec_loop exec_seq exec_block exec_cond ev_tmp ev_lit evs_nil evs_cons takeK_some take_tmp take_lit zk_eq keepK_some keepK_none keep_nil keep_cons putD_some putD_none put_eq get_nil get_cons steps_nil steps_cons step_none guardK_t guardK_f guardK_undef step_some pickV_bool eo_pick loadmV_ptr loadmV_rptr eo_loadm eo_load storeV_ptr eo_store storefV_ptr eo_storef clearK_ptr clearK_rptr clearK_none clear_eq nilCheckV_ptr nilCheckV_rptr nilCheckV_fn eo_nilCheck eqsV_agg eo_eqs eqbV_bool eo_eqb unV_neg unV_not eo_un convV_int eo_conv boundK_int bound_none bound_some sliceV_slice eo_slice substrV_str eo_substr fieldAddrV_ptr fieldAddrV_rptr eo_fieldAddr fieldV_agg eo_field indexV_slice eo_index indexArrV_ptr indexArrV_rptr eo_indexArr atV_str eo_at extractV_tup eo_extract extractnV_tup eo_extractn callV_fn eo_call callcV_fn eo_callc callrV_fn eo_callr callR_eq beq_st loadrV_rptr eo_loadr lenV_slice lenV_str eo_len appV_slice eo_append minV_int maxV_int eo_min2 eo_max2 eo_mov_t eo_mov_f eo_alloc eo_box eo_build eo_buildSlice eo_bin eo_mkfn callD_eq callC_eq encPs encP encB encS encR under_encP under_encS under_encR rowsOk_S rowsOk_P rowsOk_R
set_option linter.unusedSimpArgs false
set_option linter.unusedVariables false
set_option maxHeartbeats 1000000
set_option maxRecDepth 4000
set_option maxHeartbeats 4000000

def stateE (p : Part) (x : Prod) : Entry := { zeroE with kind := 6, prod := aheadP p x }
def dataE (b : Batch) : Entry := { zeroE with kind := 0, b := b }
def openEs (l : List Opn) : List Entry := l.flatMap fun o => o.bats.map dataE
def logP (p : Part) : List Entry := p.rows.map rowE ++ (p.prods.map (stateE p) ++ openEs p.opn)
def logA (p : Part) (i : Nat) : List Entry := (p.rows.take i).map rowE
def logB (p : Part) (i : Nat) : List Entry := p.rows.map rowE ++ (p.prods.take i).map (stateE p)
def logC (p : Part) (i : Nat) : List Entry := p.rows.map rowE ++ (p.prods.map (stateE p) ++ openEs (p.opn.take i))
def logD (p : Part) (i : Nat) (l : List Batch) (k : Nat) : List Entry := logC p i ++ (l.take k).map dataE
theorem openEs_take (l : List Opn) (i : Nat) (hi : i < l.length) : openEs (l.take (i + 1)) = openEs (l.take i) ++ (l[i]).bats.map dataE := by
  unfold openEs
  rw [List.take_succ_eq_append_getElem hi, List.flatMap_append]
  simp
theorem openEs_len {l : List Opn} (h : ∀ o ∈ l, o.bats.length ≤ 8) : (openEs l).length ≤ 8 * l.length := by
  induction l with
  | nil => simp [openEs]
  | cons o r ih =>
    have h1 := h o (List.mem_cons_self ..)
    have h2 := ih fun x hx => h x (List.mem_cons_of_mem _ hx)
    unfold openEs at h2 ⊢
    rw [List.flatMap_cons, List.length_append, List.length_map, List.length_cons]
    omega
theorem map_take1 {α β : Type} (f : α → β) (l : List α) (i : Nat) (h : i < l.length) : (l.take (i + 1)).map f = (l.take i).map f ++ [f l[i]] := by
  rw [List.take_succ_eq_append_getElem h, List.map_append]; rfl
theorem logA_succ (p : Part) (i : Nat) (h : i < p.rows.length) : logA p (i + 1) = logA p i ++ [rowE p.rows[i]] := map_take1 _ _ _ h
theorem logA_all (p : Part) : logA p p.rows.length = logB p 0 := by simp [logA, logB]
theorem logB_succ (p : Part) (i : Nat) (h : i < p.prods.length) : logB p (i + 1) = logB p i ++ [stateE p p.prods[i]] := by rw [logB, map_take1 _ _ _ h, ← List.append_assoc]; rfl
theorem logB_all (p : Part) : logB p p.prods.length = logC p 0 := by simp [logB, logC, openEs]
theorem logC_all (p : Part) : logC p p.opn.length = logP p := by simp [logC, logP]
theorem logD_zero (p : Part) (i : Nat) (l : List Batch) : logC p i = logD p i l 0 := by simp [logD]
theorem logD_succ (p : Part) (i : Nat) (l : List Batch) (k : Nat) (h : k < l.length) : logD p i l (k + 1) = logD p i l k ++ [dataE l[k]] := by rw [logD, map_take1 _ _ _ h, ← List.append_assoc]; rfl
theorem logD_all (p : Part) (i : Nat) (h : i < p.opn.length) : logD p i (p.opn[i]).bats (p.opn[i]).bats.length = logC p (i + 1) := by
  rw [logD, logC, logC, openEs_take _ _ h, List.take_length, List.append_assoc, List.append_assoc]
theorem logC_len {p : Part} (hb : ∀ o ∈ p.opn, o.bats.length ≤ 8) (i : Nat) : (logC p i).length ≤ p.rows.length + p.prods.length + 8 * p.opn.length := by
  have h1 := openEs_len (l := p.opn.take i) fun o ho => hb o (List.mem_of_mem_take ho)
  have h2 : (p.opn.take i).length ≤ p.opn.length := by rw [List.length_take]; omega
  unfold logC
  rw [List.length_append, List.length_append, List.length_map, List.length_map]
  omega
def e29a (p : Part) (i : Nat) : Env := [(1, .ptr 0 0), (2, .slice true ((logA p i).map encE)), (16, .slice false (p.rows.map encW)), (17, .int .i64 p.rows.length), (18, .int .i64 i)]
def e29b (p : Part) (i : Nat) : Env := [(1, .ptr 0 0), (2, .slice true ((logB p i).map encE)), (30, .slice false (p.prods.map encP)), (31, .int .i64 p.prods.length), (32, .int .i64 i)]
def e29c (p : Part) (i : Nat) : Env := [(2, .slice true ((logC p i).map encE)), (45, .slice false (p.opn.map encO)), (46, .int .i64 p.opn.length), (47, .int .i64 i)]
def e29d (p : Part) (i : Nat) (l : List Batch) (k : Nat) : Env := [(2, .slice true ((logD p i l k).map encE)), (45, .slice false (p.opn.map encO)), (46, .int .i64 p.opn.length), (47, .int .i64 i), (52, .slice false (l.map encB)), (53, .int .i64 l.length), (54, .int .i64 k)]
theorem t29 (p : Part) (hmay : run tab 49 [.agg (encPt p)] [] = some (.bool true, [])) (hr : p.rows.length ≤ 2000000) (hp : p.prods.length ≤ 1000) (hs : ∀ x ∈ p.prods, x.seen.length ≤ 1000) (ho : p.opn.length ≤ 1000) (hb : ∀ o ∈ p.opn, o.bats.length ≤ 8) : run tab 29 [.agg (encPt p)] [] = some (.tup [.slice false ((logP p).map encE), .int .i64 0], []) := by
  simp at hmay
  rw [run_eq, tab_29]
  simp [m29, x29_0, q29_0_0, x29_1, q29_1_0, x29_2, q29_2_0, x29_3, q29_3_0, x29_4, q29_4_0, x29_5, q29_5_0, x29_6, q29_6_0, x29_7, q29_7_0, x29_8, q29_8_0, x29_9, q29_9_0, x29_10, q29_10_0, x29_11, q29_11_0, x29_12, q29_12_0, q29_12_1, x29_13, q29_13_0, x29_14, q29_14_0, x29_15, q29_15_0, x29_16, q29_16_0, x29_17, q29_17_0, x29_18, q29_18_0, x29_19, q29_19_0, x29_20, q29_20_0, x29_21, q29_21_0, x29_22, q29_22_0, x29_23, q29_23_0, hmay, esc_49]
  simp only [Option.bind_assoc]
  refine loop_cont (e29a p) (fun _ => [encPt p]) p.rows.length (fun _ => True) (fun _ => some (Dat.tup [Dat.slice false ((logP p).map encE), Dat.int .i64 0], ([] : St))) trivial (fun _ => ?_) fun i hi _ => ?_
  rotate_left
  · have hw : IntKind.wrap .i64 ((i : Int) + 1) = i + 1 := wrap64 (by omega) (by omega)
    have a1 := app_one (enc := encE) (n := 18) (bytes := 192) (fun _ => rfl) (logA p i) (rowE p.rows[i]) (by unfold logA; rw [List.length_map, List.length_take]; omega)
    have ht := logA_succ p i hi
    refine .inl ⟨?_, trivial, rfl⟩
    simp [rowE, zeroE, zeroB, zeroP, zeroW] at a1
    simp [l29_0, m29, x29_0, q29_0_0, x29_1, q29_1_0, x29_2, q29_2_0, x29_3, q29_3_0, x29_4, q29_4_0, x29_5, q29_5_0, x29_6, q29_6_0, x29_7, q29_7_0, x29_8, q29_8_0, x29_9, q29_9_0, x29_10, q29_10_0, x29_11, q29_11_0, x29_12, q29_12_0, q29_12_1, x29_13, q29_13_0, x29_14, q29_14_0, x29_15, q29_15_0, x29_16, q29_16_0, x29_17, q29_17_0, x29_18, q29_18_0, x29_19, q29_19_0, x29_20, q29_20_0, x29_21, q29_21_0, x29_22, q29_22_0, x29_23, q29_23_0, e29a, ht, hi, hw, a1, rowE, zeroE, zeroB, zeroP, zeroW]
  refine ⟨(.exit 0, e29a p p.rows.length ++ [(19, .bool false)], [encPt p]), by simp [l29_0, m29, x29_0, q29_0_0, x29_1, q29_1_0, x29_2, q29_2_0, x29_3, q29_3_0, x29_4, q29_4_0, x29_5, q29_5_0, x29_6, q29_6_0, x29_7, q29_7_0, x29_8, q29_8_0, x29_9, q29_9_0, x29_10, q29_10_0, x29_11, q29_11_0, x29_12, q29_12_0, q29_12_1, x29_13, q29_13_0, x29_14, q29_14_0, x29_15, q29_15_0, x29_16, q29_16_0, x29_17, q29_17_0, x29_18, q29_18_0, x29_19, q29_19_0, x29_20, q29_20_0, x29_21, q29_21_0, x29_22, q29_22_0, x29_23, q29_23_0, e29a], by simp, ?_⟩
  simp [m29, x29_0, q29_0_0, x29_1, q29_1_0, x29_2, q29_2_0, x29_3, q29_3_0, x29_4, q29_4_0, x29_5, q29_5_0, x29_6, q29_6_0, x29_7, q29_7_0, x29_8, q29_8_0, x29_9, q29_9_0, x29_10, q29_10_0, x29_11, q29_11_0, x29_12, q29_12_0, q29_12_1, x29_13, q29_13_0, x29_14, q29_14_0, x29_15, q29_15_0, x29_16, q29_16_0, x29_17, q29_17_0, x29_18, q29_18_0, x29_19, q29_19_0, x29_20, q29_20_0, x29_21, q29_21_0, x29_22, q29_22_0, x29_23, q29_23_0, e29a, logA_all]
  simp only [Option.bind_assoc]
  refine loop_cont (e29b p) (fun _ => [encPt p]) p.prods.length (fun _ => True) (fun _ => some (Dat.tup [Dat.slice false ((logP p).map encE), Dat.int .i64 0], ([] : St))) trivial (fun _ => ?_) fun i hi _ => ?_
  rotate_left
  · have hw : IntKind.wrap .i64 ((i : Int) + 1) = i + 1 := wrap64 (by omega) (by omega)
    have h50 := t50 p p.prods[i] (by omega) (by have := hs _ (List.getElem_mem hi); omega)
    have a1 := app_one (enc := encE) (n := 18) (bytes := 192) (fun _ => rfl) (logB p i) (stateE p p.prods[i]) (by unfold logB; rw [List.length_append, List.length_map, List.length_map, List.length_take]; omega)
    have ht := logB_succ p i hi
    refine .inl ⟨?_, trivial, rfl⟩
    simp [stateE, zeroE, zeroB, zeroP, zeroW] at a1 h50
    simp [l29_1, m29, x29_0, q29_0_0, x29_1, q29_1_0, x29_2, q29_2_0, x29_3, q29_3_0, x29_4, q29_4_0, x29_5, q29_5_0, x29_6, q29_6_0, x29_7, q29_7_0, x29_8, q29_8_0, x29_9, q29_9_0, x29_10, q29_10_0, x29_11, q29_11_0, x29_12, q29_12_0, q29_12_1, x29_13, q29_13_0, x29_14, q29_14_0, x29_15, q29_15_0, x29_16, q29_16_0, x29_17, q29_17_0, x29_18, q29_18_0, x29_19, q29_19_0, x29_20, q29_20_0, x29_21, q29_21_0, x29_22, q29_22_0, x29_23, q29_23_0, e29b, ht, hi, hw, h50, esc_50, a1, stateE, zeroE, zeroB, zeroP, zeroW]
  refine ⟨(.exit 2, e29b p p.prods.length ++ [(33, .bool false)], [encPt p]), by simp [l29_1, m29, x29_0, q29_0_0, x29_1, q29_1_0, x29_2, q29_2_0, x29_3, q29_3_0, x29_4, q29_4_0, x29_5, q29_5_0, x29_6, q29_6_0, x29_7, q29_7_0, x29_8, q29_8_0, x29_9, q29_9_0, x29_10, q29_10_0, x29_11, q29_11_0, x29_12, q29_12_0, q29_12_1, x29_13, q29_13_0, x29_14, q29_14_0, x29_15, q29_15_0, x29_16, q29_16_0, x29_17, q29_17_0, x29_18, q29_18_0, x29_19, q29_19_0, x29_20, q29_20_0, x29_21, q29_21_0, x29_22, q29_22_0, x29_23, q29_23_0, e29b], by simp, ?_⟩
  simp [m29, x29_0, q29_0_0, x29_1, q29_1_0, x29_2, q29_2_0, x29_3, q29_3_0, x29_4, q29_4_0, x29_5, q29_5_0, x29_6, q29_6_0, x29_7, q29_7_0, x29_8, q29_8_0, x29_9, q29_9_0, x29_10, q29_10_0, x29_11, q29_11_0, x29_12, q29_12_0, q29_12_1, x29_13, q29_13_0, x29_14, q29_14_0, x29_15, q29_15_0, x29_16, q29_16_0, x29_17, q29_17_0, x29_18, q29_18_0, x29_19, q29_19_0, x29_20, q29_20_0, x29_21, q29_21_0, x29_22, q29_22_0, x29_23, q29_23_0, e29b, logB_all]
  simp only [Option.bind_assoc]
  refine loop_cont (e29c p) (fun _ => []) p.opn.length (fun _ => True) (fun _ => some (Dat.tup [Dat.slice false ((logP p).map encE), Dat.int .i64 0], ([] : St))) trivial (fun _ => ?_) fun i hi _ => ?_
  · simp [l29_3, m29, x29_0, q29_0_0, x29_1, q29_1_0, x29_2, q29_2_0, x29_3, q29_3_0, x29_4, q29_4_0, x29_5, q29_5_0, x29_6, q29_6_0, x29_7, q29_7_0, x29_8, q29_8_0, x29_9, q29_9_0, x29_10, q29_10_0, x29_11, q29_11_0, x29_12, q29_12_0, q29_12_1, x29_13, q29_13_0, x29_14, q29_14_0, x29_15, q29_15_0, x29_16, q29_16_0, x29_17, q29_17_0, x29_18, q29_18_0, x29_19, q29_19_0, x29_20, q29_20_0, x29_21, q29_21_0, x29_22, q29_22_0, x29_23, q29_23_0, e29c, logC_all]
  · have hw : IntKind.wrap .i64 ((i : Int) + 1) = i + 1 := wrap64 (by omega) (by omega)
    have hbl := hb _ (List.getElem_mem hi)
    refine .inl ⟨?_, trivial, rfl⟩
    simp [l29_3, m29, x29_0, q29_0_0, x29_1, q29_1_0, x29_2, q29_2_0, x29_3, q29_3_0, x29_4, q29_4_0, x29_5, q29_5_0, x29_6, q29_6_0, x29_7, q29_7_0, x29_8, q29_8_0, x29_9, q29_9_0, x29_10, q29_10_0, x29_11, q29_11_0, x29_12, q29_12_0, q29_12_1, x29_13, q29_13_0, x29_14, q29_14_0, x29_15, q29_15_0, x29_16, q29_16_0, x29_17, q29_17_0, x29_18, q29_18_0, x29_19, q29_19_0, x29_20, q29_20_0, x29_21, q29_21_0, x29_22, q29_22_0, x29_23, q29_23_0, e29c, hi]
    rw [logD_zero p i (p.opn[i]).bats]
    simp only [Option.bind_assoc]
    refine loop_cont (e29d p i (p.opn[i]).bats) (fun _ => []) (p.opn[i]).bats.length (fun _ => True) (fun _ => some (Ex.normal, [(2, Dat.slice true ((logC p (i + 1)).map encE)), (45, Dat.slice false (p.opn.map encO)), (46, Dat.int .i64 p.opn.length), (47, Dat.int .i64 ((i : Int) + 1))], ([] : St))) trivial (fun _ => ?_) fun k hk _ => ?_
    · simp [l29_2, m29, x29_0, q29_0_0, x29_1, q29_1_0, x29_2, q29_2_0, x29_3, q29_3_0, x29_4, q29_4_0, x29_5, q29_5_0, x29_6, q29_6_0, x29_7, q29_7_0, x29_8, q29_8_0, x29_9, q29_9_0, x29_10, q29_10_0, x29_11, q29_11_0, x29_12, q29_12_0, q29_12_1, x29_13, q29_13_0, x29_14, q29_14_0, x29_15, q29_15_0, x29_16, q29_16_0, x29_17, q29_17_0, x29_18, q29_18_0, x29_19, q29_19_0, x29_20, q29_20_0, x29_21, q29_21_0, x29_22, q29_22_0, x29_23, q29_23_0, e29d, logD_all p i hi, hw]
    · have hwk : IntKind.wrap .i64 ((k : Int) + 1) = k + 1 := wrap64 (by omega) (by omega)
      have hcl := logC_len hb i
      have a1 := app_one (enc := encE) (n := 18) (bytes := 192) (fun _ => rfl) (logD p i (p.opn[i]).bats k) (dataE (p.opn[i]).bats[k]) (by unfold logD; rw [List.length_append, List.length_map, List.length_take]; omega)
      have ht := logD_succ p i (p.opn[i]).bats k hk
      refine .inl ⟨?_, trivial, rfl⟩
      simp [dataE, zeroE, zeroB, zeroP, zeroW] at a1
      simp [l29_2, m29, x29_0, q29_0_0, x29_1, q29_1_0, x29_2, q29_2_0, x29_3, q29_3_0, x29_4, q29_4_0, x29_5, q29_5_0, x29_6, q29_6_0, x29_7, q29_7_0, x29_8, q29_8_0, x29_9, q29_9_0, x29_10, q29_10_0, x29_11, q29_11_0, x29_12, q29_12_0, q29_12_1, x29_13, q29_13_0, x29_14, q29_14_0, x29_15, q29_15_0, x29_16, q29_16_0, x29_17, q29_17_0, x29_18, q29_18_0, x29_19, q29_19_0, x29_20, q29_20_0, x29_21, q29_21_0, x29_22, q29_22_0, x29_23, q29_23_0, e29d, ht, hk, hwk, a1, dataE, zeroE, zeroB, zeroP, zeroW]
end Go.Mir.A
namespace Go.Mir.A
attribute [local congr] bind_head
attribute [local simp] encW encO encPt encE under_encB under_encW under_encO under_encE rowsOk_B rowsOk_W rowsOk_O rowsOk_E gc ofCells bindArgs resD St.get St.set Dat.underL Dat.underLL gc_self fillD elemsD rowsOk_nil rowsOk_cons rowsOk_app rowsOk_tk rowsOk_dp rowsOk_tl underLL_tl underLL_app underLL_tk underLL_dp nn1 nn2 take_rest take_full appD_nil Option.bind_some strip_undef strip1_undef norm_undef noTup_undef safe_undef cells_undef under_undef strip_int strip1_int norm_int noTup_int safe_int cells_int under_int strip_bool strip1_bool norm_bool noTup_bool safe_bool cells_bool under_bool strip_str strip1_str norm_str noTup_str safe_str cells_str under_str strip_agg strip1_agg norm_agg noTup_agg safe_agg cells_agg under_agg strip_tup strip1_tup norm_tup noTup_tup safe_tup cells_tup under_tup strip_slice strip1_slice norm_slice noTup_slice safe_slice cells_slice under_slice strip_nilp strip1_nilp norm_nilp noTup_nilp safe_nilp cells_nilp under_nilp strip_ptr strip1_ptr norm_ptr noTup_ptr safe_ptr cells_ptr under_ptr strip_rptr strip1_rptr norm_rptr noTup_rptr safe_rptr cells_rptr under_rptr strip_fn strip1_fn norm_fn noTup_fn safe_fn cells_fn under_fn strip_nilf strip1_nilf norm_nilf noTup_nilf safe_nilf cells_nilf under_nilf strip_iface strip1_iface norm_iface noTup_iface safe_iface cells_iface under_iface strip_nili strip1_nili norm_nili noTup_nili safe_nili cells_nili under_nili bin_add bin_sub bin_mul bin_quo bin_rem bin_eql bin_neq bin_lss bin_leq bin_gtr bin_geq bin_and bin_or bin_xor bin_andNot bin_shl bin_shr sbin_add sbin_eql sbin_neq sbin_lss sbin_leq sbin_gtr sbin_geq load_ptr load_rptr cellEq_int cellEq_bool cellEq_str cellsEq_nil cellsEq_cons rows_sl rows_str packD_one packD_nil packD_two leave_ret leave_normal leave_exit seqK_normal seqK_exit seqK_ret blockK_normal blockK_exit blockK_ret condK_bool exec_skip exec_exit exec_ret exec_loop exec_seq exec_block exec_cond ev_tmp ev_lit evs_nil evs_cons takeK_some take_tmp take_lit zk_eq keepK_some keepK_none keep_nil keep_cons putD_some putD_none put_eq get_nil get_cons steps_nil steps_cons step_none guardK_t guardK_f guardK_undef step_some pickV_bool eo_pick loadmV_ptr loadmV_rptr eo_loadm eo_load storeV_ptr eo_store storefV_ptr eo_storef clearK_ptr clearK_rptr clearK_none clear_eq nilCheckV_ptr nilCheckV_rptr nilCheckV_fn eo_nilCheck eqsV_agg eo_eqs eqbV_bool eo_eqb unV_neg unV_not eo_un convV_int eo_conv boundK_int bound_none bound_some sliceV_slice eo_slice substrV_str eo_substr fieldAddrV_ptr fieldAddrV_rptr eo_fieldAddr fieldV_agg eo_field indexV_slice eo_index indexArrV_ptr indexArrV_rptr eo_indexArr atV_str eo_at extractV_tup eo_extract extractnV_tup eo_extractn callV_fn eo_call callcV_fn eo_callc callrV_fn eo_callr callR_eq beq_st loadrV_rptr eo_loadr lenV_slice lenV_str eo_len appV_slice eo_append minV_int maxV_int eo_min2 eo_max2 eo_mov_t eo_mov_f eo_alloc eo_box eo_build eo_buildSlice eo_bin eo_mkfn callD_eq callC_eq encPs encP encB encS encR under_encP under_encS under_encR rowsOk_S rowsOk_P rowsOk_R
set_option linter.unusedSimpArgs false
set_option linter.unusedVariables false
set_option maxHeartbeats 1000000
set_option maxRecDepth 4000
set_option maxHeartbeats 4000000
attribute [local simp] encPtF

/-- the log of any length, where each part on the way is as it may be -/
theorem t25g (l : List Entry) (good : Part → Prop) (g0 : good zeroPt) (gs : ∀ p x q, x ∈ l → good p → nextP p x = some q → good q) (gok : ∀ p, good p → okPt 850 p) (hn : l.length ≤ 1000000000) (hl : ∀ x ∈ l, x.b.recs.length ≤ 1000) (hs : ∀ x ∈ l, x.prod.seen.length ≤ 1000) : run tab 25 [.slice false (l.map encE)] [] = some (resP zeroPt (foldP l zeroPt), []) := by
  rw [run_eq, tab_25]
  simp [m25, x25_0, q25_0_0, x25_1, q25_1_0, x25_2, q25_2_0, x25_3, q25_3_0, x25_4, q25_4_0, x25_5, q25_5_0, x25_6, q25_6_0, x25_7, q25_7_0, x25_8, q25_8_0, x25_9, q25_9_0, x25_10, q25_10_0]
  simp only [Option.bind_assoc]
  refine (loop_st (e25 l) (fun a => [encPtF a.2.1 a.2.2, z5]) (fun a => l.length - a.1) (fun a => a.1 ≤ l.length ∧ good a.2.2) (fun a => some (resP zeroPt (foldP (l.drop a.1) a.2.2), [])) (fun a ha => ?_) (0, true, zeroPt) ⟨Nat.zero_le _, g0⟩).trans (by simp)
  obtain ⟨i, o, p⟩ := a
  obtain ⟨h1, h2⟩ := ha
  simp only at h1 h2 ⊢
  by_cases hi : i < l.length
  · have hw : IntKind.wrap .i64 ((i : Int) + 1) = i + 1 := wrap64 (by omega) (by omega)
    have hx := List.getElem_mem hi
    have h48 := t48 p o l[i] (encE l[i]) (by omega) (gok p h2) (hl _ hx) (hs _ hx) (by simp)
    rw [List.drop_eq_getElem_cons hi, foldP]
    cases hr : nextP p l[i] with
    | none =>
      rw [hr] at h48
      simp [z5, zeroPt] at h48
      refine .inr ?_
      simp [l25_0, m25, x25_0, q25_0_0, x25_1, q25_1_0, x25_2, q25_2_0, x25_3, q25_3_0, x25_4, q25_4_0, x25_5, q25_5_0, x25_6, q25_6_0, x25_7, q25_7_0, x25_8, q25_8_0, x25_9, q25_9_0, x25_10, q25_10_0, e25, z5, hi, h48, resP, zeroPt]
    | some q =>
      rw [hr] at h48
      simp [z5] at h48
      refine .inl ⟨(i + 1, false, q), ?_, ⟨hi, gs p _ q hx h2 hr⟩, by simp only; omega, rfl⟩
      simp [l25_0, m25, x25_0, q25_0_0, x25_1, q25_1_0, x25_2, q25_2_0, x25_3, q25_3_0, x25_4, q25_4_0, x25_5, q25_5_0, x25_6, q25_6_0, x25_7, q25_7_0, x25_8, q25_8_0, x25_9, q25_9_0, x25_10, q25_10_0, e25, z5, hi, h48, hw]
  · have hi' : i = l.length := by omega
    subst hi'
    refine .inr ?_
    simp [l25_0, m25, x25_0, q25_0_0, x25_1, q25_1_0, x25_2, q25_2_0, x25_3, q25_3_0, x25_4, q25_4_0, x25_5, q25_5_0, x25_6, q25_6_0, x25_7, q25_7_0, x25_8, q25_8_0, x25_9, q25_9_0, x25_10, q25_10_0, e25, z5, foldP, resP]

def e51 (i : Nat) : Env := [(2, .ptr 0 0), (3, .ptr 1 0), (5, .int .i64 i)]
theorem t51r (b : Batch) (hl : b.recs.length ≤ 9223372036854775807) : run tab 51 [.agg (encB b), .agg (encB b)] [] = some (.bool true, []) := by
  rw [run_eq, tab_51]
  simp [m51, x51_0, q51_0_0, x51_1, q51_1_0, q51_1_1, q51_1_2, q51_1_3, q51_1_4, q51_1_5, x51_2, q51_2_0, x51_3, q51_3_0, x51_4, q51_4_0, x51_6, q51_6_0, q51_6_1, x51_7, q51_7_0, x51_5, q51_5_0, x51_8, q51_8_0]
  simp only [Option.bind_assoc]
  refine (loop_cont e51 (fun _ => [encB b, encB b]) b.recs.length (fun _ => True) (fun _ => some (Dat.bool true, ([] : St))) trivial (fun _ => ?_) fun i hi _ => ?_)
  · simp [l51_0, m51, x51_0, q51_0_0, x51_1, q51_1_0, q51_1_1, q51_1_2, q51_1_3, q51_1_4, q51_1_5, x51_2, q51_2_0, x51_3, q51_3_0, x51_4, q51_4_0, x51_6, q51_6_0, q51_6_1, x51_7, q51_7_0, x51_5, q51_5_0, x51_8, q51_8_0, e51]
  · have hw : IntKind.wrap .i64 ((i : Int) + 1) = i + 1 := wrap64 (by omega) (by omega)
    refine .inl ⟨?_, trivial, rfl⟩
    simp [l51_0, m51, x51_0, q51_0_0, x51_1, q51_1_0, q51_1_1, q51_1_2, q51_1_3, q51_1_4, q51_1_5, x51_2, q51_2_0, x51_3, q51_3_0, x51_4, q51_4_0, x51_6, q51_6_0, q51_6_1, x51_7, q51_7_0, x51_5, q51_5_0, x51_8, q51_8_0, e51, hi, hw]
theorem t52r (x : Entry) (hl : x.b.recs.length ≤ 9223372036854775807) (hs : x.prod.seen.length ≤ 9223372036854775807) : run tab 52 [.agg (encE x), .agg (encE x)] [] = some (.bool true, []) := by
  have h51 := t51r x.b hl
  have h22 := t22 x.prod x.prod hs
  rw [sameP_refl] at h22
  simp at h51 h22
  rw [run_eq, tab_52]
  simp [m52, x52_0, q52_0_0, x52_1, q52_1_0, q52_1_1, q52_1_2, q52_1_3, q52_1_4, q52_1_5, q52_1_6, q52_1_7, h51, esc_51, h22, esc_22]
def e31 (l : List Entry) (i : Nat) : Env := [(0, .slice false (l.map encE)), (1, .slice false (l.map encE)), (5, .int .i64 i)]
theorem t31r (l : List Entry) (hn : l.length ≤ 9223372036854775807) (hl : ∀ x ∈ l, x.b.recs.length ≤ 9223372036854775807) (hs : ∀ x ∈ l, x.prod.seen.length ≤ 9223372036854775807) : run tab 31 [.slice false (l.map encE), .slice false (l.map encE)] [] = some (.bool true, []) := by
  rw [run_eq, tab_31]
  simp [m31, x31_0, q31_0_0, x31_1, q31_1_0, x31_2, q31_2_0, x31_3, q31_3_0, x31_4, q31_4_0, x31_6, q31_6_0, q31_6_1, x31_7, q31_7_0, x31_5, q31_5_0, x31_8, q31_8_0]
  simp only [Option.bind_assoc]
  refine (loop_cont (e31 l) (fun _ => []) l.length (fun _ => True) (fun _ => some (Dat.bool true, ([] : St))) trivial (fun _ => ?_) fun i hi _ => ?_)
  · simp [l31_0, m31, x31_0, q31_0_0, x31_1, q31_1_0, x31_2, q31_2_0, x31_3, q31_3_0, x31_4, q31_4_0, x31_6, q31_6_0, q31_6_1, x31_7, q31_7_0, x31_5, q31_5_0, x31_8, q31_8_0, e31]
  · have hw : IntKind.wrap .i64 ((i : Int) + 1) = i + 1 := wrap64 (by omega) (by omega)
    have hx := List.getElem_mem hi
    have h52 := t52r l[i] (hl _ hx) (hs _ hx)
    simp at h52
    refine .inl ⟨?_, trivial, rfl⟩
    simp [l31_0, m31, x31_0, q31_0_0, x31_1, q31_1_0, x31_2, q31_2_0, x31_3, q31_3_0, x31_4, q31_4_0, x31_6, q31_6_0, q31_6_1, x31_7, q31_7_0, x31_5, q31_5_0, x31_8, q31_8_0, e31, hi, hw, h52, esc_52]
def e30a (l : List Opn) (i : Nat) : Env := [(0, .slice false (l.map encO)), (1, .slice false (l.map encO)), (5, .int .i64 i)]
def e30b (l : List Opn) (i k : Nat) : Env := [(0, .slice false (l.map encO)), (1, .slice false (l.map encO)), (5, .int .i64 i), (6, .int .i64 k)]
theorem t30r (l : List Opn) (hn : l.length ≤ 9223372036854775807) (hb : ∀ o ∈ l, o.bats.length ≤ 8 ∧ ∀ b ∈ o.bats, b.recs.length ≤ 9223372036854775807) : run tab 30 [.slice false (l.map encO), .slice false (l.map encO)] [] = some (.bool true, []) := by
  rw [run_eq, tab_30]
  simp [m30, x30_0, q30_0_0, x30_1, q30_1_0, x30_2, q30_2_0, x30_3, q30_3_0, x30_4, q30_4_0, x30_6, q30_6_0, q30_6_1, q30_6_2, q30_6_3, q30_6_4, q30_6_5, q30_6_6, x30_7, q30_7_0, x30_8, q30_8_0, x30_9, q30_9_0, q30_9_1, x30_11, q30_11_0, q30_11_1, q30_11_2, x30_12, q30_12_0, x30_10, q30_10_0, x30_5, q30_5_0, x30_13, q30_13_0]
  simp only [Option.bind_assoc]
  refine (loop_cont (e30a l) (fun _ => []) l.length (fun _ => True) (fun _ => some (Dat.bool true, ([] : St))) trivial (fun _ => ?_) fun i hi _ => ?_)
  · simp [l30_1, m30, x30_0, q30_0_0, x30_1, q30_1_0, x30_2, q30_2_0, x30_3, q30_3_0, x30_4, q30_4_0, x30_6, q30_6_0, q30_6_1, q30_6_2, q30_6_3, q30_6_4, q30_6_5, q30_6_6, x30_7, q30_7_0, x30_8, q30_8_0, x30_9, q30_9_0, q30_9_1, x30_11, q30_11_0, q30_11_1, q30_11_2, x30_12, q30_12_0, x30_10, q30_10_0, x30_5, q30_5_0, x30_13, q30_13_0, e30a]
  · have hw : IntKind.wrap .i64 ((i : Int) + 1) = i + 1 := wrap64 (by omega) (by omega)
    have hx := hb _ (List.getElem_mem hi)
    refine .inl ⟨?_, trivial, rfl⟩
    simp [l30_1, m30, x30_0, q30_0_0, x30_1, q30_1_0, x30_2, q30_2_0, x30_3, q30_3_0, x30_4, q30_4_0, x30_6, q30_6_0, q30_6_1, q30_6_2, q30_6_3, q30_6_4, q30_6_5, q30_6_6, x30_7, q30_7_0, x30_8, q30_8_0, x30_9, q30_9_0, q30_9_1, x30_11, q30_11_0, q30_11_1, q30_11_2, x30_12, q30_12_0, x30_10, q30_10_0, x30_5, q30_5_0, x30_13, q30_13_0, e30a, hi]
    simp only [Option.bind_assoc]
    refine loop_cont (e30b l i) (fun _ => []) (l[i]).bats.length (fun _ => True) (fun _ => some (Ex.normal, [(0, Dat.slice false (l.map encO)), (1, Dat.slice false (l.map encO)), (5, Dat.int .i64 ((i : Int) + 1))], ([] : St))) trivial (fun _ => ?_) fun k hk _ => ?_
    · simp [l30_0, m30, x30_0, q30_0_0, x30_1, q30_1_0, x30_2, q30_2_0, x30_3, q30_3_0, x30_4, q30_4_0, x30_6, q30_6_0, q30_6_1, q30_6_2, q30_6_3, q30_6_4, q30_6_5, q30_6_6, x30_7, q30_7_0, x30_8, q30_8_0, x30_9, q30_9_0, q30_9_1, x30_11, q30_11_0, q30_11_1, q30_11_2, x30_12, q30_12_0, x30_10, q30_10_0, x30_5, q30_5_0, x30_13, q30_13_0, e30b, hi, hw]
    · have hwk : IntKind.wrap .i64 ((k : Int) + 1) = k + 1 := wrap64 (by omega) (by omega)
      have h51 := t51r (l[i]).bats[k] (hx.2 _ (List.getElem_mem hk))
      simp at h51
      refine .inl ⟨?_, trivial, rfl⟩
      simp [l30_0, m30, x30_0, q30_0_0, x30_1, q30_1_0, x30_2, q30_2_0, x30_3, q30_3_0, x30_4, q30_4_0, x30_6, q30_6_0, q30_6_1, q30_6_2, q30_6_3, q30_6_4, q30_6_5, q30_6_6, x30_7, q30_7_0, x30_8, q30_8_0, x30_9, q30_9_0, q30_9_1, x30_11, q30_11_0, q30_11_1, q30_11_2, x30_12, q30_12_0, x30_10, q30_10_0, x30_5, q30_5_0, x30_13, q30_13_0, e30b, hi, hk, hwk, h51, esc_51]
end Go.Mir.A
