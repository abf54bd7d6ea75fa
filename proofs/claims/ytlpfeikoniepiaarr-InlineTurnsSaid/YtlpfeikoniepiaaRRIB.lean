import Derived.Test.YtlpfeikoniepiaaRRI5
set_option linter.all false
namespace Go.Mir.A
attribute [local congr] bind_head
attribute [local simp] encW encO encPt encE under_encB under_encW under_encO under_encE rowsOk_B rowsOk_W rowsOk_O rowsOk_E gc ofCells bindArgs resD St.get St.set Dat.underL Dat.underLL gc_self fillD elemsD rowsOk_nil rowsOk_cons rowsOk_app rowsOk_tk rowsOk_dp rowsOk_tl underLL_tl underLL_app underLL_tk underLL_dp nn1 nn2 take_rest take_full appD_nil Option.bind_some strip_undef strip1_undef norm_undef noTup_undef safe_undef cells_undef under_undef strip_int strip1_int norm_int noTup_int safe_int cells_int under_int strip_bool strip1_bool norm_bool noTup_bool safe_bool cells_bool under_bool strip_str strip1_str norm_str noTup_str safe_str cells_str under_str strip_agg strip1_agg norm_agg noTup_agg safe_agg cells_agg under_agg strip_tup strip1_tup norm_tup noTup_tup safe_tup cells_tup under_tup strip_slice strip1_slice norm_slice noTup_slice safe_slice cells_slice under_slice strip_nilp strip1_nilp norm_nilp noTup_nilp safe_nilp cells_nilp under_nilp strip_ptr strip1_ptr norm_ptr noTup_ptr safe_ptr cells_ptr under_ptr strip_rptr strip1_rptr norm_rptr noTup_rptr safe_rptr cells_rptr under_rptr strip_fn strip1_fn norm_fn noTup_fn safe_fn cells_fn under_fn strip_nilf strip1_nilf norm_nilf noTup_nilf safe_nilf cells_nilf under_nilf strip_iface strip1_iface norm_iface noTup_iface safe_iface cells_iface under_iface strip_nili strip1_nili norm_nili noTup_nili safe_nili cells_nili under_nili bin_add bin_sub bin_mul bin_quo bin_rem bin_eql bin_neq bin_lss bin_leq bin_gtr bin_geq bin_and bin_or bin_xor bin_andNot bin_shl bin_shr sbin_add sbin_eql sbin_neq sbin_lss sbin_leq sbin_gtr sbin_geq load_ptr load_rptr cellEq_int cellEq_bool cellEq_str cellsEq_nil cellsEq_cons rows_sl rows_str packD_one packD_nil packD_two leave_ret leave_normal leave_exit seqK_normal seqK_exit seqK_ret blockK_normal blockK_exit blockK_ret condK_bool exec_skip exec_exit exec_ret exec_loop exec_seq exec_block exec_cond ev_tmp ev_lit evs_nil evs_cons takeK_some take_tmp take_lit zk_eq keepK_some keepK_none keep_nil keep_cons putD_some putD_none put_eq get_nil get_cons steps_nil steps_cons step_none guardK_t guardK_f guardK_undef step_some pickV_bool eo_pick loadmV_ptr loadmV_rptr eo_loadm eo_load storeV_ptr eo_store storefV_ptr eo_storef clearK_ptr clearK_rptr clearK_none clear_eq nilCheckV_ptr nilCheckV_rptr nilCheckV_fn eo_nilCheck eqsV_agg eo_eqs eqbV_bool eo_eqb unV_neg unV_not eo_un convV_int eo_conv boundK_int bound_none bound_some sliceV_slice eo_slice substrV_str eo_substr fieldAddrV_ptr fieldAddrV_rptr eo_fieldAddr fieldV_agg eo_field indexV_slice eo_index indexArrV_ptr indexArrV_rptr eo_indexArr atV_str eo_at extractV_tup eo_extract extractnV_tup eo_extractn callV_fn eo_call callcV_fn eo_callc callrV_fn eo_callr callR_eq beq_st loadrV_rptr eo_loadr lenV_slice lenV_str eo_len appV_slice eo_append minV_int maxV_int eo_min2 eo_max2 eo_mov_t eo_mov_f eo_alloc eo_box eo_build eo_buildSlice eo_bin eo_mkfn callD_eq callC_eq encPs encP encB encS encR under_encP under_encS under_encR rowsOk_S rowsOk_P rowsOk_R
set_option linter.unusedSimpArgs false
set_option linter.unusedVariables false
set_option maxHeartbeats 1000000
set_option maxRecDepth 4000

def recsOf : List Batch → Nat
  | [] => 0
  | b :: l => b.recs.length + recsOf l
theorem addAll_facts : ∀ (l : List Batch) (p : Part), (l.foldl addP p).rows.length = p.rows.length + recsOf l ∧ (l.foldl addP p).fin = p.fin + recsOf l ∧ (l.foldl addP p).opn = p.opn ∧ (l.foldl addP p).prods = p.prods ∧ (l.foldl addP p).start = p.start
  | [], p => by simp [recsOf]
  | b :: l, p => by
    obtain ⟨h1, h2, h3, h4, h5⟩ := addAll_facts l (addP p b)
    rw [List.foldl_cons]
    refine ⟨?_, ?_, h3, h4, h5⟩
    · rw [h1]; simp [addP, rowsB_len, recsOf]; omega
    · rw [h2]; simp [addP, recsOf]; omega
theorem recsOf_le {l : List Batch} (h : ∀ b ∈ l, mayB b = true) : recsOf l ≤ 4 * l.length := by
  induction l with
  | nil => simp [recsOf]
  | cons b l ih =>
    have h1 := (mayB_get (h b (List.mem_cons_self ..))).2.2.2.2.2.2.1
    have h2 := ih fun x hx => h x (List.mem_cons_of_mem _ hx)
    simp only [recsOf, List.length_cons]
    omega
theorem recsOf_take (l : List Batch) (i : Nat) : recsOf (l.take i) ≤ recsOf l := by
  induction l generalizing i with
  | nil => simp [recsOf]
  | cons b l ih =>
    cases i with
    | zero => simp [recsOf]
    | succ i => have := ih i; simp only [List.take_succ_cons, recsOf]; omega
def markP (p : Part) (x : Entry) : Option Part :=
  if (openP p x.b.pid).2 = false ∨ (openP p x.b.pid).1.epoch ≠ x.b.epoch then none
  else
    let q := if x.yes then (openP p x.b.pid).1.bats.foldl addP (awayP p x.b.pid) else awayP p x.b.pid
    some { q with fin := q.fin + 1, prods := clearP p.prods x.b.pid }
def z5 : List Dat := [.int .i64 0, .int .i64 0, .slice true [], .slice true [], .slice true []]
def e71 (l : List Batch) (i : Nat) : Env := [(2, .ptr 0 0), (3, .ptr 1 0), (4, .ptr 2 0), (37, .slice false (l.map encB)), (38, .int .i64 l.length), (39, .int .i64 i)]
theorem t71 {n : Nat} (p : Part) (x : Entry) (hn : n ≤ 900) (hp : okPt n p) : run tab 71 [.agg (encPt p), .agg (encE x)] [] = some (resP p (markP p x), []) := by
  have h65 := t65 p x.b.pid (by have := hp.opn; omega)
  have h84 := t84 p x.b.pid (by have := hp.opn; omega)
  have h16 := t16 p.prods x.b.pid (by have := hp.prods.1; omega)
  have hbt := openP_bats hp x.b.pid
  have hf := hp.fin
  have hr := hp.rows
  simp [awayP] at h65 h84 h16
  rw [run_eq, tab_71]
  cases hk : (openP p x.b.pid).2 with
  | false =>
    rw [hk] at h65
    simp [m71, x71_0, q71_0_0, x71_1, q71_1_0, q71_1_1, x71_2, q71_2_0, q71_2_1, x71_3, q71_3_0, x71_4, q71_4_0, x71_5, q71_5_0, x71_6, q71_6_0, x71_7, q71_7_0, x71_8, q71_8_0, x71_9, q71_9_0, x71_10, q71_10_0, x71_11, q71_11_0, x71_12, q71_12_0, q71_12_1, x71_13, q71_13_0, h65, esc_65, markP, hk, resP]
  | true =>
    rw [hk] at h65
    by_cases hep : (openP p x.b.pid).1.epoch = x.b.epoch
    · cases hy : x.yes with
      | false =>
        have hw : IntKind.wrap .i64 (p.fin + 1) = p.fin + 1 := wrap64 (by omega) (by omega)
        simp [m71, x71_0, q71_0_0, x71_1, q71_1_0, q71_1_1, x71_2, q71_2_0, q71_2_1, x71_3, q71_3_0, x71_4, q71_4_0, x71_5, q71_5_0, x71_6, q71_6_0, x71_7, q71_7_0, x71_8, q71_8_0, x71_9, q71_9_0, x71_10, q71_10_0, x71_11, q71_11_0, x71_12, q71_12_0, q71_12_1, x71_13, q71_13_0, h65, esc_65, markP, hk, resP, eq_true hep, hy, h84, esc_84, awayP, hw, h16, esc_16]
      | true =>
        simp [m71, x71_0, q71_0_0, x71_1, q71_1_0, q71_1_1, x71_2, q71_2_0, q71_2_1, x71_3, q71_3_0, x71_4, q71_4_0, x71_5, q71_5_0, x71_6, q71_6_0, x71_7, q71_7_0, x71_8, q71_8_0, x71_9, q71_9_0, x71_10, q71_10_0, x71_11, q71_11_0, x71_12, q71_12_0, q71_12_1, x71_13, q71_13_0, h65, esc_65, markP, hk, resP, eq_true hep, hy, h84, esc_84, awayP]
        simp only [Option.bind_assoc]
        have hrec := recsOf_le hbt.2
        refine (loop_cont (e71 (openP p x.b.pid).1.bats) (fun i => [z5, encE { x with yes := true }, encPt (((openP p x.b.pid).1.bats.take i).foldl addP (awayP p x.b.pid))]) (openP p x.b.pid).1.bats.length (fun _ => True)
          (fun _ => some (resP p (some { ((openP p x.b.pid).1.bats.foldl addP (awayP p x.b.pid)) with fin := ((openP p x.b.pid).1.bats.foldl addP (awayP p x.b.pid)).fin + 1, prods := clearP p.prods x.b.pid }), [])) trivial (fun _ => ?_) fun i hi _ => ?_).trans ?_
        · obtain ⟨f1, f2, f3, f4, f5⟩ := addAll_facts (openP p x.b.pid).1.bats (awayP p x.b.pid)
          have ha : (awayP p x.b.pid).fin = p.fin := rfl
          have ha2 : (awayP p x.b.pid).prods = p.prods := rfl
          have hw : IntKind.wrap .i64 (((openP p x.b.pid).1.bats.foldl addP (awayP p x.b.pid)).fin + 1) = ((openP p x.b.pid).1.bats.foldl addP (awayP p x.b.pid)).fin + 1 := wrap64 (by rw [f2, ha]; omega) (by rw [f2, ha]; omega)
          simp [l71_0, m71, x71_0, q71_0_0, x71_1, q71_1_0, q71_1_1, x71_2, q71_2_0, q71_2_1, x71_3, q71_3_0, x71_4, q71_4_0, x71_5, q71_5_0, x71_6, q71_6_0, x71_7, q71_7_0, x71_8, q71_8_0, x71_9, q71_9_0, x71_10, q71_10_0, x71_11, q71_11_0, x71_12, q71_12_0, q71_12_1, x71_13, q71_13_0, e71, z5, hy, f4, ha2, hw, h16, esc_16, resP]
        · have hw : IntKind.wrap .i64 ((i : Int) + 1) = i + 1 := wrap64 (by omega) (by omega)
          obtain ⟨f1, f2, f3, f4, f5⟩ := addAll_facts ((openP p x.b.pid).1.bats.take i) (awayP p x.b.pid)
          have ha : (awayP p x.b.pid).fin = p.fin := rfl
          have ha2 : (awayP p x.b.pid).rows = p.rows := rfl
          have hti := recsOf_take (openP p x.b.pid).1.bats i
          have hmb := mayB_get (hbt.2 _ (List.getElem_mem hi))
          have h82 := t82 (((openP p x.b.pid).1.bats.take i).foldl addP (awayP p x.b.pid)) (openP p x.b.pid).1.bats[i] (by rw [f1, ha2]; omega) (by omega) (by rw [f2, ha]; omega) (by omega)
          have ht : ((openP p x.b.pid).1.bats.take (i + 1)).foldl addP (awayP p x.b.pid) = addP (((openP p x.b.pid).1.bats.take i).foldl addP (awayP p x.b.pid)) (openP p x.b.pid).1.bats[i] := by
            rw [List.take_succ_eq_append_getElem hi, List.foldl_append]; rfl
          simp at h82
          refine .inl ⟨?_, trivial, rfl⟩
          simp [l71_0, m71, x71_0, q71_0_0, x71_1, q71_1_0, q71_1_1, x71_2, q71_2_0, q71_2_1, x71_3, q71_3_0, x71_4, q71_4_0, x71_5, q71_5_0, x71_6, q71_6_0, x71_7, q71_7_0, x71_8, q71_8_0, x71_9, q71_9_0, x71_10, q71_10_0, x71_11, q71_11_0, x71_12, q71_12_0, q71_12_1, x71_13, q71_13_0, e71, z5, hi, hw, h82, esc_82, ht]
        · simp [resP, awayP]
    · simp [m71, x71_0, q71_0_0, x71_1, q71_1_0, q71_1_1, x71_2, q71_2_0, q71_2_1, x71_3, q71_3_0, x71_4, q71_4_0, x71_5, q71_5_0, x71_6, q71_6_0, x71_7, q71_7_0, x71_8, q71_8_0, x71_9, q71_9_0, x71_10, q71_10_0, x71_11, q71_11_0, x71_12, q71_12_0, q71_12_1, x71_13, q71_13_0, h65, esc_65, markP, hk, resP, eq_false hep]
end Go.Mir.A
namespace Go.Mir.A
attribute [local congr] bind_head
attribute [local simp] encW encO encPt encE under_encB under_encW under_encO under_encE rowsOk_B rowsOk_W rowsOk_O rowsOk_E gc ofCells bindArgs resD St.get St.set Dat.underL Dat.underLL gc_self fillD elemsD rowsOk_nil rowsOk_cons rowsOk_app rowsOk_tk rowsOk_dp rowsOk_tl underLL_tl underLL_app underLL_tk underLL_dp nn1 nn2 take_rest take_full appD_nil Option.bind_some strip_undef strip1_undef norm_undef noTup_undef safe_undef cells_undef under_undef strip_int strip1_int norm_int noTup_int safe_int cells_int under_int strip_bool strip1_bool norm_bool noTup_bool safe_bool cells_bool under_bool strip_str strip1_str norm_str noTup_str safe_str cells_str under_str strip_agg strip1_agg norm_agg noTup_agg safe_agg cells_agg under_agg strip_tup strip1_tup norm_tup noTup_tup safe_tup cells_tup under_tup strip_slice strip1_slice norm_slice noTup_slice safe_slice cells_slice under_slice strip_nilp strip1_nilp norm_nilp noTup_nilp safe_nilp cells_nilp under_nilp strip_ptr strip1_ptr norm_ptr noTup_ptr safe_ptr cells_ptr under_ptr strip_rptr strip1_rptr norm_rptr noTup_rptr safe_rptr cells_rptr under_rptr strip_fn strip1_fn norm_fn noTup_fn safe_fn cells_fn under_fn strip_nilf strip1_nilf norm_nilf noTup_nilf safe_nilf cells_nilf under_nilf strip_iface strip1_iface norm_iface noTup_iface safe_iface cells_iface under_iface strip_nili strip1_nili norm_nili noTup_nili safe_nili cells_nili under_nili bin_add bin_sub bin_mul bin_quo bin_rem bin_eql bin_neq bin_lss bin_leq bin_gtr bin_geq bin_and bin_or bin_xor bin_andNot bin_shl bin_shr sbin_add sbin_eql sbin_neq sbin_lss sbin_leq sbin_gtr sbin_geq load_ptr load_rptr cellEq_int cellEq_bool cellEq_str cellsEq_nil cellsEq_cons rows_sl rows_str packD_one packD_nil packD_two leave_ret leave_normal leave_exit seqK_normal seqK_exit seqK_ret blockK_normal blockK_exit blockK_ret condK_bool exec_skip exec_exit exec_ret exec_loop exec_seq exec_block exec_cond ev_tmp ev_lit evs_nil evs_cons takeK_some take_tmp take_lit zk_eq keepK_some keepK_none keep_nil keep_cons putD_some putD_none put_eq get_nil get_cons steps_nil steps_cons step_none guardK_t guardK_f guardK_undef step_some pickV_bool eo_pick loadmV_ptr loadmV_rptr eo_loadm eo_load storeV_ptr eo_store storefV_ptr eo_storef clearK_ptr clearK_rptr clearK_none clear_eq nilCheckV_ptr nilCheckV_rptr nilCheckV_fn eo_nilCheck eqsV_agg eo_eqs eqbV_bool eo_eqb unV_neg unV_not eo_un convV_int eo_conv boundK_int bound_none bound_some sliceV_slice eo_slice substrV_str eo_substr fieldAddrV_ptr fieldAddrV_rptr eo_fieldAddr fieldV_agg eo_field indexV_slice eo_index indexArrV_ptr indexArrV_rptr eo_indexArr atV_str eo_at extractV_tup eo_extract extractnV_tup eo_extractn callV_fn eo_call callcV_fn eo_callc callrV_fn eo_callr callR_eq beq_st loadrV_rptr eo_loadr lenV_slice lenV_str eo_len appV_slice eo_append minV_int maxV_int eo_min2 eo_max2 eo_mov_t eo_mov_f eo_alloc eo_box eo_build eo_buildSlice eo_bin eo_mkfn callD_eq callC_eq encPs encP encB encS encR under_encP under_encS under_encR rowsOk_S rowsOk_P rowsOk_R
set_option linter.unusedSimpArgs false
set_option linter.unusedVariables false
set_option maxHeartbeats 1000000
set_option maxRecDepth 4000

def cutP (p : Part) (x : Entry) : Option Part := if x.off < p.start ∨ p.fin < x.off then none else some { p with start := x.off, rows := p.rows.filter fun r => decide (x.off ≤ r.off) }
theorem t72 (p : Part) (x : Entry) (hr : p.rows.length ≤ 2000000) : run tab 72 [.agg (encPt p), .agg (encE x)] [] = some (resP p (cutP p x), []) := by
  have h62 := t62 p.rows 85 0 (fun r => decide (x.off ≤ r.off)) (encPt { p with start := x.off }) [z5, encE x, encPt { p with start := x.off }] hr (fun r σ' h hid => t85 r _ 0 σ' h hid) (by simp)
  simp [z5] at h62
  rw [run_eq, tab_72]
  by_cases h1 : x.off < p.start
  · simp [m72, x72_0, q72_0_0, x72_1, q72_1_0, q72_1_1, x72_2, q72_2_0, x72_3, q72_3_0, x72_4, q72_4_0, x72_5, q72_5_0, h1, cutP, resP]
  · by_cases h2 : p.fin < x.off
    · simp [m72, x72_0, q72_0_0, x72_1, q72_1_0, q72_1_1, x72_2, q72_2_0, x72_3, q72_3_0, x72_4, q72_4_0, x72_5, q72_5_0, h1, h2, cutP, resP]
    · simp [m72, x72_0, q72_0_0, x72_1, q72_1_0, q72_1_1, x72_2, q72_2_0, x72_3, q72_3_0, x72_4, q72_4_0, x72_5, q72_5_0, h1, h2, cutP, resP, h62]
def rowP (p : Part) (x : Entry) : Option Part := some { p with rows := p.rows ++ [{ x.row with off := p.fin }], fin := p.fin + 1 }
theorem t74 (p : Part) (x : Entry) (hr : p.rows.length ≤ 2000000) (hf : 0 ≤ p.fin ∧ p.fin ≤ 1000000000) : run tab 74 [.agg (encPt p), .agg (encE x)] [] = some (resP p (rowP p x), []) := by
  have a1 := app_one (enc := encW) (n := 5) (bytes := 56) (fun _ => rfl) p.rows { x.row with off := p.fin } (by omega)
  have hw : IntKind.wrap .i64 (p.fin + 1) = p.fin + 1 := wrap64 (by omega) (by omega)
  simp at a1
  rw [run_eq, tab_74]
  simp [m74, x74_0, q74_0_0, x74_1, q74_1_0, x74_2, q74_2_0, x74_3, q74_3_0, q74_3_1, x74_4, q74_4_0, x74_5, q74_5_0, a1, hw, rowP, resP]
def stateP (p : Part) (x : Entry) : Option Part := if (openP p x.prod.pid).2 = true then none else some { p with prods := setP p.prods x.prod }
theorem t75 (p : Part) (x : Entry) (ho : p.opn.length ≤ 1000000) (hl : p.prods.length ≤ 1000) : run tab 75 [.agg (encPt p), .agg (encE x)] [] = some (resP p (stateP p x), []) := by
  have h65 := t65 p x.prod.pid ho
  have h33 := t33 p.prods x.prod hl
  simp at h65 h33
  rw [run_eq, tab_75]
  cases hk : (openP p x.prod.pid).2 with
  | true => rw [hk] at h65; simp [m75, x75_0, q75_0_0, x75_1, q75_1_0, q75_1_1, x75_2, q75_2_0, x75_3, q75_3_0, x75_4, q75_4_0, q75_4_1, x75_5, q75_5_0, h65, esc_65, stateP, hk, resP]
  | false => rw [hk] at h65; simp [m75, x75_0, q75_0_0, x75_1, q75_1_0, q75_1_1, x75_2, q75_2_0, x75_3, q75_3_0, x75_4, q75_4_0, q75_4_1, x75_5, q75_5_0, h65, esc_65, stateP, hk, resP, h33, esc_33]
theorem t73 (p : Part) (x : Entry) : run tab 73 [.agg (encPt p), .agg (encE x)] [] = some (resP p none, []) := by
  rw [run_eq, tab_73]
  simp [m73, x73_0, q73_0_0, x73_1, q73_1_0, resP]
def stepP (p : Part) (x : Entry) : Option Part :=
  if x.kind = 0 then dataP p x else if x.kind = 1 then markP p x else if x.kind = 2 then cutP p x else if x.kind = 5 then rowP p x else if x.kind = 6 then stateP p x else none
def nextP (p : Part) (x : Entry) : Option Part := if mayE x = false then none else (stepP p x).bind fun q => if 1048576 < q.fin then none else some q
def zeroPt : Part := ⟨0, 0, [], [], []⟩
theorem t60 {n : Nat} (p : Part) (x : Entry) (hn : n ≤ 900) (hp : okPt n p) (hl : x.b.recs.length ≤ 1000) (hs : x.prod.seen.length ≤ 1000) : run tab 60 [.agg (encPt p), .agg (encE x)] [] = some (resP zeroPt (nextP p x), []) := by
  have h64 := t64 x hl (by omega)
  have hr := hp.rows
  have ho := hp.opn
  have hpr := hp.prods.1
  have hf := hp.fin
  simp at h64
  rw [run_eq, tab_60]
  cases hm : mayE x with
  | false =>
    rw [hm] at h64
    simp [m60, x60_0, q60_0_0, x60_1, q60_1_0, x60_2, q60_2_0, x60_3, q60_3_0, x60_4, q60_4_0, q60_4_1, q60_4_2, x60_5, q60_5_0, q60_5_1, x60_6, q60_6_0, x60_7, q60_7_0, h64, esc_64, nextP, hm, resP, zeroPt]
  | true =>
    rw [hm] at h64
    have hk : 0 ≤ x.kind ∧ x.kind ≤ 6 := by
      simp only [mayE, Bool.and_eq_true, decide_eq_true_eq] at hm
      exact ⟨hm.1, hm.2.1⟩
    have d70 := t70 p x (by omega) hp hl
    have d71 := t71 p x hn hp
    have d72 := t72 p x (by omega)
    have d73 := t73 p x
    have d74 := t74 p x (by omega) (by omega)
    have d75 := t75 p x (by omega) (by omega)
    obtain ⟨kind, b, yes, nxt, off, row, prod⟩ := x
    simp only at hk hm h64 d70 d71 d72 d73 d74 d75
    have : kind = 0 ∨ kind = 1 ∨ kind = 2 ∨ kind = 3 ∨ kind = 4 ∨ kind = 5 ∨ kind = 6 := by omega
    rcases this with rfl | rfl | rfl | rfl | rfl | rfl | rfl
    · cases hr : dataP p ⟨0, b, yes, nxt, off, row, prod⟩ with
      | none =>
        rw [hr] at d70; simp [resP] at d70 h64
        simp [m60, x60_0, q60_0_0, x60_1, q60_1_0, x60_2, q60_2_0, x60_3, q60_3_0, x60_4, q60_4_0, q60_4_1, q60_4_2, x60_5, q60_5_0, q60_5_1, x60_6, q60_6_0, x60_7, q60_7_0, h64, esc_64, d70, esc_70, nextP, hm, stepP, hr, resP, zeroPt]
      | some q =>
        rw [hr] at d70; simp [resP] at d70 h64
        by_cases hq : 1048576 < q.fin <;>
        simp [m60, x60_0, q60_0_0, x60_1, q60_1_0, x60_2, q60_2_0, x60_3, q60_3_0, x60_4, q60_4_0, q60_4_1, q60_4_2, x60_5, q60_5_0, q60_5_1, x60_6, q60_6_0, x60_7, q60_7_0, h64, esc_64, d70, esc_70, nextP, hm, stepP, hr, resP, zeroPt, hq]
    · cases hr : markP p ⟨1, b, yes, nxt, off, row, prod⟩ with
      | none =>
        rw [hr] at d71; simp [resP] at d71 h64
        simp [m60, x60_0, q60_0_0, x60_1, q60_1_0, x60_2, q60_2_0, x60_3, q60_3_0, x60_4, q60_4_0, q60_4_1, q60_4_2, x60_5, q60_5_0, q60_5_1, x60_6, q60_6_0, x60_7, q60_7_0, h64, esc_64, d71, esc_71, nextP, hm, stepP, hr, resP, zeroPt]
      | some q =>
        rw [hr] at d71; simp [resP] at d71 h64
        by_cases hq : 1048576 < q.fin <;>
        simp [m60, x60_0, q60_0_0, x60_1, q60_1_0, x60_2, q60_2_0, x60_3, q60_3_0, x60_4, q60_4_0, q60_4_1, q60_4_2, x60_5, q60_5_0, q60_5_1, x60_6, q60_6_0, x60_7, q60_7_0, h64, esc_64, d71, esc_71, nextP, hm, stepP, hr, resP, zeroPt, hq]
    · cases hr : cutP p ⟨2, b, yes, nxt, off, row, prod⟩ with
      | none =>
        rw [hr] at d72; simp [resP] at d72 h64
        simp [m60, x60_0, q60_0_0, x60_1, q60_1_0, x60_2, q60_2_0, x60_3, q60_3_0, x60_4, q60_4_0, q60_4_1, q60_4_2, x60_5, q60_5_0, q60_5_1, x60_6, q60_6_0, x60_7, q60_7_0, h64, esc_64, d72, esc_72, nextP, hm, stepP, hr, resP, zeroPt]
      | some q =>
        rw [hr] at d72; simp [resP] at d72 h64
        by_cases hq : 1048576 < q.fin <;>
        simp [m60, x60_0, q60_0_0, x60_1, q60_1_0, x60_2, q60_2_0, x60_3, q60_3_0, x60_4, q60_4_0, q60_4_1, q60_4_2, x60_5, q60_5_0, q60_5_1, x60_6, q60_6_0, x60_7, q60_7_0, h64, esc_64, d72, esc_72, nextP, hm, stepP, hr, resP, zeroPt, hq]
    · simp [resP] at d73 h64
      simp [m60, x60_0, q60_0_0, x60_1, q60_1_0, x60_2, q60_2_0, x60_3, q60_3_0, x60_4, q60_4_0, q60_4_1, q60_4_2, x60_5, q60_5_0, q60_5_1, x60_6, q60_6_0, x60_7, q60_7_0, h64, esc_64, d73, esc_73, nextP, hm, stepP, resP, zeroPt]
    · simp [resP] at d73 h64
      simp [m60, x60_0, q60_0_0, x60_1, q60_1_0, x60_2, q60_2_0, x60_3, q60_3_0, x60_4, q60_4_0, q60_4_1, q60_4_2, x60_5, q60_5_0, q60_5_1, x60_6, q60_6_0, x60_7, q60_7_0, h64, esc_64, d73, esc_73, nextP, hm, stepP, resP, zeroPt]
    · cases hr : rowP p ⟨5, b, yes, nxt, off, row, prod⟩ with
      | none =>
        rw [hr] at d74; simp [resP] at d74 h64
        simp [m60, x60_0, q60_0_0, x60_1, q60_1_0, x60_2, q60_2_0, x60_3, q60_3_0, x60_4, q60_4_0, q60_4_1, q60_4_2, x60_5, q60_5_0, q60_5_1, x60_6, q60_6_0, x60_7, q60_7_0, h64, esc_64, d74, esc_74, nextP, hm, stepP, hr, resP, zeroPt]
      | some q =>
        rw [hr] at d74; simp [resP] at d74 h64
        by_cases hq : 1048576 < q.fin <;>
        simp [m60, x60_0, q60_0_0, x60_1, q60_1_0, x60_2, q60_2_0, x60_3, q60_3_0, x60_4, q60_4_0, q60_4_1, q60_4_2, x60_5, q60_5_0, q60_5_1, x60_6, q60_6_0, x60_7, q60_7_0, h64, esc_64, d74, esc_74, nextP, hm, stepP, hr, resP, zeroPt, hq]
    · cases hr : stateP p ⟨6, b, yes, nxt, off, row, prod⟩ with
      | none =>
        rw [hr] at d75; simp [resP] at d75 h64
        simp [m60, x60_0, q60_0_0, x60_1, q60_1_0, x60_2, q60_2_0, x60_3, q60_3_0, x60_4, q60_4_0, q60_4_1, q60_4_2, x60_5, q60_5_0, q60_5_1, x60_6, q60_6_0, x60_7, q60_7_0, h64, esc_64, d75, esc_75, nextP, hm, stepP, hr, resP, zeroPt]
      | some q =>
        rw [hr] at d75; simp [resP] at d75 h64
        by_cases hq : 1048576 < q.fin <;>
        simp [m60, x60_0, q60_0_0, x60_1, q60_1_0, x60_2, q60_2_0, x60_3, q60_3_0, x60_4, q60_4_0, q60_4_1, q60_4_2, x60_5, q60_5_0, q60_5_1, x60_6, q60_6_0, x60_7, q60_7_0, h64, esc_64, d75, esc_75, nextP, hm, stepP, hr, resP, zeroPt, hq]
end Go.Mir.A
namespace Go.Mir.A
attribute [local congr] bind_head
attribute [local simp] encW encO encPt encE under_encB under_encW under_encO under_encE rowsOk_B rowsOk_W rowsOk_O rowsOk_E gc ofCells bindArgs resD St.get St.set Dat.underL Dat.underLL gc_self fillD elemsD rowsOk_nil rowsOk_cons rowsOk_app rowsOk_tk rowsOk_dp rowsOk_tl underLL_tl underLL_app underLL_tk underLL_dp nn1 nn2 take_rest take_full appD_nil Option.bind_some strip_undef strip1_undef norm_undef noTup_undef safe_undef cells_undef under_undef strip_int strip1_int norm_int noTup_int safe_int cells_int under_int strip_bool strip1_bool norm_bool noTup_bool safe_bool cells_bool under_bool strip_str strip1_str norm_str noTup_str safe_str cells_str under_str strip_agg strip1_agg norm_agg noTup_agg safe_agg cells_agg under_agg strip_tup strip1_tup norm_tup noTup_tup safe_tup cells_tup under_tup strip_slice strip1_slice norm_slice noTup_slice safe_slice cells_slice under_slice strip_nilp strip1_nilp norm_nilp noTup_nilp safe_nilp cells_nilp under_nilp strip_ptr strip1_ptr norm_ptr noTup_ptr safe_ptr cells_ptr under_ptr strip_rptr strip1_rptr norm_rptr noTup_rptr safe_rptr cells_rptr under_rptr strip_fn strip1_fn norm_fn noTup_fn safe_fn cells_fn under_fn strip_nilf strip1_nilf norm_nilf noTup_nilf safe_nilf cells_nilf under_nilf strip_iface strip1_iface norm_iface noTup_iface safe_iface cells_iface under_iface strip_nili strip1_nili norm_nili noTup_nili safe_nili cells_nili under_nili bin_add bin_sub bin_mul bin_quo bin_rem bin_eql bin_neq bin_lss bin_leq bin_gtr bin_geq bin_and bin_or bin_xor bin_andNot bin_shl bin_shr sbin_add sbin_eql sbin_neq sbin_lss sbin_leq sbin_gtr sbin_geq load_ptr load_rptr cellEq_int cellEq_bool cellEq_str cellsEq_nil cellsEq_cons rows_sl rows_str packD_one packD_nil packD_two leave_ret leave_normal leave_exit seqK_normal seqK_exit seqK_ret blockK_normal blockK_exit blockK_ret condK_bool exec_skip exec_exit exec_ret exec_loop exec_seq exec_block exec_cond ev_tmp ev_lit evs_nil evs_cons takeK_some take_tmp take_lit zk_eq keepK_some keepK_none keep_nil keep_cons putD_some putD_none put_eq get_nil get_cons steps_nil steps_cons step_none guardK_t guardK_f guardK_undef step_some pickV_bool eo_pick loadmV_ptr loadmV_rptr eo_loadm eo_load storeV_ptr eo_store storefV_ptr eo_storef clearK_ptr clearK_rptr clearK_none clear_eq nilCheckV_ptr nilCheckV_rptr nilCheckV_fn eo_nilCheck eqsV_agg eo_eqs eqbV_bool eo_eqb unV_neg unV_not eo_un convV_int eo_conv boundK_int bound_none bound_some sliceV_slice eo_slice substrV_str eo_substr fieldAddrV_ptr fieldAddrV_rptr eo_fieldAddr fieldV_agg eo_field indexV_slice eo_index indexArrV_ptr indexArrV_rptr eo_indexArr atV_str eo_at extractV_tup eo_extract extractnV_tup eo_extractn callV_fn eo_call callcV_fn eo_callc callrV_fn eo_callr callR_eq beq_st loadrV_rptr eo_loadr lenV_slice lenV_str eo_len appV_slice eo_append minV_int maxV_int eo_min2 eo_max2 eo_mov_t eo_mov_f eo_alloc eo_box eo_build eo_buildSlice eo_bin eo_mkfn callD_eq callC_eq encPs encP encB encS encR under_encP under_encS under_encR rowsOk_S rowsOk_P rowsOk_R
set_option linter.unusedSimpArgs false
set_option linter.unusedVariables false
set_option maxHeartbeats 1000000
set_option maxRecDepth 4000

theorem rngS_known {p : Prod} (h : knownP p = true) : rngS p.seen := by
  simp only [knownP, Bool.and_eq_true, decide_eq_true_eq] at h
  have key : ∀ (l : List Seen) (least n : Int), okAll l least n = true → ∀ s ∈ l, s.seq ≤ n := by
    intro l
    induction l with
    | nil => intro _ _ _ s hs; cases hs
    | cons x r ih =>
      intro least n h s hs
      simp only [okAll, okS, Bool.and_eq_true, decide_eq_true_eq] at h
      rcases List.mem_cons.1 hs with rfl | hs
      · exact h.1.1.1.2
      · exact ih _ _ h.2 s hs
  intro s hs
  have := key _ _ _ h.2 s hs
  omega
theorem mayE_K {x : Entry} (h : mayE x = true) : mayK x = true := by
  simp only [mayE, Bool.and_eq_true] at h
  exact h.2.2.2
theorem nextP_ok {n : Nat} {p q : Part} {x : Entry} (hp : okPt n p) (h : nextP p x = some q) : okPt (n + 1) q ∧ mayE x = true ∧ stepP p x = some q ∧ q.fin ≤ 1048576 := by
  unfold nextP at h
  cases hm : mayE x with
  | false => rw [hm] at h; simp at h
  | true =>
    rw [hm] at h
    simp only [Bool.true_eq_false, if_false, Option.bind_eq_some_iff] at h
    obtain ⟨r, hr, h⟩ := h
    split at h
    · cases h
    · rename_i hf
      injection h with h
      subst h
      refine ⟨?_, rfl, hr, by omega⟩
      have hup : okN (n + 1 + 3) p.prods := okN_up hp.prods (by omega)
      have h1 := hp.rows
      have h2 := hp.opn
      have h3 := hp.fin
      have hK := mayE_K hm
      unfold stepP at hr
      split at hr
      · -- data
        rename_i hk0
        unfold dataP at hr
        by_cases hc : (takeP p.prods x.b (if x.b.txn then -1 else p.fin)).2 ≠ 0 ∨ ((openP p x.b.pid).2 = true ∧ x.b.txn = false) ∨ ((openP p x.b.pid).2 = true ∧ (openP p x.b.pid).1.epoch ≠ x.b.epoch) ∨ (openP p x.b.pid).1.bats.length = 8
        · rw [if_pos hc] at hr; cases hr
        · rw [if_neg hc] at hr
          simp only [not_or, ne_eq, Decidable.not_not] at hc
          obtain ⟨c1, c2, c3, c4⟩ := hc
          have hb : mayB x.b = true := by
            unfold mayK at hK
            rw [if_neg (by omega), if_pos hk0] at hK
            exact hK
          have hbg := mayB_get hb
          split at hr
          · rename_i htx
            injection hr with hr
            subst hr
            have hbt := openP_bats hp x.b.pid
            refine ⟨by simpa [withP] using (by omega : p.rows.length ≤ 1500 * (n + 1)), ?_, ?_, ?_, ⟨h3.1, by omega⟩⟩
            · simp only [withP, List.length_append, List.length_cons, List.length_nil]
              have : ∀ l : List Opn, (l.filter fun o => decide (o.pid < (openP p x.b.pid).1.pid)).length + (l.filter fun o => decide ((openP p x.b.pid).1.pid < o.pid)).length ≤ l.length := by
                intro l
                induction l with
                | nil => simp
                | cons o l ih =>
                  by_cases a1 : o.pid < (openP p x.b.pid).1.pid
                  · have a2 : ¬ (openP p x.b.pid).1.pid < o.pid := by omega
                    simp [a1, a2]; omega
                  · by_cases a2 : (openP p x.b.pid).1.pid < o.pid
                    · simp [a1, a2]; omega
                    · simp [a1, a2]; omega
              have := this p.opn
              omega
            · intro o ho
              simp only [withP, List.mem_append, List.mem_filter, List.mem_singleton] at ho
              rcases ho with (ho | rfl) | ho
              · exact hp.bats o ho.1
              · refine ⟨by simp; omega, fun b hb' => ?_⟩
                simp only [List.mem_append, List.mem_singleton] at hb'
                rcases hb' with hb' | rfl
                · exact hbt.2 b hb'
                · exact hb
              · exact hp.bats o ho.1
            · exact takeP_ok hp.prods x.b (-1) (by omega)
          · injection hr with hr
            subst hr
            refine ⟨?_, by simp only [addP]; omega, hp.bats, takeP_ok hp.prods x.b p.fin (by omega), ⟨?_, by omega⟩⟩
            · simp only [addP, List.length_append, rowsB_len]; omega
            · simp only [addP]; omega
      split at hr
      · -- mark
        unfold markP at hr
        split at hr
        · cases hr
        · rename_i hc
          simp only [not_or, Bool.not_eq_false, ne_eq, Decidable.not_not] at hc
          injection hr with hr
          have hbt := openP_bats hp x.b.pid
          have hrec := recsOf_le hbt.2
          obtain ⟨f1, f2, f3, f4, f5⟩ := addAll_facts (openP p x.b.pid).1.bats (awayP p x.b.pid)
          have a1 : (awayP p x.b.pid).rows = p.rows := rfl
          have a2 : (awayP p x.b.pid).fin = p.fin := rfl
          have a3 : (awayP p x.b.pid).opn.length ≤ p.opn.length := List.length_filter_le ..
          have a4 : ∀ o ∈ (awayP p x.b.pid).opn, o ∈ p.opn := fun o ho => (List.mem_filter.1 ho).1
          rw [← hr]
          cases hy : x.yes with
          | false =>
            refine ⟨by simp only [Bool.false_eq_true, if_false, a1]; omega, by simp only [Bool.false_eq_true, if_false]; omega, fun o ho => hp.bats o (a4 o (by simpa using ho)), okN_up (clearP_ok hp.prods _) (by omega), ?_⟩
            rw [← hr] at hf
            simp only [hy, Bool.false_eq_true, if_false, a2] at hf ⊢
            omega
          | true =>
            refine ⟨by simp only [if_true, f1, a1]; omega, by simp only [if_true, f3]; omega, fun o ho => hp.bats o (a4 o (by simpa [f3] using ho)), okN_up (clearP_ok hp.prods _) (by omega), ?_⟩
            rw [← hr] at hf
            simp only [hy, if_true, f2, a2] at hf ⊢
            omega
      split at hr
      · unfold cutP at hr
        split at hr
        · cases hr
        · injection hr with hr
          subst hr
          exact ⟨Nat.le_trans (List.length_filter_le ..) (by omega), by simp only; omega, hp.bats, hup, h3⟩
      split at hr
      · unfold rowP at hr
        injection hr with hr
        subst hr
        refine ⟨by simp; omega, by simp only; omega, hp.bats, hup, by simp only; omega, by omega⟩
      split at hr
      · rename_i g0 g1 g2 g5 g6
        unfold stateP at hr
        split at hr
        · cases hr
        · injection hr with hr
          subst hr
          have hkn : knownP x.prod = true := by
            unfold mayK at hK
            rw [if_neg (by omega), if_neg (by omega), if_neg (by omega), if_neg (by omega), if_neg (by omega), if_neg (by omega)] at hK
            exact hK
          refine ⟨by simp only; omega, by simp only; omega, hp.bats, ?_, h3⟩
          exact setP_ok hp.prods ⟨by have := knownP_len hkn; omega, rngS_known hkn⟩
      · cases hr
def foldP : List Entry → Part → Option Part
  | [], p => some p
  | x :: l, p => (nextP p x).bind (foldP l)

def encPtF (o : Bool) (p : Part) : List Dat := [.int .i64 p.start, .int .i64 p.fin, .slice o (p.rows.map encW), .slice o (p.opn.map encO), .slice o (p.prods.map encP)]
attribute [local simp] encPtF
theorem t48 {n : Nat} (p : Part) (o : Bool) (x : Entry) (v : List Dat) (hn : n ≤ 900) (hp : okPt n p) (hl : x.b.recs.length ≤ 1000) (hs : x.prod.seen.length ≤ 1000) (hv : Dat.underL 1 v = true) : run tab 48 [.ptr 1 0, .agg (encE x)] [v, encPtF o p, z5] = some (.int .i64 (if (nextP p x).isSome then 0 else 70), [v, encPt ((nextP p x).getD zeroPt), z5]) := by
  have h60 := t60 p x hn hp hl hs
  simp [resP] at h60
  rw [run_eq, tab_48]
  simp [m48, x48_0, q48_0_0, x48_1, q48_1_0, q48_1_1, x48_2, q48_2_0, x48_3, q48_3_0, h60, esc_60, gc_self]
end Go.Mir.A
namespace Go.Mir.A
attribute [local congr] bind_head
attribute [local simp] encW encO encPt encE under_encB under_encW under_encO under_encE rowsOk_B rowsOk_W rowsOk_O rowsOk_E gc ofCells bindArgs resD St.get St.set Dat.underL Dat.underLL gc_self fillD elemsD rowsOk_nil rowsOk_cons rowsOk_app rowsOk_tk rowsOk_dp rowsOk_tl underLL_tl underLL_app underLL_tk underLL_dp nn1 nn2 take_rest take_full appD_nil Option.bind_some strip_undef strip1_undef norm_undef noTup_undef safe_undef cells_undef under_undef strip_int strip1_int norm_int noTup_int safe_int cells_int under_int strip_bool strip1_bool norm_bool noTup_bool safe_bool cells_bool under_bool strip_str strip1_str norm_str noTup_str safe_str cells_str under_str strip_agg strip1_agg norm_agg noTup_agg safe_agg cells_agg under_agg strip_tup strip1_tup norm_tup noTup_tup safe_tup cells_tup under_tup strip_slice strip1_slice norm_slice noTup_slice safe_slice cells_slice under_slice strip_nilp strip1_nilp norm_nilp noTup_nilp safe_nilp cells_nilp under_nilp strip_ptr strip1_ptr norm_ptr noTup_ptr safe_ptr cells_ptr under_ptr strip_rptr strip1_rptr norm_rptr noTup_rptr safe_rptr cells_rptr under_rptr strip_fn strip1_fn norm_fn noTup_fn safe_fn cells_fn under_fn strip_nilf strip1_nilf norm_nilf noTup_nilf safe_nilf cells_nilf under_nilf strip_iface strip1_iface norm_iface noTup_iface safe_iface cells_iface under_iface strip_nili strip1_nili norm_nili noTup_nili safe_nili cells_nili under_nili bin_add bin_sub bin_mul bin_quo bin_rem bin_eql bin_neq bin_lss bin_leq bin_gtr bin_geq bin_and bin_or bin_xor bin_andNot bin_shl bin_shr sbin_add sbin_eql sbin_neq sbin_lss sbin_leq sbin_gtr sbin_geq load_ptr load_rptr cellEq_int cellEq_bool cellEq_str cellsEq_nil cellsEq_cons rows_sl rows_str packD_one packD_nil packD_two leave_ret leave_normal leave_exit seqK_normal seqK_exit seqK_ret blockK_normal blockK_exit blockK_ret condK_bool exec_skip exec_exit exec_ret exec_loop exec_seq exec_block exec_cond ev_tmp ev_lit evs_nil evs_cons takeK_some take_tmp take_lit zk_eq keepK_some keepK_none keep_nil keep_cons putD_some putD_none put_eq get_nil get_cons steps_nil steps_cons step_none guardK_t guardK_f guardK_undef step_some pickV_bool eo_pick loadmV_ptr loadmV_rptr eo_loadm eo_load storeV_ptr eo_store storefV_ptr eo_storef clearK_ptr clearK_rptr clearK_none clear_eq nilCheckV_ptr nilCheckV_rptr nilCheckV_fn eo_nilCheck eqsV_agg eo_eqs eqbV_bool eo_eqb unV_neg unV_not eo_un convV_int eo_conv boundK_int bound_none bound_some sliceV_slice eo_slice substrV_str eo_substr fieldAddrV_ptr fieldAddrV_rptr eo_fieldAddr fieldV_agg eo_field indexV_slice eo_index indexArrV_ptr indexArrV_rptr eo_indexArr atV_str eo_at extractV_tup eo_extract extractnV_tup eo_extractn callV_fn eo_call callcV_fn eo_callc callrV_fn eo_callr callR_eq beq_st loadrV_rptr eo_loadr lenV_slice lenV_str eo_len appV_slice eo_append minV_int maxV_int eo_min2 eo_max2 eo_mov_t eo_mov_f eo_alloc eo_box eo_build eo_buildSlice eo_bin eo_mkfn callD_eq callC_eq encPs encP encB encS encR under_encP under_encS under_encR rowsOk_S rowsOk_P rowsOk_R
set_option linter.unusedSimpArgs false
set_option linter.unusedVariables false
set_option maxHeartbeats 1000000
set_option maxRecDepth 4000
attribute [local simp] encPtF

abbrev FoldSt := Nat × Bool × Part
def e25 (l : List Entry) (a : FoldSt) : Env := [(2, .ptr 0 0), (4, .ptr 1 0), (5, .fn 48 []), (11, .slice false (l.map encE)), (12, .int .i64 l.length), (13, .int .i64 a.1)]
theorem okPt_zero : okPt 0 zeroPt := ⟨Nat.le_refl _, Nat.le_refl _, (fun o ho => by cases ho), ⟨Nat.zero_le _, fun p hp => by cases hp⟩, by decide⟩
theorem foldP_ok : ∀ {l : List Entry} {n : Nat} {p q : Part}, okPt n p → foldP l p = some q → okPt (n + l.length) q
  | [], n, p, q, hp, h => by simp only [foldP, Option.some.injEq] at h; subst h; exact hp
  | x :: l, n, p, q, hp, h => by
    simp only [foldP, Option.bind_eq_some_iff] at h
    obtain ⟨r, hr, h⟩ := h
    have := foldP_ok (nextP_ok hp hr).1 h
    rw [List.length_cons, show n + (l.length + 1) = n + 1 + l.length by omega]
    exact this
theorem t25 (l : List Entry) (hn : l.length ≤ 800) (hl : ∀ x ∈ l, x.b.recs.length ≤ 1000) (hs : ∀ x ∈ l, x.prod.seen.length ≤ 1000) : run tab 25 [.slice false (l.map encE)] [] = some (resP zeroPt (foldP l zeroPt), []) := by
  rw [run_eq, tab_25]
  simp [m25, x25_0, q25_0_0, x25_1, q25_1_0, x25_2, q25_2_0, x25_3, q25_3_0, x25_4, q25_4_0, x25_5, q25_5_0, x25_6, q25_6_0, x25_7, q25_7_0, x25_8, q25_8_0, x25_9, q25_9_0, x25_10, q25_10_0]
  simp only [Option.bind_assoc]
  refine (loop_st (e25 l) (fun a => [encPtF a.2.1 a.2.2, z5]) (fun a => l.length - a.1) (fun a => a.1 ≤ l.length ∧ okPt a.1 a.2.2) (fun a => some (resP zeroPt (foldP (l.drop a.1) a.2.2), [])) (fun a ha => ?_) (0, true, zeroPt) ⟨Nat.zero_le _, okPt_zero⟩).trans (by simp)
  obtain ⟨i, o, p⟩ := a
  obtain ⟨h1, h2⟩ := ha
  simp only at h1 h2 ⊢
  by_cases hi : i < l.length
  · have hw : IntKind.wrap .i64 ((i : Int) + 1) = i + 1 := wrap64 (by omega) (by omega)
    have hx := List.getElem_mem hi
    have h48 := t48 p o l[i] (encE l[i]) (by omega) h2 (hl _ hx) (hs _ hx) (by simp)
    rw [List.drop_eq_getElem_cons hi, foldP]
    cases hr : nextP p l[i] with
    | none =>
      rw [hr] at h48
      simp [z5, zeroPt] at h48
      refine .inr ?_
      simp [l25_0, m25, x25_0, q25_0_0, x25_1, q25_1_0, x25_2, q25_2_0, x25_3, q25_3_0, x25_4, q25_4_0, x25_5, q25_5_0, x25_6, q25_6_0, x25_7, q25_7_0, x25_8, q25_8_0, x25_9, q25_9_0, x25_10, q25_10_0, e25, z5, hi, h48, resP, zeroPt]
    | some q =>
      rw [hr] at h48
      simp [z5] at h48
      refine .inl ⟨(i + 1, false, q), ?_, ⟨hi, (nextP_ok h2 hr).1⟩, by simp only; omega, rfl⟩
      simp [l25_0, m25, x25_0, q25_0_0, x25_1, q25_1_0, x25_2, q25_2_0, x25_3, q25_3_0, x25_4, q25_4_0, x25_5, q25_5_0, x25_6, q25_6_0, x25_7, q25_7_0, x25_8, q25_8_0, x25_9, q25_9_0, x25_10, q25_10_0, e25, z5, hi, h48, hw]
  · have hi' : i = l.length := by omega
    subst hi'
    refine .inr ?_
    simp [l25_0, m25, x25_0, q25_0_0, x25_1, q25_1_0, x25_2, q25_2_0, x25_3, q25_3_0, x25_4, q25_4_0, x25_5, q25_5_0, x25_6, q25_6_0, x25_7, q25_7_0, x25_8, q25_8_0, x25_9, q25_9_0, x25_10, q25_10_0, e25, z5, foldP, resP]
end Go.Mir.A
namespace Go.Mir.A
attribute [local congr] bind_head
attribute [local simp] encW encO encPt encE under_encB under_encW under_encO under_encE rowsOk_B rowsOk_W rowsOk_O rowsOk_E gc ofCells bindArgs resD St.get St.set Dat.underL Dat.underLL gc_self fillD elemsD rowsOk_nil rowsOk_cons rowsOk_app rowsOk_tk rowsOk_dp rowsOk_tl underLL_tl underLL_app underLL_tk underLL_dp nn1 nn2 take_rest take_full appD_nil Option.bind_some strip_undef strip1_undef norm_undef noTup_undef safe_undef cells_undef under_undef strip_int strip1_int norm_int noTup_int safe_int cells_int under_int strip_bool strip1_bool norm_bool noTup_bool safe_bool cells_bool under_bool strip_str strip1_str norm_str noTup_str safe_str cells_str under_str strip_agg strip1_agg norm_agg noTup_agg safe_agg cells_agg under_agg strip_tup strip1_tup norm_tup noTup_tup safe_tup cells_tup under_tup strip_slice strip1_slice norm_slice noTup_slice safe_slice cells_slice under_slice strip_nilp strip1_nilp norm_nilp noTup_nilp safe_nilp cells_nilp under_nilp strip_ptr strip1_ptr norm_ptr noTup_ptr safe_ptr cells_ptr under_ptr strip_rptr strip1_rptr norm_rptr noTup_rptr safe_rptr cells_rptr under_rptr strip_fn strip1_fn norm_fn noTup_fn safe_fn cells_fn under_fn strip_nilf strip1_nilf norm_nilf noTup_nilf safe_nilf cells_nilf under_nilf strip_iface strip1_iface norm_iface noTup_iface safe_iface cells_iface under_iface strip_nili strip1_nili norm_nili noTup_nili safe_nili cells_nili under_nili bin_add bin_sub bin_mul bin_quo bin_rem bin_eql bin_neq bin_lss bin_leq bin_gtr bin_geq bin_and bin_or bin_xor bin_andNot bin_shl bin_shr sbin_add sbin_eql sbin_neq sbin_lss sbin_leq sbin_gtr sbin_geq load_ptr load_rptr cellEq_int cellEq_bool cellEq_str cellsEq_nil cellsEq_cons rows_sl rows_str packD_one packD_nil packD_two leave_ret leave_normal leave_exit seqK_normal seqK_exit seqK_ret blockK_normal blockK_exit blockK_ret condK_bool exec_skip exec_exit exec_ret exec_loop exec_seq exec_block exec_cond ev_tmp ev_lit evs_nil evs_cons takeK_some take_tmp take_lit zk_eq keepK_some keepK_none keep_nil keep_cons putD_some putD_none put_eq get_nil get_cons steps_nil steps_cons step_none guardK_t guardK_f guardK_undef step_some pickV_bool eo_pick loadmV_ptr loadmV_rptr eo_loadm eo_load storeV_ptr eo_store storefV_ptr eo_storef clearK_ptr clearK_rptr clearK_none clear_eq nilCheckV_ptr nilCheckV_rptr nilCheckV_fn eo_nilCheck eqsV_agg eo_eqs eqbV_bool eo_eqb unV_neg unV_not eo_un convV_int eo_conv boundK_int bound_none bound_some sliceV_slice eo_slice substrV_str eo_substr fieldAddrV_ptr fieldAddrV_rptr eo_fieldAddr fieldV_agg eo_field indexV_slice eo_index indexArrV_ptr indexArrV_rptr eo_indexArr atV_str eo_at extractV_tup eo_extract extractnV_tup eo_extractn callV_fn eo_call callcV_fn eo_callc callrV_fn eo_callr callR_eq beq_st loadrV_rptr eo_loadr lenV_slice lenV_str eo_len appV_slice eo_append minV_int maxV_int eo_min2 eo_max2 eo_mov_t eo_mov_f eo_alloc eo_box eo_build eo_buildSlice eo_bin eo_mkfn callD_eq callC_eq encPs encP encB encS encR under_encP under_encS under_encR rowsOk_S rowsOk_P rowsOk_R
set_option linter.unusedSimpArgs false
set_option linter.unusedVariables false
set_option maxHeartbeats 1000000
set_option maxRecDepth 4000

def bigR (r : Rec) : Bool := decide (200 < r.key.length) || decide (200 < r.value.length)
def greatE (x : Entry) : Bool := decide (40 < x.b.recs.length) || (decide (200 < x.row.key.length) || (decide (200 < x.row.value.length) || (decide (40 < x.prod.seen.length) || x.b.recs.any bigR)))
def e46 (i : Nat) : Env := [(1, .ptr 0 0), (3, .int .i64 i)]
theorem t46 (x : Entry) (hl : x.b.recs.length ≤ 9223372036854775807) : run tab 46 [.agg (encE x)] [] = some (.bool (greatE x), []) := by
  rw [run_eq, tab_46]
  by_cases h1 : 40 < x.b.recs.length
  · have h1' : (40 : Int) < x.b.recs.length := by omega
    simp [m46, x46_0, q46_0_0, x46_1, q46_1_0, q46_1_1, q46_1_2, q46_1_3, q46_1_4, x46_2, q46_2_0, x46_3, q46_3_0, x46_4, q46_4_0, x46_6, q46_6_0, q46_6_1, q46_6_2, q46_6_3, x46_7, q46_7_0, x46_5, q46_5_0, x46_8, q46_8_0, h1', greatE, h1]
  have h1' : ¬ (40 : Int) < x.b.recs.length := by omega
  by_cases h2 : 200 < x.row.key.length
  · have h2' : (200 : Int) < x.row.key.length := by omega
    simp [m46, x46_0, q46_0_0, x46_1, q46_1_0, q46_1_1, q46_1_2, q46_1_3, q46_1_4, x46_2, q46_2_0, x46_3, q46_3_0, x46_4, q46_4_0, x46_6, q46_6_0, q46_6_1, q46_6_2, q46_6_3, x46_7, q46_7_0, x46_5, q46_5_0, x46_8, q46_8_0, h1', h2', greatE, h1, h2]
  have h2' : ¬ (200 : Int) < x.row.key.length := by omega
  by_cases h3 : 200 < x.row.value.length
  · have h3' : (200 : Int) < x.row.value.length := by omega
    simp [m46, x46_0, q46_0_0, x46_1, q46_1_0, q46_1_1, q46_1_2, q46_1_3, q46_1_4, x46_2, q46_2_0, x46_3, q46_3_0, x46_4, q46_4_0, x46_6, q46_6_0, q46_6_1, q46_6_2, q46_6_3, x46_7, q46_7_0, x46_5, q46_5_0, x46_8, q46_8_0, h1', h2', h3', greatE, h1, h2, h3]
  have h3' : ¬ (200 : Int) < x.row.value.length := by omega
  by_cases h4 : 40 < x.prod.seen.length
  · have h4' : (40 : Int) < x.prod.seen.length := by omega
    simp [m46, x46_0, q46_0_0, x46_1, q46_1_0, q46_1_1, q46_1_2, q46_1_3, q46_1_4, x46_2, q46_2_0, x46_3, q46_3_0, x46_4, q46_4_0, x46_6, q46_6_0, q46_6_1, q46_6_2, q46_6_3, x46_7, q46_7_0, x46_5, q46_5_0, x46_8, q46_8_0, h1', h2', h3', h4', greatE, h1, h2, h3, h4]
  have h4' : ¬ (40 : Int) < x.prod.seen.length := by omega
  simp [m46, x46_0, q46_0_0, x46_1, q46_1_0, q46_1_1, q46_1_2, q46_1_3, q46_1_4, x46_2, q46_2_0, x46_3, q46_3_0, x46_4, q46_4_0, x46_6, q46_6_0, q46_6_1, q46_6_2, q46_6_3, x46_7, q46_7_0, x46_5, q46_5_0, x46_8, q46_8_0, h1', h2', h3', h4', greatE, h1, h2, h3, h4]
  simp only [Option.bind_assoc]
  refine (loop_cont e46 (fun _ => [encE x]) x.b.recs.length (fun _ => True) (fun i => some (Dat.bool ((x.b.recs.drop i).any bigR), [])) trivial (fun _ => ?_) fun i hi _ => ?_)
  · simp [l46_0, m46, x46_0, q46_0_0, x46_1, q46_1_0, q46_1_1, q46_1_2, q46_1_3, q46_1_4, x46_2, q46_2_0, x46_3, q46_3_0, x46_4, q46_4_0, x46_6, q46_6_0, q46_6_1, q46_6_2, q46_6_3, x46_7, q46_7_0, x46_5, q46_5_0, x46_8, q46_8_0, e46]
  · have hw : IntKind.wrap .i64 ((i : Int) + 1) = i + 1 := wrap64 (by omega) (by omega)
    rw [List.drop_eq_getElem_cons hi, List.any_cons]
    by_cases k1 : 200 < (x.b.recs[i]).key.length
    · have k1' : (200 : Int) < (x.b.recs[i]).key.length := by omega
      refine .inr ?_
      simp [l46_0, m46, x46_0, q46_0_0, x46_1, q46_1_0, q46_1_1, q46_1_2, q46_1_3, q46_1_4, x46_2, q46_2_0, x46_3, q46_3_0, x46_4, q46_4_0, x46_6, q46_6_0, q46_6_1, q46_6_2, q46_6_3, x46_7, q46_7_0, x46_5, q46_5_0, x46_8, q46_8_0, e46, hi, k1', bigR, k1]
    · have k1' : ¬ (200 : Int) < (x.b.recs[i]).key.length := by omega
      by_cases k2 : 200 < (x.b.recs[i]).value.length
      · have k2' : (200 : Int) < (x.b.recs[i]).value.length := by omega
        refine .inr ?_
        simp [l46_0, m46, x46_0, q46_0_0, x46_1, q46_1_0, q46_1_1, q46_1_2, q46_1_3, q46_1_4, x46_2, q46_2_0, x46_3, q46_3_0, x46_4, q46_4_0, x46_6, q46_6_0, q46_6_1, q46_6_2, q46_6_3, x46_7, q46_7_0, x46_5, q46_5_0, x46_8, q46_8_0, e46, hi, k1', k2', bigR, k1, k2]
      · have k2' : ¬ (200 : Int) < (x.b.recs[i]).value.length := by omega
        refine .inl ⟨?_, trivial, ?_⟩
        · simp [l46_0, m46, x46_0, q46_0_0, x46_1, q46_1_0, q46_1_1, q46_1_2, q46_1_3, q46_1_4, x46_2, q46_2_0, x46_3, q46_3_0, x46_4, q46_4_0, x46_6, q46_6_0, q46_6_1, q46_6_2, q46_6_3, x46_7, q46_7_0, x46_5, q46_5_0, x46_8, q46_8_0, e46, hi, hw, k1', k2']
        · simp [bigR, k1, k2]
theorem greatE_not {x : Entry} (h : greatE x = false) : x.b.recs.length ≤ 40 ∧ x.prod.seen.length ≤ 40 := by
  simp only [greatE, Bool.or_eq_false_iff, decide_eq_false_iff_not] at h
  omega
def greatAll (l : List Entry) : Bool := decide (200 < l.length) || l.any greatE
def e23 (l : List Entry) (i : Nat) : Env := [(0, .slice false (l.map encE)), (3, .int .i64 i)]
theorem t23 (l : List Entry) (hl : ∀ x ∈ l, x.b.recs.length ≤ 9223372036854775807) : run tab 23 [.slice false (l.map encE)] [] = some (.bool (greatAll l), []) := by
  rw [run_eq, tab_23]
  by_cases h1 : 200 < l.length
  · have h1' : (200 : Int) < l.length := by omega
    simp [m23, x23_0, q23_0_0, x23_1, q23_1_0, x23_2, q23_2_0, x23_3, q23_3_0, x23_4, q23_4_0, x23_6, q23_6_0, x23_7, q23_7_0, x23_5, q23_5_0, x23_8, q23_8_0, h1', greatAll, h1]
  have h1' : ¬ (200 : Int) < l.length := by omega
  simp [m23, x23_0, q23_0_0, x23_1, q23_1_0, x23_2, q23_2_0, x23_3, q23_3_0, x23_4, q23_4_0, x23_6, q23_6_0, x23_7, q23_7_0, x23_5, q23_5_0, x23_8, q23_8_0, h1', greatAll, h1]
  simp only [Option.bind_assoc]
  refine (loop_cont (e23 l) (fun _ => []) l.length (fun _ => True) (fun i => some (Dat.bool ((l.drop i).any greatE), [])) trivial (fun _ => ?_) fun i hi _ => ?_)
  · simp [l23_0, m23, x23_0, q23_0_0, x23_1, q23_1_0, x23_2, q23_2_0, x23_3, q23_3_0, x23_4, q23_4_0, x23_6, q23_6_0, x23_7, q23_7_0, x23_5, q23_5_0, x23_8, q23_8_0, e23]
  · have hw : IntKind.wrap .i64 ((i : Int) + 1) = i + 1 := wrap64 (by omega) (by omega)
    have h46 := t46 l[i] (hl _ (List.getElem_mem hi))
    simp at h46
    rw [List.drop_eq_getElem_cons hi, List.any_cons]
    cases hg : greatE l[i] with
    | true =>
      rw [hg] at h46
      refine .inr ?_
      simp [l23_0, m23, x23_0, q23_0_0, x23_1, q23_1_0, x23_2, q23_2_0, x23_3, q23_3_0, x23_4, q23_4_0, x23_6, q23_6_0, x23_7, q23_7_0, x23_5, q23_5_0, x23_8, q23_8_0, e23, hi, h46, esc_46]
    | false =>
      rw [hg] at h46
      refine .inl ⟨?_, trivial, by simp⟩
      simp [l23_0, m23, x23_0, q23_0_0, x23_1, q23_1_0, x23_2, q23_2_0, x23_3, q23_3_0, x23_4, q23_4_0, x23_6, q23_6_0, x23_7, q23_7_0, x23_5, q23_5_0, x23_8, q23_8_0, e23, hi, hw, h46, esc_46]
theorem greatAll_not {l : List Entry} (h : greatAll l = false) : l.length ≤ 200 ∧ ∀ x ∈ l, x.b.recs.length ≤ 40 ∧ x.prod.seen.length ≤ 40 := by
  simp only [greatAll, Bool.or_eq_false_iff, decide_eq_false_iff_not, List.any_eq_false] at h
  exact ⟨by omega, fun x hx => greatE_not (by simpa using h.2 x hx)⟩

def e26 (b : Batch) (off : Int) (i : Nat) : Env := [(1, .int .i64 off), (2, .ptr 0 0), (5, .slice true (((b.recs.take i).mapIdx (rowAt b off)).map encW)), (6, .int .i64 i)]
theorem t26 (b : Batch) (off : Int) (hl : b.recs.length ≤ 1000) (ho : -1 ≤ off ∧ off ≤ 1000000000) (hs : 0 ≤ b.seq ∧ b.seq ≤ 1000000000) : run tab 26 [.agg (encB b), .int .i64 off] [] = some (.slice false ((rowsB b off).map encW), []) := by
  rw [run_eq, tab_26]
  simp [m26, x26_0, q26_0_0, x26_1, q26_1_0, x26_2, q26_2_0, x26_3, q26_3_0, x26_5, q26_5_0, q26_5_1, q26_5_2, q26_5_3, x26_6, q26_6_0, x26_7, q26_7_0, x26_8, q26_8_0, x26_4, q26_4_0, x26_9, q26_9_0]
  simp only [Option.bind_assoc]
  refine (loop_cont (e26 b off) (fun _ => [encB b]) b.recs.length (fun _ => True) (fun _ => some (Dat.slice false ((rowsB b off).map encW), ([] : St))) trivial (fun _ => ?_) fun i hi _ => ?_)
  · simp [l26_0, m26, x26_0, q26_0_0, x26_1, q26_1_0, x26_2, q26_2_0, x26_3, q26_3_0, x26_5, q26_5_0, q26_5_1, q26_5_2, q26_5_3, x26_6, q26_6_0, x26_7, q26_7_0, x26_8, q26_8_0, x26_4, q26_4_0, x26_9, q26_9_0, e26, rowsB]
  · have hw : IntKind.wrap .i64 ((i : Int) + 1) = i + 1 := wrap64 (by omega) (by omega)
    have hw2 : IntKind.wrap .i64 (b.seq + i) = b.seq + i := wrap64 (by omega) (by omega)
    have hw4 : IntKind.wrap .i64 (off + i) = off + i := wrap64 (by omega) (by omega)
    have hm := mapIdx_take (rowAt b off) b.recs i hi
    have a1 := app_one (enc := encW) (n := 5) (bytes := 56) (fun _ => rfl) ((b.recs.take i).mapIdx (rowAt b off)) (rowAt b off i b.recs[i]) (by rw [List.length_mapIdx, List.length_take]; omega)
    refine .inl ⟨?_, trivial, rfl⟩
    by_cases h1 : off = -1
    · have h1' := eq_true h1
      simp [rowAt, h1'] at a1
      simp [l26_0, m26, x26_0, q26_0_0, x26_1, q26_1_0, x26_2, q26_2_0, x26_3, q26_3_0, x26_5, q26_5_0, q26_5_1, q26_5_2, q26_5_3, x26_6, q26_6_0, x26_7, q26_7_0, x26_8, q26_8_0, x26_4, q26_4_0, x26_9, q26_9_0, e26, hi, hw, hw2, hw4, hm, rowAt, h1', a1]
    · have h1' := eq_false h1
      simp [rowAt, h1'] at a1
      simp [l26_0, m26, x26_0, q26_0_0, x26_1, q26_1_0, x26_2, q26_2_0, x26_3, q26_3_0, x26_5, q26_5_0, q26_5_1, q26_5_2, q26_5_3, x26_6, q26_6_0, x26_7, q26_7_0, x26_8, q26_8_0, x26_4, q26_4_0, x26_9, q26_9_0, e26, hi, hw, hw2, hw4, hm, rowAt, h1', a1]

def sameWs : List Row → List Row → Bool
  | [], [] => true
  | a :: x, b :: y => sameW a b && sameWs x y
  | _, _ => false
theorem sameWs_refl (l : List Row) : sameWs l l = true := by
  induction l with
  | nil => rfl
  | cons s r ih => simp [sameWs, sameW, ih]
def e27 (a b : List Row) (i : Nat) : Env := [(0, .slice false (a.map encW)), (1, .slice false (b.map encW)), (5, .int .i64 i)]
theorem t27 (a b : List Row) (hl : a.length ≤ 9223372036854775807) : run tab 27 [.slice false (a.map encW), .slice false (b.map encW)] [] = some (.bool (decide (a.length = b.length) && sameWs a b), []) := by
  rw [run_eq, tab_27]
  by_cases h4 : a.length = b.length
  · have h4' : ((a.length : Int) = b.length) = True := eq_true (by omega)
    simp [m27, x27_0, q27_0_0, x27_1, q27_1_0, x27_2, q27_2_0, x27_3, q27_3_0, x27_4, q27_4_0, x27_6, q27_6_0, q27_6_1, x27_7, q27_7_0, x27_5, q27_5_0, x27_8, q27_8_0, h4', eq_true h4]
    simp only [Option.bind_assoc]
    refine (loop_cont (e27 a b) (fun _ => []) a.length (fun _ => True) (fun i => some (Dat.bool (sameWs (a.drop i) (b.drop i)), [])) trivial (fun _ => ?_) fun i hi _ => ?_)
    · rw [List.drop_length, h4, List.drop_length]
      simp [l27_0, m27, x27_0, q27_0_0, x27_1, q27_1_0, x27_2, q27_2_0, x27_3, q27_3_0, x27_4, q27_4_0, x27_6, q27_6_0, q27_6_1, x27_7, q27_7_0, x27_5, q27_5_0, x27_8, q27_8_0, e27, h4, sameWs]
    · have hw : IntKind.wrap .i64 ((i : Int) + 1) = i + 1 := wrap64 (by omega) (by omega)
      have hi2 : i < b.length := by omega
      rw [List.drop_eq_getElem_cons hi, List.drop_eq_getElem_cons hi2]
      cases hs : sameW a[i] b[i] with
      | true =>
        have hs' := hs
        simp only [sameW] at hs'
        refine .inl ⟨?_, trivial, ?_⟩
        · simp [l27_0, m27, x27_0, q27_0_0, x27_1, q27_1_0, x27_2, q27_2_0, x27_3, q27_3_0, x27_4, q27_4_0, x27_6, q27_6_0, q27_6_1, x27_7, q27_7_0, x27_5, q27_5_0, x27_8, q27_8_0, e27, hi, hi2, hw, hs']
        · simp [sameWs, hs]
      | false =>
        have hs' := hs
        simp only [sameW] at hs'
        refine .inr ?_
        simp [l27_0, m27, x27_0, q27_0_0, x27_1, q27_1_0, x27_2, q27_2_0, x27_3, q27_3_0, x27_4, q27_4_0, x27_6, q27_6_0, q27_6_1, x27_7, q27_7_0, x27_5, q27_5_0, x27_8, q27_8_0, e27, hi, hi2, hs', hs, sameWs]
  · have h4' : ((a.length : Int) = b.length) = False := eq_false (by omega)
    simp [m27, x27_0, q27_0_0, x27_1, q27_1_0, x27_2, q27_2_0, x27_3, q27_3_0, x27_4, q27_4_0, x27_6, q27_6_0, q27_6_1, x27_7, q27_7_0, x27_5, q27_5_0, x27_8, q27_8_0, h4', eq_false h4]
theorem mayE_B {x : Entry} (h : mayE x = true) (hk : x.kind = 0) : mayB x.b = true := by
  have := mayE_K h
  unfold mayK at this
  rw [if_neg (by omega), if_pos hk] at this
  exact this
end Go.Mir.A
