/- InlineTurns: what the mirror takes of it. -/
import Derived.Test.YtlpfeikoniepiaaRRP9
import Derived.Test.YtlpfeikoniepiaaRRJ5
import Derived.Test.YtlpfeikoniepiaaRRK6
set_option linter.all false
namespace Go.Mir.A
attribute [local congr] bind_head
attribute [local simp] encW encO encPt encE under_encB under_encW under_encO under_encE rowsOk_B rowsOk_W rowsOk_O rowsOk_E gc ofCells bindArgs resD St.get St.set Dat.underL Dat.underLL gc_self fillD elemsD rowsOk_nil rowsOk_cons rowsOk_app rowsOk_tk rowsOk_dp rowsOk_tl underLL_tl underLL_app underLL_tk underLL_dp nn1 nn2 take_rest take_full appD_nil Option.bind_some strip_undef strip1_undef norm_undef noTup_undef safe_undef cells_undef under_undef strip_int strip1_int norm_int noTup_int safe_int cells_int under_int strip_bool strip1_bool norm_bool noTup_bool safe_bool cells_bool under_bool strip_str strip1_str norm_str noTup_str safe_str cells_str under_str strip_agg strip1_agg norm_agg noTup_agg safe_agg cells_agg under_agg strip_tup strip1_tup norm_tup noTup_tup safe_tup cells_tup under_tup strip_slice strip1_slice norm_slice noTup_slice safe_slice cells_slice under_slice strip_nilp strip1_nilp norm_nilp noTup_nilp safe_nilp cells_nilp under_nilp strip_ptr strip1_ptr norm_ptr noTup_ptr safe_ptr cells_ptr under_ptr strip_rptr strip1_rptr norm_rptr noTup_rptr safe_rptr cells_rptr under_rptr strip_fn strip1_fn norm_fn noTup_fn safe_fn cells_fn under_fn strip_nilf strip1_nilf norm_nilf noTup_nilf safe_nilf cells_nilf under_nilf strip_iface strip1_iface norm_iface noTup_iface safe_iface cells_iface under_iface strip_nili strip1_nili norm_nili noTup_nili safe_nili cells_nili under_nili bin_add bin_sub bin_mul bin_quo bin_rem bin_eql bin_neq bin_lss bin_leq bin_gtr bin_geq bin_and bin_or bin_xor bin_andNot bin_shl bin_shr sbin_add sbin_eql sbin_neq sbin_lss sbin_leq sbin_gtr sbin_geq load_ptr load_rptr cellEq_int cellEq_bool cellEq_str cellsEq_nil cellsEq_cons rows_sl rows_str packD_one packD_nil packD_two leave_ret leave_normal leave_exit seqK_normal seqK_exit seqK_ret blockK_normal blockK_exit blockK_ret condK_bool exec_skip exec_exit exec_ret exec_loop exec_seq exec_block exec_cond ev_tmp ev_lit evs_nil evs_cons takeK_some take_tmp take_lit zk_eq keepK_some keepK_none keep_nil keep_cons putD_some putD_none put_eq get_nil get_cons steps_nil steps_cons step_none guardK_t guardK_f guardK_undef step_some pickV_bool eo_pick loadmV_ptr loadmV_rptr eo_loadm eo_load storeV_ptr eo_store storefV_ptr eo_storef clearK_ptr clearK_rptr clearK_none clear_eq nilCheckV_ptr nilCheckV_rptr nilCheckV_fn eo_nilCheck eqsV_agg eo_eqs eqbV_bool eo_eqb unV_neg unV_not eo_un convV_int eo_conv boundK_int bound_none bound_some sliceV_slice eo_slice substrV_str eo_substr fieldAddrV_ptr fieldAddrV_rptr eo_fieldAddr fieldV_agg eo_field indexV_slice eo_index indexArrV_ptr indexArrV_rptr eo_indexArr atV_str eo_at extractV_tup eo_extract extractnV_tup eo_extractn callV_fn eo_call callcV_fn eo_callc callrV_fn eo_callr callR_eq beq_st loadrV_rptr eo_loadr lenV_slice lenV_str eo_len appV_slice eo_append minV_int maxV_int eo_min2 eo_max2 eo_mov_t eo_mov_f eo_alloc eo_box eo_build eo_buildSlice eo_bin eo_mkfn callD_eq callC_eq encPs encP encB encS encR under_encP under_encS under_encR rowsOk_S rowsOk_P rowsOk_R
set_option linter.unusedSimpArgs false
set_option linter.unusedVariables false
set_option maxHeartbeats 1000000
set_option maxRecDepth 4000
set_option maxHeartbeats 4000000

theorem sameWs_self (l : List Row) : sameWs l l = true := sameWs_refl l
theorem t28r (p : Part) (hr : p.rows.length ≤ 9223372036854775807) (ho : p.opn.length ≤ 9223372036854775807) (hb : ∀ o ∈ p.opn, o.bats.length ≤ 8 ∧ ∀ b ∈ o.bats, b.recs.length ≤ 9223372036854775807) (hp : p.prods.length ≤ 9223372036854775807) (hs : ∀ x ∈ p.prods, x.seen.length ≤ 9223372036854775807) :
    run tab 28 [.agg (encPt p), .agg (encPt p)] [] = some (.bool true, []) := by
  have h27 := t27 p.rows p.rows hr
  rw [sameWs_refl] at h27
  simp at h27
  have h30 := t30r p.opn ho hb
  have h14 := t14 p.prods p.prods hp hs
  rw [samePs_refl] at h14
  simp at h30 h14
  rw [run_eq, tab_28]
  simp [m28, x28_0, q28_0_0, x28_1, q28_1_0, q28_1_1, q28_1_2, q28_1_3, q28_1_4, x28_2, q28_2_0, x28_3, q28_3_0, h27, esc_27, h30, esc_30, h14, esc_14]
def ms7 : List MCode := [r7_0, .seq r7_1 (.cond (.tmp 24) (.seq r7_2 .ret) .skip), r7_3, r7_4, .seq r7_5 (.cond (.tmp 75) (.seq r7_6 .ret) .skip), r7_7, .seq r7_8 (.cond (.tmp 83) (.seq r7_9 .ret) .skip)]
def rest7 : MCode := .seq r7_13 (.seq r7_14 .ret)
def at7 (n : Nat) (p : Int) : Int := ((p.tmod ((n : Int) - 1) + n - 1).tmod ((n : Int) - 1))
theorem at7_ok {n : Nat} (hn : 2 ≤ n) (h2 : n ≤ 200) (p : Int) : 0 ≤ at7 n p ∧ at7 n p < (n : Int) - 1 ∧ IntKind.wrap .i64 (IntKind.wrap .i64 (p.tmod ((n : Int) - 1) + n) - 1) = p.tmod ((n : Int) - 1) + n - 1 := by
  have h1 : (0 : Int) < (n : Int) - 1 := by omega
  have b1 := Int.tmod_lt_of_pos p h1
  have b2 : -((n : Int) - 1) < p.tmod ((n : Int) - 1) := by
    have := Int.neg_lt_of_neg_lt (a := p.tmod ((n : Int) - 1)) (b := (n : Int) - 1) (by
      rw [← Int.neg_tmod]
      exact Int.tmod_lt_of_pos (-p) h1)
    exact this
  refine ⟨?_, ?_, ?_⟩
  · exact Int.tmod_nonneg _ (by omega)
  · exact Int.tmod_lt_of_pos _ h1
  · rw [wrap64 (n := p.tmod ((n : Int) - 1) + n) (by omega) (by omega), wrap64 (by omega) (by omega)]
/-- what the law asks of the two entries -/
def bad7 (a b : Entry) : Bool := !decide (a.kind = 0) || (!a.b.txn || ((!decide (b.kind = 0) && !decide (b.kind = 1)) || decide (a.b.pid = b.b.pid)))
variable {L : (Env → St → Out) → Env → St → Out}
theorem pre7_short (l : List Entry) (p : Int) (h : l.length < 2) : execs (run tab) tab.esc L 0 ms7 [(0, .slice false (l.map encE)), (1, .int .i64 p)] [] = some (.ret, [(4, .bool true)], []) := by
  have h1 : ((l.length : Int) < 2) := by omega
  simp [ms7, execs_cons, execs_nil, m7, x7_0, q7_0_0, x7_1, q7_1_0, q7_1_1, x7_2, q7_2_0, x7_3, q7_3_0, q7_3_1, q7_3_2, x7_4, q7_4_0, q7_4_1, q7_4_2, x7_5, q7_5_0, q7_5_1, q7_5_2, q7_5_3, q7_5_4, x7_6, q7_6_0, x7_7, q7_7_0, q7_7_1, x7_8, q7_8_0, x7_9, q7_9_0, x7_10, q7_10_0, x7_11, q7_11_0, x7_12, q7_12_0, x7_13, q7_13_0, q7_13_1, x7_14, q7_14_0, q7_14_1, h1, esc_24, t24]
theorem pre7_great (l : List Entry) (p : Int) (h : 2 ≤ l.length) (h2 : ∀ x ∈ l, x.b.recs.length ≤ 9223372036854775807) (hg : 200 < l.length ∨ greatAll l = true) : execs (run tab) tab.esc L 0 ms7 [(0, .slice false (l.map encE)), (1, .int .i64 p)] [] = some (.ret, [(4, .bool true)], []) := by
  have h1 : ¬ ((l.length : Int) < 2) := by omega
  by_cases hn : 200 < l.length
  · have hn' : (200 : Int) < l.length := by omega
    simp [ms7, execs_cons, execs_nil, m7, x7_0, q7_0_0, x7_1, q7_1_0, q7_1_1, x7_2, q7_2_0, x7_3, q7_3_0, q7_3_1, q7_3_2, x7_4, q7_4_0, q7_4_1, q7_4_2, x7_5, q7_5_0, q7_5_1, q7_5_2, q7_5_3, q7_5_4, x7_6, q7_6_0, x7_7, q7_7_0, q7_7_1, x7_8, q7_8_0, x7_9, q7_9_0, x7_10, q7_10_0, x7_11, q7_11_0, x7_12, q7_12_0, x7_13, q7_13_0, q7_13_1, x7_14, q7_14_0, q7_14_1, h1, hn', esc_24, t24]
  · have hn' : ¬ (200 : Int) < l.length := by omega
    have h23 := t23 l h2
    rw [hg.resolve_left hn] at h23
    simp [ms7, execs_cons, execs_nil, m7, x7_0, q7_0_0, x7_1, q7_1_0, q7_1_1, x7_2, q7_2_0, x7_3, q7_3_0, q7_3_1, q7_3_2, x7_4, q7_4_0, q7_4_1, q7_4_2, x7_5, q7_5_0, q7_5_1, q7_5_2, q7_5_3, q7_5_4, x7_6, q7_6_0, x7_7, q7_7_0, q7_7_1, x7_8, q7_8_0, x7_9, q7_9_0, x7_10, q7_10_0, x7_11, q7_11_0, x7_12, q7_12_0, x7_13, q7_13_0, q7_13_1, x7_14, q7_14_0, q7_14_1, h1, hn', h23, esc_23, esc_24, t24]
section
variable (l : List Entry) (p : Int) (h : 2 ≤ l.length) (hn : l.length ≤ 200) (hg : greatAll l = false) (k : Nat) (hk : (k : Int) = at7 l.length p) (hk1 : k + 1 < l.length)
include h hn hg hk hk1
theorem pre7_bad (h2 : ∀ x ∈ l, x.b.recs.length ≤ 9223372036854775807) (hb : bad7 l[k] l[k + 1] = true) : execs (run tab) tab.esc L 0 ms7 [(0, .slice false (l.map encE)), (1, .int .i64 p)] [] = some (.ret, [(4, .bool true)], []) := by
  have h1 : ¬ ((l.length : Int) < 2) := by omega
  have hn' : ¬ (200 : Int) < l.length := by omega
  have h23 := t23 l h2
  rw [hg] at h23
  have e0 : ((l.length : Int) - 1 = 0) = False := eq_false (by omega)
  have e1 : IntKind.wrap .i64 ((l.length : Int) - 1) = (l.length : Int) - 1 := wrap64 (by omega) (by omega)
  have e2 := (at7_ok h hn p).2.2
  have e3 : (p.tmod ((l.length : Int) - 1) + l.length - 1).tmod ((l.length : Int) - 1) = (k : Int) := hk.symm
  have e4 : IntKind.wrap .i64 ((k : Int) + 1) = (k : Int) + 1 := wrap64 (by omega) (by omega)
  have hk0 : k < l.length := by omega
  simp [ms7, execs_cons, execs_nil, x7_0, q7_0_0, x7_1, q7_1_0, q7_1_1, x7_2, q7_2_0, x7_3, q7_3_0, q7_3_1, q7_3_2, x7_4, q7_4_0, q7_4_1, q7_4_2, h1, hn', h23, esc_23, e0, e1, e2, e3, e4, hk0, hk1, encE]
  simp only [bad7] at hb
  cases c1 : decide ((l[k]).kind = 0) with
  | false =>
    simp only [decide_eq_false_iff_not] at c1
    simp [x7_5, q7_5_0, q7_5_1, q7_5_2, q7_5_3, q7_5_4, x7_6, q7_6_0, c1, esc_24, t24]
  | true =>
    simp only [decide_eq_true_eq] at c1
    cases c2 : (l[k]).b.txn with
    | false => simp [x7_5, q7_5_0, q7_5_1, q7_5_2, q7_5_3, q7_5_4, x7_6, q7_6_0, c1, c2, esc_24, t24]
    | true =>
      rw [c1, c2] at hb
      simp only [decide_true, Bool.not_true, Bool.false_or, Bool.or_eq_true, Bool.and_eq_true, Bool.not_eq_true', decide_eq_false_iff_not, decide_eq_true_eq] at hb
      by_cases c3 : (l[k + 1]).kind = 0
      · have c4 := hb.resolve_left fun h => h.1 c3
        simp [x7_5, q7_5_0, q7_5_1, q7_5_2, q7_5_3, q7_5_4, x7_6, q7_6_0, c1, c2, c3, c4, esc_24, t24]
      · by_cases c5 : (l[k + 1]).kind = 1
        · have c4 := hb.resolve_left fun h => h.2 c5
          simp [x7_5, q7_5_0, q7_5_1, q7_5_2, q7_5_3, q7_5_4, x7_6, q7_6_0, c1, c2, c5, c4, esc_24, t24]
        · simp [x7_5, q7_5_0, q7_5_1, q7_5_2, q7_5_3, q7_5_4, x7_6, q7_6_0, c1, c2, c3, c5, esc_24, t24]
theorem pre7_main (h2 : ∀ x ∈ l, x.b.recs.length ≤ 9223372036854775807) (hb : bad7 l[k] l[k + 1] = false) : execs (run tab) tab.esc L 0 ms7 [(0, .slice false (l.map encE)), (1, .int .i64 p)] [] =
    match foldP l zeroPt with
    | none => some (.ret, [(4, .bool true)], [])
    | some q => some (.normal, [(0, .slice false (l.map encE)), (5, .int .i64 k), (6, .ptr 0 0), (7, .ptr 1 0), (8, .ptr 2 0), (83, .bool false)], [encPt q, encE l[k + 1], encE l[k]]) := by
  have h1 : ¬ ((l.length : Int) < 2) := by omega
  have hn' : ¬ (200 : Int) < l.length := by omega
  have h23 := t23 l h2
  rw [hg] at h23
  obtain ⟨g1, g2⟩ := greatAll_not hg
  have h25 := t25 l (by omega) (fun x hx => by have := (g2 x hx).1; omega) (fun x hx => by have := (g2 x hx).2; omega)
  have e0 : ((l.length : Int) - 1 = 0) = False := eq_false (by omega)
  have e1 : IntKind.wrap .i64 ((l.length : Int) - 1) = (l.length : Int) - 1 := wrap64 (by omega) (by omega)
  have e2 := (at7_ok h hn p).2.2
  have e3 : (p.tmod ((l.length : Int) - 1) + l.length - 1).tmod ((l.length : Int) - 1) = (k : Int) := hk.symm
  have e4 : IntKind.wrap .i64 ((k : Int) + 1) = (k : Int) + 1 := wrap64 (by omega) (by omega)
  have hk0 : k < l.length := by omega
  simp only [bad7, Bool.or_eq_false_iff, Bool.not_eq_false', decide_eq_true_eq, decide_eq_false_iff_not, Bool.and_eq_false_iff] at hb
  obtain ⟨c1, c2, c3, c4⟩ := hb
  have hkk : ((l[k + 1]).kind = 0) = True ∨ (((l[k + 1]).kind = 0) = False ∧ ((l[k + 1]).kind = 1) = True) := by
    by_cases c : (l[k + 1]).kind = 0
    · exact .inl (eq_true c)
    · exact .inr ⟨eq_false c, eq_true (c3.resolve_left c)⟩
  cases hf : foldP l zeroPt with
  | none =>
    rw [hf] at h25
    simp [resP, zeroPt] at h23 h25
    rcases hkk with hkk | ⟨hkk, hkk2⟩
    · simp [ms7, execs_cons, execs_nil, m7, x7_0, q7_0_0, x7_1, q7_1_0, q7_1_1, x7_2, q7_2_0, x7_3, q7_3_0, q7_3_1, q7_3_2, x7_4, q7_4_0, q7_4_1, q7_4_2, x7_5, q7_5_0, q7_5_1, q7_5_2, q7_5_3, q7_5_4, x7_6, q7_6_0, x7_7, q7_7_0, q7_7_1, x7_8, q7_8_0, x7_9, q7_9_0, x7_10, q7_10_0, x7_11, q7_11_0, x7_12, q7_12_0, x7_13, q7_13_0, q7_13_1, x7_14, q7_14_0, q7_14_1, h1, hn', h23, esc_23, e0, e1, e2, e3, e4, hk0, hk1, encE, c1, c2, hkk, c4, h25, esc_25, esc_24, t24]
    · simp [ms7, execs_cons, execs_nil, m7, x7_0, q7_0_0, x7_1, q7_1_0, q7_1_1, x7_2, q7_2_0, x7_3, q7_3_0, q7_3_1, q7_3_2, x7_4, q7_4_0, q7_4_1, q7_4_2, x7_5, q7_5_0, q7_5_1, q7_5_2, q7_5_3, q7_5_4, x7_6, q7_6_0, x7_7, q7_7_0, q7_7_1, x7_8, q7_8_0, x7_9, q7_9_0, x7_10, q7_10_0, x7_11, q7_11_0, x7_12, q7_12_0, x7_13, q7_13_0, q7_13_1, x7_14, q7_14_0, q7_14_1, h1, hn', h23, esc_23, e0, e1, e2, e3, e4, hk0, hk1, encE, c1, c2, hkk, hkk2, c4, h25, esc_25, esc_24, t24]
  | some q =>
    rw [hf] at h25
    simp [resP] at h23 h25
    rcases hkk with hkk | ⟨hkk, hkk2⟩
    · simp [ms7, execs_cons, execs_nil, m7, x7_0, q7_0_0, x7_1, q7_1_0, q7_1_1, x7_2, q7_2_0, x7_3, q7_3_0, q7_3_1, q7_3_2, x7_4, q7_4_0, q7_4_1, q7_4_2, x7_5, q7_5_0, q7_5_1, q7_5_2, q7_5_3, q7_5_4, x7_6, q7_6_0, x7_7, q7_7_0, q7_7_1, x7_8, q7_8_0, x7_9, q7_9_0, x7_10, q7_10_0, x7_11, q7_11_0, x7_12, q7_12_0, x7_13, q7_13_0, q7_13_1, x7_14, q7_14_0, q7_14_1, h1, hn', h23, esc_23, e0, e1, e2, e3, e4, hk0, hk1, encE, c1, c2, hkk, c4, h25, esc_25, esc_24, t24, encPt]
    · simp [ms7, execs_cons, execs_nil, m7, x7_0, q7_0_0, x7_1, q7_1_0, q7_1_1, x7_2, q7_2_0, x7_3, q7_3_0, q7_3_1, q7_3_2, x7_4, q7_4_0, q7_4_1, q7_4_2, x7_5, q7_5_0, q7_5_1, q7_5_2, q7_5_3, q7_5_4, x7_6, q7_6_0, x7_7, q7_7_0, q7_7_1, x7_8, q7_8_0, x7_9, q7_9_0, x7_10, q7_10_0, x7_11, q7_11_0, x7_12, q7_12_0, x7_13, q7_13_0, q7_13_1, x7_14, q7_14_0, q7_14_1, h1, hn', h23, esc_23, e0, e1, e2, e3, e4, hk0, hk1, encE, c1, c2, hkk, hkk2, c4, h25, esc_25, esc_24, t24, encPt]
end
theorem rest7_ok (m : List Entry) (k : Int) (q : Part) (A B : Entry) (hn : m.length ≤ 200) (hm : ∀ x ∈ m, x.b.recs.length ≤ 1000) (hs : ∀ x ∈ m, x.prod.seen.length ≤ 1000) (hf : foldP m zeroPt = some q) (hq : Good q) :
    exec (run tab) tab.esc L 0 rest7 [(10, .slice false (m.map encE)), (8, .ptr 2 0)] [encPt q, encE B, encE A] = some (.ret, [(4, .bool true)], []) := by
  have h25 := t25 m (by omega) hm hs
  rw [hf] at h25
  obtain ⟨k1, k2, k3, k4, k5⟩ := good_small hq
  have h28 := t28r q (by omega) (by omega) (fun o ho => ⟨(k5 o ho).1, fun b hb => by have := mayB_get ((k5 o ho).2 b hb); omega⟩) (by omega) (fun x hx => by have := k4 x hx; omega)
  simp only [resP, Option.isSome_some, Option.getD_some, if_true, encPt] at h25 h28
  simp [rest7, x7_13, q7_13_0, q7_13_1, x7_14, q7_14_0, q7_14_1, h25, esc_25, h28, esc_28, esc_24, t24, encPt]
end Go.Mir.A
