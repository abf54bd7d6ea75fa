import Derived.Test.YtlpfeikoniepiaaRRL15
import Derived.Test.YtlpfeikoniepiaaRRMirSim
set_option linter.all false
namespace Go.Mir.A
attribute [local congr] bind_head
attribute [local simp] gc ofCells bindArgs resD St.get St.set Dat.underL Dat.underLL gc_self fillD elemsD rowsOk_nil rowsOk_cons rowsOk_app rowsOk_tk rowsOk_dp rowsOk_tl underLL_tl underLL_app underLL_tk underLL_dp nn1 nn2 take_rest take_full appD_nil Option.bind_some strip_undef strip1_undef norm_undef noTup_undef safe_undef cells_undef under_undef strip_int strip1_int norm_int noTup_int safe_int cells_int under_int strip_bool strip1_bool norm_bool noTup_bool safe_bool cells_bool under_bool strip_str strip1_str norm_str noTup_str safe_str cells_str under_str strip_agg strip1_agg norm_agg noTup_agg safe_agg cells_agg under_agg strip_tup strip1_tup norm_tup noTup_tup safe_tup cells_tup under_tup strip_slice strip1_slice norm_slice noTup_slice safe_slice cells_slice under_slice strip_nilp strip1_nilp norm_nilp noTup_nilp safe_nilp cells_nilp under_nilp strip_ptr strip1_ptr norm_ptr noTup_ptr safe_ptr cells_ptr under_ptr strip_rptr strip1_rptr norm_rptr noTup_rptr safe_rptr cells_rptr under_rptr strip_fn strip1_fn norm_fn noTup_fn safe_fn cells_fn under_fn strip_nilf strip1_nilf norm_nilf noTup_nilf safe_nilf cells_nilf under_nilf strip_iface strip1_iface norm_iface noTup_iface safe_iface cells_iface under_iface strip_nili strip1_nili norm_nili noTup_nili safe_nili cells_nili under_nili bin_add bin_sub bin_mul bin_quo bin_rem bin_eql bin_neq bin_lss bin_leq bin_gtr bin_geq bin_and bin_or bin_xor bin_andNot bin_shl bin_shr sbin_add sbin_eql sbin_neq sbin_lss sbin_leq sbin_gtr sbin_geq load_ptr load_rptr cellEq_int cellEq_bool cellEq_str cellsEq_nil cellsEq_cons rows_sl rows_str packD_one packD_nil packD_two leave_ret leave_normal leave_exit seqK_normal seqK_exit seqK_ret blockK_normal blockK_exit blockK_ret condK_bool exec_skip exec_exit exec_ret exec_loop exec_seq exec_block exec_cond ev_tmp ev_lit evs_nil evs_cons takeK_some take_tmp take_lit zk_eq keepK_some keepK_none keep_nil keep_cons putD_some putD_none put_eq get_nil get_cons steps_nil steps_cons step_none guardK_t guardK_f guardK_undef step_some pickV_bool eo_pick loadmV_ptr loadmV_rptr eo_loadm eo_load storeV_ptr eo_store storefV_ptr eo_storef clearK_ptr clearK_rptr clearK_none clear_eq nilCheckV_ptr nilCheckV_rptr nilCheckV_fn eo_nilCheck eqsV_agg eo_eqs eqbV_bool eo_eqb unV_neg unV_not eo_un convV_int eo_conv boundK_int bound_none bound_some sliceV_slice eo_slice substrV_str eo_substr fieldAddrV_ptr fieldAddrV_rptr eo_fieldAddr fieldV_agg eo_field indexV_slice eo_index indexArrV_ptr indexArrV_rptr eo_indexArr atV_str eo_at extractV_tup eo_extract extractnV_tup eo_extractn callV_fn eo_call callcV_fn eo_callc callrV_fn eo_callr callR_eq beq_st loadrV_rptr eo_loadr lenV_slice lenV_str eo_len appV_slice eo_append minV_int maxV_int eo_min2 eo_max2 eo_mov_t eo_mov_f eo_alloc eo_box eo_build eo_buildSlice eo_bin eo_mkfn callD_eq callC_eq encPs encP encB encS encR under_encP under_encS under_encR rowsOk_S rowsOk_P rowsOk_R
set_option linter.unusedSimpArgs false
set_option linter.unusedVariables false
set_option maxHeartbeats 1000000
set_option maxRecDepth 4000

/-- what stands behind a seen batch -/
def nextAt (p : Prod) (i : Nat) : Int := if h : i + 1 < p.seen.length then (p.seen[i + 1]).seq else p.next
/-- the reference's way: each batch's end is held against the next one's beginning -/
def okRef (p : Prod) (i : Nat) (s : Seen) : Bool := !(decide (s.seq < 0) || (!(decide (1 ≤ s.count) && decide (s.count ≤ 4)) || (!(decide (-1 ≤ s.base) && decide (s.base ≤ 1048576)) || decide (IntKind.wrap .i64 (nextAt p i - s.count) < s.seq))))
def okFrom (p : Prod) (i : Nat) : Bool := ((List.range p.seen.length).drop i).all fun k => if h : k < p.seen.length then okRef p k p.seen[k] else true
theorem okFrom_end (p : Prod) : okFrom p p.seen.length = true := by rw [okFrom, List.drop_of_length_le (by simp)]; rfl
theorem okFrom_step (p : Prod) (i : Nat) (h : i < p.seen.length) : okFrom p i = (okRef p i p.seen[i] && okFrom p (i + 1)) := by
  rw [okFrom, List.drop_eq_getElem_cons (by simpa using h), List.all_cons]
  simp [okFrom, h]
def e69 (i : Nat) : Env := [(1, .ptr 0 0), (3, .int .i64 i)]
def knownR (p : Prod) : Bool := (decide (1 ≤ p.pid) && decide (p.pid ≤ 8) && decide (0 ≤ p.epoch) && decide (p.epoch ≤ 100)) && (decide (0 ≤ p.next) && decide (p.next ≤ 1048576)) && decide (p.seen.length ≤ 3) && okFrom p 0
theorem t69 (p : Prod) (hl : p.seen.length ≤ 1000) : run tab 69 [.agg (encP p)] [] = some (.bool (knownR p), []) := by
  rw [run_eq, tab_69]
  by_cases h1 : (decide (1 ≤ p.pid) && decide (p.pid ≤ 8) && decide (0 ≤ p.epoch) && decide (p.epoch ≤ 100)) = true
  · by_cases h2 : (decide (0 ≤ p.next) && decide (p.next ≤ 1048576)) = true
    · by_cases h3 : (3 : Int) < p.seen.length
      · have h3' : ¬ p.seen.length ≤ 3 := by omega
        simp [m69, x69_0, q69_0_0, x69_1, q69_1_0, q69_1_1, q69_1_2, x69_2, q69_2_0, x69_3, q69_3_0, x69_4, q69_4_0, x69_6, q69_6_0, q69_6_1, x69_7, q69_7_0, x69_8, q69_8_0, x69_9, q69_9_0, q69_9_1, x69_10, q69_10_0, q69_10_1, q69_10_2, q69_10_3, x69_11, q69_11_0, x69_5, q69_5_0, x69_12, q69_12_0, esc_80, esc_81, t80, t81, h1, h2, h3, knownR, h3']
      · have h3' : p.seen.length ≤ 3 := by omega
        simp [m69, x69_0, q69_0_0, x69_1, q69_1_0, q69_1_1, q69_1_2, x69_2, q69_2_0, x69_3, q69_3_0, x69_4, q69_4_0, x69_6, q69_6_0, q69_6_1, x69_7, q69_7_0, x69_8, q69_8_0, x69_9, q69_9_0, q69_9_1, x69_10, q69_10_0, q69_10_1, q69_10_2, q69_10_3, x69_11, q69_11_0, x69_5, q69_5_0, x69_12, q69_12_0, esc_80, esc_81, t80, t81, h1, h2, h3, knownR, h3']
        simp only [Option.bind_assoc]
        refine (loop_cont e69 (fun _ => [encP p]) p.seen.length (fun _ => True) (fun i => some (Dat.bool (okFrom p i), [])) trivial (fun _ => ?_) fun i hi _ => ?_)
        · simp [l69_0, m69, x69_0, q69_0_0, x69_1, q69_1_0, q69_1_1, q69_1_2, x69_2, q69_2_0, x69_3, q69_3_0, x69_4, q69_4_0, x69_6, q69_6_0, q69_6_1, x69_7, q69_7_0, x69_8, q69_8_0, x69_9, q69_9_0, q69_9_1, x69_10, q69_10_0, q69_10_1, q69_10_2, q69_10_3, x69_11, q69_11_0, x69_5, q69_5_0, x69_12, q69_12_0, e69, okFrom_end]
        · rw [okFrom_step p i hi]
          have hw : IntKind.wrap .i64 ((i : Int) + 1) = i + 1 := wrap64 (by omega) (by omega)
          have hn : nextAt p i = if h : i + 1 < p.seen.length then (p.seen[i + 1]).seq else p.next := rfl
          by_cases k0 : i + 1 < p.seen.length
          · rw [dif_pos k0] at hn
            have k0' : (i : Int) + 1 < p.seen.length := by omega
            have k0'' : ((i : Int) + 1).toNat = i + 1 := by omega
            have k0a : (0 : Int) ≤ (i : Int) + 1 := by omega
            by_cases k1 : (p.seen[i]).seq < 0
            · refine .inr ?_
              simp [l69_0, m69, x69_0, q69_0_0, x69_1, q69_1_0, q69_1_1, q69_1_2, x69_2, q69_2_0, x69_3, q69_3_0, x69_4, q69_4_0, x69_6, q69_6_0, q69_6_1, x69_7, q69_7_0, x69_8, q69_8_0, x69_9, q69_9_0, q69_9_1, x69_10, q69_10_0, q69_10_1, q69_10_2, q69_10_3, x69_11, q69_11_0, x69_5, q69_5_0, x69_12, q69_12_0, e69, hi, hw, k0', k0'', k0a, k0, k1, okRef, esc_81, t81]
            · by_cases k2 : (decide (1 ≤ (p.seen[i]).count) && decide ((p.seen[i]).count ≤ 4)) = true
              · by_cases k3 : (decide (-1 ≤ (p.seen[i]).base) && decide ((p.seen[i]).base ≤ 1048576)) = true
                · by_cases k4 : IntKind.wrap .i64 ((p.seen[i + 1]).seq - (p.seen[i]).count) < (p.seen[i]).seq
                  · refine .inr ?_
                    simp [l69_0, m69, x69_0, q69_0_0, x69_1, q69_1_0, q69_1_1, q69_1_2, x69_2, q69_2_0, x69_3, q69_3_0, x69_4, q69_4_0, x69_6, q69_6_0, q69_6_1, x69_7, q69_7_0, x69_8, q69_8_0, x69_9, q69_9_0, q69_9_1, x69_10, q69_10_0, q69_10_1, q69_10_2, q69_10_3, x69_11, q69_11_0, x69_5, q69_5_0, x69_12, q69_12_0, e69, hi, hw, k0', k0'', k0a, k0, k1, k2, k3, k4, okRef, hn, esc_81, t81]
                  · refine .inl ⟨?_, trivial, ?_⟩
                    · simp [l69_0, m69, x69_0, q69_0_0, x69_1, q69_1_0, q69_1_1, q69_1_2, x69_2, q69_2_0, x69_3, q69_3_0, x69_4, q69_4_0, x69_6, q69_6_0, q69_6_1, x69_7, q69_7_0, x69_8, q69_8_0, x69_9, q69_9_0, q69_9_1, x69_10, q69_10_0, q69_10_1, q69_10_2, q69_10_3, x69_11, q69_11_0, x69_5, q69_5_0, x69_12, q69_12_0, e69, hi, hw, k0', k0'', k0a, k0, k1, k2, k3, k4, okRef, hn, esc_81, t81]
                    · simp [okRef, hn, k1, k2, k3, k4]
                · simp only [Bool.not_eq_true] at k3
                  refine .inr ?_
                  simp [l69_0, m69, x69_0, q69_0_0, x69_1, q69_1_0, q69_1_1, q69_1_2, x69_2, q69_2_0, x69_3, q69_3_0, x69_4, q69_4_0, x69_6, q69_6_0, q69_6_1, x69_7, q69_7_0, x69_8, q69_8_0, x69_9, q69_9_0, q69_9_1, x69_10, q69_10_0, q69_10_1, q69_10_2, q69_10_3, x69_11, q69_11_0, x69_5, q69_5_0, x69_12, q69_12_0, e69, hi, hw, k0', k0'', k0a, k0, k1, k2, k3, okRef, esc_81, t81]
              · simp only [Bool.not_eq_true] at k2
                refine .inr ?_
                simp [l69_0, m69, x69_0, q69_0_0, x69_1, q69_1_0, q69_1_1, q69_1_2, x69_2, q69_2_0, x69_3, q69_3_0, x69_4, q69_4_0, x69_6, q69_6_0, q69_6_1, x69_7, q69_7_0, x69_8, q69_8_0, x69_9, q69_9_0, q69_9_1, x69_10, q69_10_0, q69_10_1, q69_10_2, q69_10_3, x69_11, q69_11_0, x69_5, q69_5_0, x69_12, q69_12_0, e69, hi, hw, k0', k0'', k0a, k0, k1, k2, okRef, esc_81, t81]
          · rw [dif_neg k0] at hn
            have k0' : ¬ (i : Int) + 1 < p.seen.length := by omega
            by_cases k1 : (p.seen[i]).seq < 0
            · refine .inr ?_
              simp [l69_0, m69, x69_0, q69_0_0, x69_1, q69_1_0, q69_1_1, q69_1_2, x69_2, q69_2_0, x69_3, q69_3_0, x69_4, q69_4_0, x69_6, q69_6_0, q69_6_1, x69_7, q69_7_0, x69_8, q69_8_0, x69_9, q69_9_0, q69_9_1, x69_10, q69_10_0, q69_10_1, q69_10_2, q69_10_3, x69_11, q69_11_0, x69_5, q69_5_0, x69_12, q69_12_0, e69, hi, hw, k0', k1, okRef, esc_81, t81]
            · by_cases k2 : (decide (1 ≤ (p.seen[i]).count) && decide ((p.seen[i]).count ≤ 4)) = true
              · by_cases k3 : (decide (-1 ≤ (p.seen[i]).base) && decide ((p.seen[i]).base ≤ 1048576)) = true
                · by_cases k4 : IntKind.wrap .i64 (p.next - (p.seen[i]).count) < (p.seen[i]).seq
                  · refine .inr ?_
                    simp [l69_0, m69, x69_0, q69_0_0, x69_1, q69_1_0, q69_1_1, q69_1_2, x69_2, q69_2_0, x69_3, q69_3_0, x69_4, q69_4_0, x69_6, q69_6_0, q69_6_1, x69_7, q69_7_0, x69_8, q69_8_0, x69_9, q69_9_0, q69_9_1, x69_10, q69_10_0, q69_10_1, q69_10_2, q69_10_3, x69_11, q69_11_0, x69_5, q69_5_0, x69_12, q69_12_0, e69, hi, hw, k0', k1, k2, k3, k4, okRef, hn, esc_81, t81]
                  · refine .inl ⟨?_, trivial, ?_⟩
                    · simp [l69_0, m69, x69_0, q69_0_0, x69_1, q69_1_0, q69_1_1, q69_1_2, x69_2, q69_2_0, x69_3, q69_3_0, x69_4, q69_4_0, x69_6, q69_6_0, q69_6_1, x69_7, q69_7_0, x69_8, q69_8_0, x69_9, q69_9_0, q69_9_1, x69_10, q69_10_0, q69_10_1, q69_10_2, q69_10_3, x69_11, q69_11_0, x69_5, q69_5_0, x69_12, q69_12_0, e69, hi, hw, k0', k1, k2, k3, k4, okRef, hn, esc_81, t81]
                    · simp [okRef, hn, k1, k2, k3, k4]
                · simp only [Bool.not_eq_true] at k3
                  refine .inr ?_
                  simp [l69_0, m69, x69_0, q69_0_0, x69_1, q69_1_0, q69_1_1, q69_1_2, x69_2, q69_2_0, x69_3, q69_3_0, x69_4, q69_4_0, x69_6, q69_6_0, q69_6_1, x69_7, q69_7_0, x69_8, q69_8_0, x69_9, q69_9_0, q69_9_1, x69_10, q69_10_0, q69_10_1, q69_10_2, q69_10_3, x69_11, q69_11_0, x69_5, q69_5_0, x69_12, q69_12_0, e69, hi, hw, k0', k1, k2, k3, okRef, esc_81, t81]
              · simp only [Bool.not_eq_true] at k2
                refine .inr ?_
                simp [l69_0, m69, x69_0, q69_0_0, x69_1, q69_1_0, q69_1_1, q69_1_2, x69_2, q69_2_0, x69_3, q69_3_0, x69_4, q69_4_0, x69_6, q69_6_0, q69_6_1, x69_7, q69_7_0, x69_8, q69_8_0, x69_9, q69_9_0, q69_9_1, x69_10, q69_10_0, q69_10_1, q69_10_2, q69_10_3, x69_11, q69_11_0, x69_5, q69_5_0, x69_12, q69_12_0, e69, hi, hw, k0', k1, k2, okRef, esc_81, t81]
    · simp only [Bool.not_eq_true] at h2
      simp [m69, x69_0, q69_0_0, x69_1, q69_1_0, q69_1_1, q69_1_2, x69_2, q69_2_0, x69_3, q69_3_0, x69_4, q69_4_0, x69_6, q69_6_0, q69_6_1, x69_7, q69_7_0, x69_8, q69_8_0, x69_9, q69_9_0, q69_9_1, x69_10, q69_10_0, q69_10_1, q69_10_2, q69_10_3, x69_11, q69_11_0, x69_5, q69_5_0, x69_12, q69_12_0, esc_80, esc_81, t80, t81, h1, h2, knownR]
  · simp only [Bool.not_eq_true] at h1
    simp [m69, x69_0, q69_0_0, x69_1, q69_1_0, q69_1_1, q69_1_2, x69_2, q69_2_0, x69_3, q69_3_0, x69_4, q69_4_0, x69_6, q69_6_0, q69_6_1, x69_7, q69_7_0, x69_8, q69_8_0, x69_9, q69_9_0, q69_9_1, x69_10, q69_10_0, q69_10_1, q69_10_2, q69_10_3, x69_11, q69_11_0, x69_5, q69_5_0, x69_12, q69_12_0, esc_80, esc_81, t80, t81, h1, knownR]
end Go.Mir.A
namespace Go.Mir.A

def headAt (l : List Seen) (next : Int) : Int := match l with
  | [] => next
  | s :: _ => s.seq
def okR : List Seen → Int → Bool
  | [], _ => true
  | s :: r, next => !(decide (s.seq < 0) || (!(decide (1 ≤ s.count) && decide (s.count ≤ 4)) || (!(decide (-1 ≤ s.base) && decide (s.base ≤ 1048576)) || decide (IntKind.wrap .i64 (headAt r next - s.count) < s.seq)))) && okR r next
theorem okFrom_okR (p : Prod) : ∀ k i, p.seen.length - i = k → i ≤ p.seen.length → okFrom p i = okR (p.seen.drop i) p.next := by
  intro k
  induction k with
  | zero => intro i h1 h2; rw [show i = p.seen.length by omega]; simp [okFrom_end, okR]
  | succ k ih =>
    intro i h1 h2
    have hi : i < p.seen.length := by omega
    rw [okFrom_step p i hi, List.drop_eq_getElem_cons hi, okR, ih (i + 1) (by omega) (by omega)]
    have : nextAt p i = headAt (p.seen.drop (i + 1)) p.next := by
      unfold nextAt
      by_cases h : i + 1 < p.seen.length
      · rw [dif_pos h, List.drop_eq_getElem_cons h]; rfl
      · rw [dif_neg h, List.drop_of_length_le (by omega)]; rfl
    rw [← this]; rfl
def rngS (l : List Seen) : Prop := ∀ s ∈ l, s.seq ≤ 9223372036854775807
theorem okR_le {next : Int} (hn : 0 ≤ next) (hn2 : next ≤ 1048576) : ∀ l : List Seen, rngS l → okR l next = true → 0 ≤ headAt l next ∧ headAt l next ≤ next := by
  intro l
  induction l with
  | nil => intro _ _; exact ⟨hn, Int.le_refl _⟩
  | cons s r ih =>
    intro hr h
    have := ih (fun x hx => hr x (List.mem_cons_of_mem _ hx))
    simp only [okR, Bool.and_eq_true, Bool.not_eq_true', Bool.or_eq_false_iff, decide_eq_false_iff_not, Bool.not_eq_false'] at h
    obtain ⟨h1, h2⟩ := this h.2
    obtain ⟨⟨h3, h4, h5, h6⟩, -⟩ := h
    simp only [Bool.and_eq_true, decide_eq_true_eq] at h4
    rw [wrap64 (by omega) (by omega)] at h6
    show 0 ≤ s.seq ∧ s.seq ≤ next
    omega
theorem okAll_okR {next : Int} (hn : 0 ≤ next) (hn2 : next ≤ 1048576) : ∀ (l : List Seen), rngS l → ∀ least : Int, 0 ≤ least → okAll l least next = (decide (least ≤ headAt l next) && okR l next) := by
  intro l
  induction l with
  | nil => intro _ least _; simp only [okAll, headAt, okR, Bool.and_true]; exact decide_eq_decide.2 Iff.rfl
  | cons s r ih =>
    intro hr least hl
    have hr' : rngS r := fun x hx => hr x (List.mem_cons_of_mem _ hx)
    show (okS least next s && okAll r (s.seq + s.count) next) = (decide (least ≤ s.seq) && okR (s :: r) next)
    rw [Bool.eq_iff_iff]
    simp only [okS, okR, Bool.and_eq_true, decide_eq_true_eq, Bool.not_eq_true', Bool.or_eq_false_iff, decide_eq_false_iff_not, Bool.not_eq_false']
    constructor
    · rintro ⟨⟨⟨⟨h1, h2⟩, h3, h4⟩, h5, h6⟩, h7⟩
      rw [ih hr' _ (by omega)] at h7
      simp only [Bool.and_eq_true, decide_eq_true_eq] at h7
      have := okR_le hn hn2 r hr' h7.2
      rw [wrap64 (by omega) (by omega)]
      refine ⟨h1, ⟨by omega, ⟨h3, h4⟩, ⟨h5, h6⟩, by omega⟩, h7.2⟩
    · rintro ⟨h1, ⟨h2, ⟨h3, h4⟩, ⟨h5, h6⟩, h7⟩, h8⟩
      have := okR_le hn hn2 r hr' h8
      rw [wrap64 (by omega) (by omega)] at h7
      refine ⟨⟨⟨⟨h1, by omega⟩, h3, h4⟩, h5, h6⟩, ?_⟩
      rw [ih hr' _ (by omega)]
      simp only [Bool.and_eq_true, decide_eq_true_eq]
      exact ⟨by omega, h8⟩
theorem knownR_eq (p : Prod) (hr : rngS p.seen) : knownR p = knownP p := by
  unfold knownR knownP
  by_cases h : 0 ≤ p.next ∧ p.next ≤ 1048576
  · rw [okFrom_okR p _ 0 rfl (Nat.zero_le _), okAll_okR h.1 h.2 _ hr 0 (Int.le_refl _), List.drop_zero]
    cases h2 : okR p.seen p.next with
    | true =>
      have := (okR_le h.1 h.2 _ hr h2).1
      simp [this]
    | false => simp
  · have : (decide (0 ≤ p.next) && decide (p.next ≤ 1048576)) = false := by simp; omega
    simp [this]
end Go.Mir.A
namespace Go.Mir.A
attribute [local congr] bind_head
attribute [local simp] gc ofCells bindArgs resD St.get St.set Dat.underL Dat.underLL gc_self fillD elemsD rowsOk_nil rowsOk_cons rowsOk_app rowsOk_tk rowsOk_dp rowsOk_tl underLL_tl underLL_app underLL_tk underLL_dp nn1 nn2 take_rest take_full appD_nil Option.bind_some strip_undef strip1_undef norm_undef noTup_undef safe_undef cells_undef under_undef strip_int strip1_int norm_int noTup_int safe_int cells_int under_int strip_bool strip1_bool norm_bool noTup_bool safe_bool cells_bool under_bool strip_str strip1_str norm_str noTup_str safe_str cells_str under_str strip_agg strip1_agg norm_agg noTup_agg safe_agg cells_agg under_agg strip_tup strip1_tup norm_tup noTup_tup safe_tup cells_tup under_tup strip_slice strip1_slice norm_slice noTup_slice safe_slice cells_slice under_slice strip_nilp strip1_nilp norm_nilp noTup_nilp safe_nilp cells_nilp under_nilp strip_ptr strip1_ptr norm_ptr noTup_ptr safe_ptr cells_ptr under_ptr strip_rptr strip1_rptr norm_rptr noTup_rptr safe_rptr cells_rptr under_rptr strip_fn strip1_fn norm_fn noTup_fn safe_fn cells_fn under_fn strip_nilf strip1_nilf norm_nilf noTup_nilf safe_nilf cells_nilf under_nilf strip_iface strip1_iface norm_iface noTup_iface safe_iface cells_iface under_iface strip_nili strip1_nili norm_nili noTup_nili safe_nili cells_nili under_nili bin_add bin_sub bin_mul bin_quo bin_rem bin_eql bin_neq bin_lss bin_leq bin_gtr bin_geq bin_and bin_or bin_xor bin_andNot bin_shl bin_shr sbin_add sbin_eql sbin_neq sbin_lss sbin_leq sbin_gtr sbin_geq load_ptr load_rptr cellEq_int cellEq_bool cellEq_str cellsEq_nil cellsEq_cons rows_sl rows_str packD_one packD_nil packD_two leave_ret leave_normal leave_exit seqK_normal seqK_exit seqK_ret blockK_normal blockK_exit blockK_ret condK_bool exec_skip exec_exit exec_ret exec_loop exec_seq exec_block exec_cond ev_tmp ev_lit evs_nil evs_cons takeK_some take_tmp take_lit zk_eq keepK_some keepK_none keep_nil keep_cons putD_some putD_none put_eq get_nil get_cons steps_nil steps_cons step_none guardK_t guardK_f guardK_undef step_some pickV_bool eo_pick loadmV_ptr loadmV_rptr eo_loadm eo_load storeV_ptr eo_store storefV_ptr eo_storef clearK_ptr clearK_rptr clearK_none clear_eq nilCheckV_ptr nilCheckV_rptr nilCheckV_fn eo_nilCheck eqsV_agg eo_eqs eqbV_bool eo_eqb unV_neg unV_not eo_un convV_int eo_conv boundK_int bound_none bound_some sliceV_slice eo_slice substrV_str eo_substr fieldAddrV_ptr fieldAddrV_rptr eo_fieldAddr fieldV_agg eo_field indexV_slice eo_index indexArrV_ptr indexArrV_rptr eo_indexArr atV_str eo_at extractV_tup eo_extract extractnV_tup eo_extractn callV_fn eo_call callcV_fn eo_callc callrV_fn eo_callr callR_eq beq_st loadrV_rptr eo_loadr lenV_slice lenV_str eo_len appV_slice eo_append minV_int maxV_int eo_min2 eo_max2 eo_mov_t eo_mov_f eo_alloc eo_box eo_build eo_buildSlice eo_bin eo_mkfn callD_eq callC_eq encPs encP encB encS encR under_encP under_encS under_encR rowsOk_S rowsOk_P rowsOk_R
set_option linter.unusedSimpArgs false
set_option linter.unusedVariables false
set_option maxHeartbeats 1000000
set_option maxRecDepth 4000

def okL (l : List Prod) : Prop := l.length ≤ 1000 ∧ ∀ p ∈ l, p.seen.length ≤ 1000 ∧ rngS p.seen
def e54 (l : List Prod) (i : Nat) : Env := [(0, encPs l), (3, .int .i64 (lastAt l i)), (4, .int .i64 i)]
theorem t54 (l : List Prod) (hl : okL l) : run tab 54 [encPs l] [] = some (.bool (mayPs l 0), []) := by
  rw [run_eq, tab_54]
  simp [m54, x54_0, q54_0_0, x54_1, q54_1_0, x54_2, q54_2_0, x54_3, q54_3_0, x54_5, q54_5_0, q54_5_1, q54_5_2, x54_6, q54_6_0, x54_7, q54_7_0, x54_4, q54_4_0, x54_8, q54_8_0]
  simp only [Option.bind_assoc]
  refine (loop_cont (e54 l) (fun _ => []) l.length (fun _ => True) (fun i => some (Dat.bool (mayPs (l.drop i) (lastAt l i)), [])) trivial (fun _ => ?_) fun i hi _ => ?_).trans (by simp [lastAt])
  · simp [l54_0, m54, x54_0, q54_0_0, x54_1, q54_1_0, x54_2, q54_2_0, x54_3, q54_3_0, x54_5, q54_5_0, q54_5_1, q54_5_2, x54_6, q54_6_0, x54_7, q54_7_0, x54_4, q54_4_0, x54_8, q54_8_0, e54, mayPs]
  · have hw : IntKind.wrap .i64 ((i : Int) + 1) = i + 1 := wrap64 (by omega) (by have := hl.1; omega)
    have hle : lastAt l (i + 1) = (l[i]).pid := by simp [lastAt, hi]
    obtain ⟨hp1, hp2⟩ := hl.2 _ (List.getElem_mem hi)
    have hk := t69 l[i] hp1
    rw [knownR_eq _ hp2] at hk
    simp at hk
    rw [List.drop_eq_getElem_cons hi]
    cases hkn : knownP l[i] with
    | false =>
      rw [hkn] at hk
      refine .inr ?_
      simp [l54_0, m54, x54_0, q54_0_0, x54_1, q54_1_0, x54_2, q54_2_0, x54_3, q54_3_0, x54_5, q54_5_0, q54_5_1, q54_5_2, x54_6, q54_6_0, x54_7, q54_7_0, x54_4, q54_4_0, x54_8, q54_8_0, e54, hi, hk, hkn, esc_69, mayPs]
    | true =>
      rw [hkn] at hk
      by_cases h2 : (l[i]).pid ≤ lastAt l i
      · have h2' : ¬ lastAt l i < (l[i]).pid := by omega
        refine .inr ?_
        simp [l54_0, m54, x54_0, q54_0_0, x54_1, q54_1_0, x54_2, q54_2_0, x54_3, q54_3_0, x54_5, q54_5_0, q54_5_1, q54_5_2, x54_6, q54_6_0, x54_7, q54_7_0, x54_4, q54_4_0, x54_8, q54_8_0, e54, hi, hk, hkn, esc_69, mayPs, h2, h2']
      · have h2' : lastAt l i < (l[i]).pid := by omega
        refine .inl ⟨?_, trivial, ?_⟩
        · simp [l54_0, m54, x54_0, q54_0_0, x54_1, q54_1_0, x54_2, q54_2_0, x54_3, q54_3_0, x54_5, q54_5_0, q54_5_1, q54_5_2, x54_6, q54_6_0, x54_7, q54_7_0, x54_4, q54_4_0, x54_8, q54_8_0, e54, hi, hk, hkn, esc_69, h2, h2', hw, hle]
        · simp [mayPs, h2', hkn, hle]

theorem t33 (l : List Prod) (p : Prod) (hl : l.length ≤ 1000) : run tab 33 [encPs l, .agg (encP p)] [] = some (.slice false ((setP l p).map encP), []) := by
  have h53 := t53 l p.pid (by omega)
  simp at h53
  have hle := place_le l p.pid
  have a2 := appD_ok (esz := 4) (bytes := 48) (xs := (l.take (place l p.pid)).map encP) (ys := [encP p]) (by simp; omega) (rows_encP _) (by simp [encP])
  rw [run_eq, tab_33]
  cases ht : there l p.pid with
  | true =>
    have hlt := place_lt ht
    have h1 : 1 ≤ l.length - place l p.pid := by omega
    have htk : List.take (l.length - place l p.pid - 1) (List.drop (place l p.pid + 1) (List.map encP l)) = List.drop (place l p.pid + 1) (List.map encP l) := List.take_of_length_le (by simp; omega)
    rw [ht] at h53
    have a3 := appD_ok (esz := 4) (bytes := 48) (xs := (l.take (place l p.pid) ++ [p]).map encP) (ys := (l.drop (place l p.pid + 1)).map encP) (by simp; omega) (rows_encP _) (rows_encP _)
    simp at a2 a3
    simp [m33, x33_0, q33_0_0, x33_1, q33_1_0, q33_1_1, x33_2, q33_2_0, x33_3, q33_3_0, x33_4, q33_4_0, x33_5, q33_5_0, q33_5_1, h53, esc_53, hle, setP, ht, h1, htk, a2, a3]
  | false =>
    rw [ht] at h53
    have a3 := appD_ok (esz := 4) (bytes := 48) (xs := (l.take (place l p.pid) ++ [p]).map encP) (ys := (l.drop (place l p.pid)).map encP) (by simp; omega) (rows_encP _) (rows_encP _)
    simp at a2 a3
    simp [m33, x33_0, q33_0_0, x33_1, q33_1_0, q33_1_1, x33_2, q33_2_0, x33_3, q33_3_0, x33_4, q33_4_0, x33_5, q33_5_0, q33_5_1, h53, esc_53, hle, setP, ht, a2, a3]
end Go.Mir.A
