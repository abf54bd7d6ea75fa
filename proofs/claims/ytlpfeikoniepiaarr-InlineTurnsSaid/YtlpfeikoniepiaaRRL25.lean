import Derived.Test.YtlpfeikoniepiaaRRL23
import Derived.Test.YtlpfeikoniepiaaRRL24
import Derived.Test.YtlpfeikoniepiaaRRP2
import Derived.Test.YtlpfeikoniepiaaRRMirSim
set_option linter.all false
namespace Go.Mir.A
attribute [local congr] bind_head
attribute [local simp] gc ofCells bindArgs resD St.get St.set Dat.underL Dat.underLL gc_self fillD elemsD rowsOk_nil rowsOk_cons rowsOk_app rowsOk_tk rowsOk_dp rowsOk_tl underLL_tl underLL_app underLL_tk underLL_dp nn1 nn2 take_rest take_full appD_nil Option.bind_some strip_undef strip1_undef norm_undef noTup_undef safe_undef cells_undef under_undef strip_int strip1_int norm_int noTup_int safe_int cells_int under_int strip_bool strip1_bool norm_bool noTup_bool safe_bool cells_bool under_bool strip_str strip1_str norm_str noTup_str safe_str cells_str under_str strip_agg strip1_agg norm_agg noTup_agg safe_agg cells_agg under_agg strip_tup strip1_tup norm_tup noTup_tup safe_tup cells_tup under_tup strip_slice strip1_slice norm_slice noTup_slice safe_slice cells_slice under_slice strip_nilp strip1_nilp norm_nilp noTup_nilp safe_nilp cells_nilp under_nilp strip_ptr strip1_ptr norm_ptr noTup_ptr safe_ptr cells_ptr under_ptr strip_rptr strip1_rptr norm_rptr noTup_rptr safe_rptr cells_rptr under_rptr strip_fn strip1_fn norm_fn noTup_fn safe_fn cells_fn under_fn strip_nilf strip1_nilf norm_nilf noTup_nilf safe_nilf cells_nilf under_nilf strip_iface strip1_iface norm_iface noTup_iface safe_iface cells_iface under_iface strip_nili strip1_nili norm_nili noTup_nili safe_nili cells_nili under_nili bin_add bin_sub bin_mul bin_quo bin_rem bin_eql bin_neq bin_lss bin_leq bin_gtr bin_geq bin_and bin_or bin_xor bin_andNot bin_shl bin_shr sbin_add sbin_eql sbin_neq sbin_lss sbin_leq sbin_gtr sbin_geq load_ptr load_rptr cellEq_int cellEq_bool cellEq_str cellsEq_nil cellsEq_cons rows_sl rows_str packD_one packD_nil packD_two leave_ret leave_normal leave_exit seqK_normal seqK_exit seqK_ret blockK_normal blockK_exit blockK_ret condK_bool exec_skip exec_exit exec_ret exec_loop exec_seq exec_block exec_cond ev_tmp ev_lit evs_nil evs_cons takeK_some take_tmp take_lit zk_eq keepK_some keepK_none keep_nil keep_cons putD_some putD_none put_eq get_nil get_cons steps_nil steps_cons step_none guardK_t guardK_f guardK_undef step_some pickV_bool eo_pick loadmV_ptr loadmV_rptr eo_loadm eo_load storeV_ptr eo_store storefV_ptr eo_storef clearK_ptr clearK_rptr clearK_none clear_eq nilCheckV_ptr nilCheckV_rptr nilCheckV_fn eo_nilCheck eqsV_agg eo_eqs eqbV_bool eo_eqb unV_neg unV_not eo_un convV_int eo_conv boundK_int bound_none bound_some sliceV_slice eo_slice substrV_str eo_substr fieldAddrV_ptr fieldAddrV_rptr eo_fieldAddr fieldV_agg eo_field indexV_slice eo_index indexArrV_ptr indexArrV_rptr eo_indexArr atV_str eo_at extractV_tup eo_extract extractnV_tup eo_extractn callV_fn eo_call callcV_fn eo_callc callrV_fn eo_callr callR_eq beq_st loadrV_rptr eo_loadr lenV_slice lenV_str eo_len appV_slice eo_append minV_int maxV_int eo_min2 eo_max2 eo_mov_t eo_mov_f eo_alloc eo_box eo_build eo_buildSlice eo_bin eo_mkfn callD_eq callC_eq encPs encP encB encS encR under_encP under_encS under_encR rowsOk_S rowsOk_P rowsOk_R
set_option linter.unusedSimpArgs false
set_option linter.unusedVariables false
set_option maxHeartbeats 1000000
set_option maxRecDepth 4000

def okN (n : Nat) (l : List Prod) : Prop := l.length ≤ n ∧ ∀ p ∈ l, p.seen.length ≤ n ∧ rngS p.seen
theorem okN_L {n : Nat} {l : List Prod} (h : okN n l) (hn : n ≤ 1000) : okL l := ⟨Nat.le_trans h.1 hn, fun p hp => ⟨Nat.le_trans (h.2 p hp).1 hn, (h.2 p hp).2⟩⟩
theorem baseP_ok {n : Nat} {l : List Prod} (h : okN n l) (b : Batch) : (baseP l b).seen.length ≤ n ∧ rngS (baseP l b).seen := by
  unfold baseP
  split
  · rename_i hh
    rcases hf : findP l b.pid with ⟨p, known⟩
    rw [hf] at hh
    obtain rfl : known = true := hh.1
    exact h.2 p (findP_mem hf).1
  · exact ⟨Nat.zero_le _, fun s hs => by cases hs⟩
theorem takeP_ok {n : Nat} {l : List Prod} (h : okN n l) (b : Batch) (base : Int) (hb : b.seq ≤ 9223372036854775807) : okN (n + 1) (takeP l b base).1 := by
  unfold takeP
  split
  · exact ⟨Nat.zero_le _, fun p hp => by cases hp⟩
  split
  · exact ⟨Nat.zero_le _, fun p hp => by cases hp⟩
  split
  · exact ⟨Nat.zero_le _, fun p hp => by cases hp⟩
  refine ⟨Nat.le_trans (setP_len _ _) (by have := h.1; omega), fun p hp => ?_⟩
  rcases setP_mem hp with hp | rfl
  · have := h.2 p hp; exact ⟨by omega, this.2⟩
  · have hbp := baseP_ok h b
    refine ⟨Nat.le_trans (cutS_len _ _) (by simp; exact hbp.1), fun s hs => ?_⟩
    have hs : s ∈ (baseP l b).seen ++ [⟨b.seq, b.recs.length, base⟩] := by
      unfold newP cutS at hs
      simp only at hs
      split at hs
      · exact List.mem_of_mem_drop hs
      · exact hs
    rcases List.mem_append.1 hs with hs | hs
    · exact hbp.2 s hs
    · simp at hs; rw [hs]; exact hb
theorem findP_len {n : Nat} {l : List Prod} (h : okN n l) (pid : Int) : (findP l pid).1.seen.length ≤ n := by
  rcases hf : findP l pid with ⟨p, known⟩
  cases known with
  | true => exact (h.2 p (findP_mem hf).1).1
  | false => obtain ⟨rfl, -⟩ := findP_none hf; exact Nat.zero_le _
theorem setP_ok {n : Nat} {l : List Prod} {q : Prod} (h : okN n l) (hq : q.seen.length ≤ n + 1 ∧ rngS q.seen) : okN (n + 1) (setP l q) :=
  ⟨Nat.le_trans (setP_len _ _) (by have := h.1; omega), fun p hp => by
    rcases setP_mem hp with hp | rfl
    · have := h.2 p hp; exact ⟨by omega, this.2⟩
    · exact hq⟩
theorem okN_up {n m : Nat} {l : List Prod} (h : okN n l) (hm : n ≤ m) : okN m l := ⟨by have := h.1; omega, fun p hp => ⟨by have := (h.2 p hp).1; omega, (h.2 p hp).2⟩⟩
theorem clearP_ok {n : Nat} {l : List Prod} (h : okN n l) (pid : Int) : okN (n + 1) (clearP l pid) := by
  unfold clearP
  split
  · exact setP_ok h ⟨Nat.zero_le _, fun s hs => by cases hs⟩
  · exact okN_up h (by omega)

abbrev Ones := Nat × Bool × List Prod × List Tk
end Go.Mir.A
