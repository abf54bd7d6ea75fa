import Derived.Test.YtlpfeikoniepiaaRRL17
set_option linter.all false
namespace Go.Mir.A
attribute [local congr] bind_head
attribute [local simp] exec stepOps stepOp wantedD evalOp.eq_1 evalOp.eq_2 evalOp.eq_3 evalOp.eq_4 evalOp.eq_5 evalOp.eq_6 evalOp.eq_7 evalOp.eq_8 evalOp.eq_9 evalOp.eq_10 evalOp.eq_11 evalOp.eq_12 evalOp.eq_13 evalOp.eq_14 evalOp.eq_15 evalOp.eq_16 evalOp.eq_18 evalOp.eq_19 evalOp.eq_20 evalOp.eq_21 evalOp.eq_22 evalOp.eq_23 evalOp.eq_24 evalOp.eq_25 evalOp.eq_26 evalOp.eq_27 evalOp.eq_28 evalOp.eq_29 evalOp.eq_31 evalOp.eq_32 evalOp_append evalOp_slice appD_nil rowsOk_nil rowsOk_cons rowsOk_app rowsOk_tk rowsOk_dp rowsOk_tl rowsOk_S rowsOk_P rowsOk_R underLL_tl underLL_app underLL_tk underLL_dp nn1 nn2 take_rest take_full MArg.ev MArg.evs Env.get Env.put Env.keep putD gc Dat.strip Dat.strip1 MArg.take binD intBin loadD ofCells bindArgs leave resD packD Dat.noTup encPs encP encB encS encR Dat.cells? Dat.safe St.get St.set Dat.underL Dat.underLL Dat.under Dat.norm callD callC under_encP under_encS under_encR gc_self fillD elemsD bound Dat.rows? cellsEq cellEq
set_option linter.unusedSimpArgs false
set_option linter.unusedVariables false
set_option maxHeartbeats 1000000

def okL (l : List Prod) : Prop := l.length ≤ 1000 ∧ ∀ p ∈ l, p.seen.length ≤ 1000 ∧ rngS p.seen
def e54 (l : List Prod) (i : Nat) : Env := [(0, encPs l), (3, .int .i64 (lastAt l i)), (4, .int .i64 i)]
theorem t54 (l : List Prod) (hl : okL l) : run tab 54 [encPs l] [] = some (.bool (mayPs l 0), []) := by
  rw [run_eq, tab_54]
  simp [m54, x54_0, q54_0_0, x54_1, q54_1_0, x54_2, q54_2_0, x54_3, q54_3_0, x54_5, q54_5_0, q54_5_1, q54_5_2, x54_6, q54_6_0, x54_7, q54_7_0, x54_4, q54_4_0, x54_8, q54_8_0]
  simp only [Option.bind_assoc]
  refine (loop_cont (e54 l) (fun _ => []) l.length (fun _ => True) (fun i => some (Dat.bool (mayPs (l.drop i) (lastAt l i)), [])) trivial (fun _ => ?_) fun i hi _ => ?_).trans (by simp [lastAt])
  · simp [l54_0, m54, x54_0, q54_0_0, x54_1, q54_1_0, x54_2, q54_2_0, x54_3, q54_3_0, x54_5, q54_5_0, q54_5_1, q54_5_2, x54_6, q54_6_0, x54_7, q54_7_0, x54_4, q54_4_0, x54_8, q54_8_0, e54, mayPs]
  · have hw : IntKind.wrap .i64 ((i : Int) + 1) = i + 1 := wrap64 (by omega) (by have := hl.1; omega)
    have hle : lastAt l (i + 1) = (l[i]).pid := by simp [lastAt, hi]
    obtain ⟨hp1, hp2⟩ := hl.2 _ (List.getElem_mem hi)
    have hk := t69 l[i] hp1
    rw [knownR_eq _ hp2] at hk
    simp at hk
    rw [List.drop_eq_getElem_cons hi]
    cases hkn : knownP l[i] with
    | false =>
      rw [hkn] at hk
      refine .inr ?_
      simp [l54_0, m54, x54_0, q54_0_0, x54_1, q54_1_0, x54_2, q54_2_0, x54_3, q54_3_0, x54_5, q54_5_0, q54_5_1, q54_5_2, x54_6, q54_6_0, x54_7, q54_7_0, x54_4, q54_4_0, x54_8, q54_8_0, e54, hi, hk, hkn, esc_69, mayPs]
    | true =>
      rw [hkn] at hk
      by_cases h2 : (l[i]).pid ≤ lastAt l i
      · have h2' : ¬ lastAt l i < (l[i]).pid := by omega
        refine .inr ?_
        simp [l54_0, m54, x54_0, q54_0_0, x54_1, q54_1_0, x54_2, q54_2_0, x54_3, q54_3_0, x54_5, q54_5_0, q54_5_1, q54_5_2, x54_6, q54_6_0, x54_7, q54_7_0, x54_4, q54_4_0, x54_8, q54_8_0, e54, hi, hk, hkn, esc_69, mayPs, h2, h2']
      · have h2' : lastAt l i < (l[i]).pid := by omega
        refine .inl ⟨?_, trivial, ?_⟩
        · simp [l54_0, m54, x54_0, q54_0_0, x54_1, q54_1_0, x54_2, q54_2_0, x54_3, q54_3_0, x54_5, q54_5_0, q54_5_1, q54_5_2, x54_6, q54_6_0, x54_7, q54_7_0, x54_4, q54_4_0, x54_8, q54_8_0, e54, hi, hk, hkn, esc_69, h2, h2', hw, hle]
        · simp [mayPs, h2', hkn, hle]

theorem t33 (l : List Prod) (p : Prod) (hl : l.length ≤ 1000) : run tab 33 [encPs l, .agg (encP p)] [] = some (.slice false ((setP l p).map encP), []) := by
  have h53 := t53 l p.pid (by omega)
  simp at h53
  have hle := place_le l p.pid
  have a2 := appD_ok (esz := 4) (bytes := 48) (xs := (l.take (place l p.pid)).map encP) (ys := [encP p]) (by simp; omega) (rows_encP _) (by simp [encP])
  rw [run_eq, tab_33]
  cases ht : there l p.pid with
  | true =>
    have hlt := place_lt ht
    have h1 : 1 ≤ l.length - place l p.pid := by omega
    have htk : List.take (l.length - place l p.pid - 1) (List.drop (place l p.pid + 1) (List.map encP l)) = List.drop (place l p.pid + 1) (List.map encP l) := List.take_of_length_le (by simp; omega)
    rw [ht] at h53
    have a3 := appD_ok (esz := 4) (bytes := 48) (xs := (l.take (place l p.pid) ++ [p]).map encP) (ys := (l.drop (place l p.pid + 1)).map encP) (by simp; omega) (rows_encP _) (rows_encP _)
    simp at a2 a3
    simp [m33, x33_0, q33_0_0, x33_1, q33_1_0, q33_1_1, x33_2, q33_2_0, x33_3, q33_3_0, x33_4, q33_4_0, x33_5, q33_5_0, q33_5_1, h53, esc_53, hle, setP, ht, h1, htk, a2, a3]
  | false =>
    rw [ht] at h53
    have a3 := appD_ok (esz := 4) (bytes := 48) (xs := (l.take (place l p.pid) ++ [p]).map encP) (ys := (l.drop (place l p.pid)).map encP) (by simp; omega) (rows_encP _) (rows_encP _)
    simp at a2 a3
    simp [m33, x33_0, q33_0_0, x33_1, q33_1_0, q33_1_1, x33_2, q33_2_0, x33_3, q33_3_0, x33_4, q33_4_0, x33_5, q33_5_0, q33_5_1, h53, esc_53, hle, setP, ht, a2, a3]
end Go.Mir.A
