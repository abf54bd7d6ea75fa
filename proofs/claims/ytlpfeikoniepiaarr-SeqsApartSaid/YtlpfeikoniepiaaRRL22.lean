import Derived.Test.YtlpfeikoniepiaaRRL21
set_option linter.all false
namespace Go.Mir.A
attribute [local congr] bind_head
attribute [local simp] exec stepOps stepOp wantedD evalOp.eq_1 evalOp.eq_2 evalOp.eq_3 evalOp.eq_4 evalOp.eq_5 evalOp.eq_6 evalOp.eq_7 evalOp.eq_8 evalOp.eq_9 evalOp.eq_10 evalOp.eq_11 evalOp.eq_12 evalOp.eq_13 evalOp.eq_14 evalOp.eq_15 evalOp.eq_16 evalOp.eq_18 evalOp.eq_19 evalOp.eq_20 evalOp.eq_21 evalOp.eq_22 evalOp.eq_23 evalOp.eq_24 evalOp.eq_25 evalOp.eq_26 evalOp.eq_27 evalOp.eq_28 evalOp.eq_29 evalOp.eq_31 evalOp.eq_32 evalOp_append evalOp_slice appD_nil rowsOk_nil rowsOk_cons rowsOk_app rowsOk_tk rowsOk_dp rowsOk_tl rowsOk_S rowsOk_P rowsOk_R underLL_tl underLL_app underLL_tk underLL_dp nn1 nn2 take_rest take_full MArg.ev MArg.evs Env.get Env.put Env.keep putD gc Dat.strip Dat.strip1 MArg.take binD intBin loadD ofCells bindArgs leave resD packD Dat.noTup encPs encP encB encS encR Dat.cells? Dat.safe St.get St.set Dat.underL Dat.underLL Dat.under Dat.norm callD callC under_encP under_encS under_encR gc_self fillD elemsD bound Dat.rows? cellsEq cellEq
set_option linter.unusedSimpArgs false
set_option linter.unusedVariables false
set_option maxHeartbeats 1000000

theorem t13 (l : List Prod) (b : Batch) (base : Int) (hl : okL l) (hb : b.recs.length ≤ 1000) : run tab 13 [encPs l, .agg (encB b), .int .i64 base] [] = some (encT (takeP l b base), []) := by
  have h34 := t34 l b hl hb
  have h35 := t35 l b.pid (by have := hl.1; omega)
  simp [encC] at h34 h35
  rw [run_eq, tab_13]
  by_cases hb1 : base < -1
  · simp [m13, x13_0, q13_0_0, x13_1, q13_1_0, x13_2, q13_2_0, x13_3, q13_3_0, q13_3_1, x13_4, q13_4_0, x13_5, q13_5_0, x13_6, q13_6_0, x13_7, q13_7_0, x13_8, q13_8_0, q13_8_1, x13_9, q13_9_0, q13_9_1, x13_10, q13_10_0, q13_10_1, x13_11, q13_11_0, q13_11_1, x13_12, q13_12_0, q13_12_1, q13_12_2, x13_13, q13_13_0, x13_14, q13_14_0, x13_15, q13_15_0, hb1, takeP, encT]
  by_cases hb2 : 1048576 < base
  · simp [m13, x13_0, q13_0_0, x13_1, q13_1_0, x13_2, q13_2_0, x13_3, q13_3_0, q13_3_1, x13_4, q13_4_0, x13_5, q13_5_0, x13_6, q13_6_0, x13_7, q13_7_0, x13_8, q13_8_0, q13_8_1, x13_9, q13_9_0, q13_9_1, x13_10, q13_10_0, q13_10_1, x13_11, q13_11_0, q13_11_1, x13_12, q13_12_0, q13_12_1, q13_12_2, x13_13, q13_13_0, x13_14, q13_14_0, x13_15, q13_15_0, hb1, hb2, takeP, encT]
  by_cases he : ¬ (checkP l b).2.2 = 0
  · simp [m13, x13_0, q13_0_0, x13_1, q13_1_0, x13_2, q13_2_0, x13_3, q13_3_0, q13_3_1, x13_4, q13_4_0, x13_5, q13_5_0, x13_6, q13_6_0, x13_7, q13_7_0, x13_8, q13_8_0, q13_8_1, x13_9, q13_9_0, q13_9_1, x13_10, q13_10_0, q13_10_1, x13_11, q13_11_0, q13_11_1, x13_12, q13_12_0, q13_12_1, q13_12_2, x13_13, q13_13_0, x13_14, q13_14_0, x13_15, q13_15_0, h34, esc_34, hb1, hb2, he, takeP, encT]
  have he := Decidable.not_not.1 he
  have he' := eq_true he
  cases hi : (checkP l b).2.1 with
  | true => simp [m13, x13_0, q13_0_0, x13_1, q13_1_0, x13_2, q13_2_0, x13_3, q13_3_0, q13_3_1, x13_4, q13_4_0, x13_5, q13_5_0, x13_6, q13_6_0, x13_7, q13_7_0, x13_8, q13_8_0, q13_8_1, x13_9, q13_9_0, q13_9_1, x13_10, q13_10_0, q13_10_1, x13_11, q13_11_0, q13_11_1, x13_12, q13_12_0, q13_12_1, q13_12_2, x13_13, q13_13_0, x13_14, q13_14_0, x13_15, q13_15_0, h34, esc_34, hb1, hb2, he', hi, takeP, encT]
  | false =>
    rcases hf : findP l b.pid with ⟨p, known⟩
    simp [hf] at h35
    have h36 := t36 b
    have hmy := (checkP_may he).1
    simp at h36
    by_cases hg : known = true ∧ p.epoch = b.epoch
    · obtain ⟨rfl, hg⟩ := hg
      have hg' := eq_true hg
      obtain ⟨hp, hpp⟩ := findP_mem hf
      have hps := (hl.2 p hp).1
      have hk3 := knownP_len (mayPs_mem hmy p hp)
      have h37 := t37 l (newP p b base) hl.1
      have a0 := appD_ok (esz := 3) (bytes := 24) (xs := []) (ys := p.seen.map encS) (by simp; omega) (by simp) (rows_encS _)
      have a1 := appD_ok (esz := 3) (bytes := 24) (xs := p.seen.map encS) (ys := [encS ⟨b.seq, b.recs.length, base⟩]) (by simp; omega) (rows_encS _) (by simp [encS])
      by_cases hn : p.seen.length = 3
      · have htk2 : List.take 3 (List.map encS p.seen ++ [[Dat.int .i64 b.seq, Dat.int .i64 b.recs.length, Dat.int .i64 base]]).tail = (List.map encS p.seen ++ [[Dat.int .i64 b.seq, Dat.int .i64 b.recs.length, Dat.int .i64 base]]).tail := List.take_of_length_le (by simp; omega)
        simp [newP, cutS, hn, hpp, hg] at h37 a0 a1
        simp [m13, x13_0, q13_0_0, x13_1, q13_1_0, x13_2, q13_2_0, x13_3, q13_3_0, q13_3_1, x13_4, q13_4_0, x13_5, q13_5_0, x13_6, q13_6_0, x13_7, q13_7_0, x13_8, q13_8_0, q13_8_1, x13_9, q13_9_0, q13_9_1, x13_10, q13_10_0, q13_10_1, x13_11, q13_11_0, q13_11_1, x13_12, q13_12_0, q13_12_1, q13_12_2, x13_13, q13_13_0, x13_14, q13_14_0, x13_15, q13_15_0, h34, esc_34, hb1, hb2, he', hi, takeP, encT, h35, esc_35, hg', h36, esc_36, hn, htk2, a0, a1, h37, esc_37, baseP, hf, newP, cutS, hpp, hg]
      · have hn' : ¬ (3 : Int) < (p.seen.length : Int) + 1 := by omega
        simp [newP, cutS, hn, hpp, hg] at h37 a0 a1
        simp [m13, x13_0, q13_0_0, x13_1, q13_1_0, x13_2, q13_2_0, x13_3, q13_3_0, q13_3_1, x13_4, q13_4_0, x13_5, q13_5_0, x13_6, q13_6_0, x13_7, q13_7_0, x13_8, q13_8_0, q13_8_1, x13_9, q13_9_0, q13_9_1, x13_10, q13_10_0, q13_10_1, x13_11, q13_11_0, q13_11_1, x13_12, q13_12_0, q13_12_1, q13_12_2, x13_13, q13_13_0, x13_14, q13_14_0, x13_15, q13_15_0, h34, esc_34, hb1, hb2, he', hi, takeP, encT, h35, esc_35, hg', h36, esc_36, hn, hn', a0, a1, h37, esc_37, baseP, hf, newP, cutS, hpp, hg]
    · have h37 := t37 l (newP ⟨b.pid, b.epoch, 0, []⟩ b base) hl.1
      have a1 := appD_ok (esz := 3) (bytes := 24) (xs := []) (ys := [encS ⟨b.seq, b.recs.length, base⟩]) (by simp) (by simp) (by simp [encS])
      simp [newP, cutS] at h37 a1
      cases known with
      | false =>
        simp [m13, x13_0, q13_0_0, x13_1, q13_1_0, x13_2, q13_2_0, x13_3, q13_3_0, q13_3_1, x13_4, q13_4_0, x13_5, q13_5_0, x13_6, q13_6_0, x13_7, q13_7_0, x13_8, q13_8_0, q13_8_1, x13_9, q13_9_0, q13_9_1, x13_10, q13_10_0, q13_10_1, x13_11, q13_11_0, q13_11_1, x13_12, q13_12_0, q13_12_1, q13_12_2, x13_13, q13_13_0, x13_14, q13_14_0, x13_15, q13_15_0, h34, esc_34, hb1, hb2, he', hi, takeP, encT, h35, esc_35, h36, esc_36, a1, h37, esc_37, baseP, hf, newP, cutS]
      | true =>
        have hg' : ¬ p.epoch = b.epoch := fun h => hg ⟨rfl, h⟩
        simp [m13, x13_0, q13_0_0, x13_1, q13_1_0, x13_2, q13_2_0, x13_3, q13_3_0, q13_3_1, x13_4, q13_4_0, x13_5, q13_5_0, x13_6, q13_6_0, x13_7, q13_7_0, x13_8, q13_8_0, q13_8_1, x13_9, q13_9_0, q13_9_1, x13_10, q13_10_0, q13_10_1, x13_11, q13_11_0, q13_11_1, x13_12, q13_12_0, q13_12_1, q13_12_2, x13_13, q13_13_0, x13_14, q13_14_0, x13_15, q13_15_0, h34, esc_34, hb1, hb2, he', hi, takeP, encT, h35, esc_35, hg', h36, esc_36, a1, h37, esc_37, baseP, hf, newP, cutS]
end Go.Mir.A
