import Derived.Test.YtlpfeikoniepiaaRRL20
set_option linter.all false
namespace Go.Mir.A
attribute [local congr] bind_head
attribute [local simp] exec stepOps stepOp wantedD evalOp.eq_1 evalOp.eq_2 evalOp.eq_3 evalOp.eq_4 evalOp.eq_5 evalOp.eq_6 evalOp.eq_7 evalOp.eq_8 evalOp.eq_9 evalOp.eq_10 evalOp.eq_11 evalOp.eq_12 evalOp.eq_13 evalOp.eq_14 evalOp.eq_15 evalOp.eq_16 evalOp.eq_18 evalOp.eq_19 evalOp.eq_20 evalOp.eq_21 evalOp.eq_22 evalOp.eq_23 evalOp.eq_24 evalOp.eq_25 evalOp.eq_26 evalOp.eq_27 evalOp.eq_28 evalOp.eq_29 evalOp.eq_31 evalOp.eq_32 evalOp_append evalOp_slice appD_nil rowsOk_nil rowsOk_cons rowsOk_app rowsOk_tk rowsOk_dp rowsOk_tl rowsOk_S rowsOk_P rowsOk_R underLL_tl underLL_app underLL_tk underLL_dp nn1 nn2 take_rest take_full MArg.ev MArg.evs Env.get Env.put Env.keep putD gc Dat.strip Dat.strip1 MArg.take binD intBin loadD ofCells bindArgs leave resD packD Dat.noTup encPs encP encB encS encR Dat.cells? Dat.safe St.get St.set Dat.underL Dat.underLL Dat.under Dat.norm callD callC under_encP under_encS under_encR gc_self fillD elemsD bound Dat.rows? cellsEq cellEq
set_option linter.unusedSimpArgs false
set_option linter.unusedVariables false
set_option maxHeartbeats 1000000

/-- the producer that a batch goes on with -/
def baseP (l : List Prod) (b : Batch) : Prod := if (findP l b.pid).2 = true ∧ (findP l b.pid).1.epoch = b.epoch then (findP l b.pid).1 else ⟨b.pid, b.epoch, 0, []⟩
def cutS (l : List Seen) (n : Nat) : List Seen := if n = 3 then l.drop 1 else l
def newP (p : Prod) (b : Batch) (base : Int) : Prod := ⟨p.pid, p.epoch, IntKind.wrap .i64 (b.seq + b.recs.length), cutS (p.seen ++ [⟨b.seq, b.recs.length, base⟩]) p.seen.length⟩
def takeP (l : List Prod) (b : Batch) (base : Int) : List Prod × Int :=
  if base < -1 ∨ 1048576 < base then ([], 2) else
    if (checkP l b).2.2 ≠ 0 then ([], (checkP l b).2.2) else if (checkP l b).2.1 = true then ([], 101) else (setP l (newP (baseP l b) b base), 0)
def encT (t : List Prod × Int) : Dat := .tup [.slice false (t.1.map encP), .int .i64 t.2]
theorem rows_encS (l : List Seen) : ∀ x ∈ l.map encS, x.length = 3 := by
  intro x hx
  obtain ⟨p, _, rfl⟩ := List.mem_map.1 hx
  rfl
theorem mayPs_mem : ∀ {l : List Prod} {a : Int}, mayPs l a = true → ∀ p ∈ l, knownP p = true := by
  intro l
  induction l with
  | nil => intro a _ p hp; cases hp
  | cons x r ih =>
    intro a h p hp
    simp only [mayPs, Bool.and_eq_true] at h
    rcases List.mem_cons.1 hp with rfl | hp
    · exact h.1.2
    · exact ih h.2 p hp
theorem checkP_may {l : List Prod} {b : Batch} (h : (checkP l b).2.2 = 0) : mayPs l 0 = true ∧ mayB b = true := by
  unfold checkP at h
  split at h
  · cases h
  · rename_i h1
    simp only [not_or, Bool.not_eq_false] at h1
    exact h1
theorem knownP_len {p : Prod} (h : knownP p = true) : p.seen.length ≤ 3 := by
  simp only [knownP, Bool.and_eq_true, decide_eq_true_eq] at h
  omega

theorem t12 (l : List Prod) (b : Batch) (base : Int) (hl : okL l) (hb : b.recs.length ≤ 1000) : run tab 12 [encPs l, .agg (encB b), .int .i64 base] [] = some (encT (takeP l b base), []) := by
  have h17 := t17 l b hl hb
  have h20 := t20 l b.pid (by have := hl.1; omega)
  simp [encC] at h17 h20
  rw [run_eq, tab_12]
  by_cases hb1 : base < -1
  · simp [m12, x12_0, q12_0_0, x12_1, q12_1_0, q12_1_1, x12_2, q12_2_0, x12_3, q12_3_0, x12_4, q12_4_0, x12_5, q12_5_0, x12_6, q12_6_0, x12_7, q12_7_0, x12_8, q12_8_0, x12_9, q12_9_0, q12_9_1, x12_10, q12_10_0, q12_10_1, x12_11, q12_11_0, x12_12, q12_12_0, x12_13, q12_13_0, q12_13_1, q12_13_2, q12_13_3, x12_14, q12_14_0, x12_15, q12_15_0, x12_16, q12_16_0, h17, esc_17, hb1, takeP, encT]
  by_cases hb2 : 1048576 < base
  · simp [m12, x12_0, q12_0_0, x12_1, q12_1_0, q12_1_1, x12_2, q12_2_0, x12_3, q12_3_0, x12_4, q12_4_0, x12_5, q12_5_0, x12_6, q12_6_0, x12_7, q12_7_0, x12_8, q12_8_0, x12_9, q12_9_0, q12_9_1, x12_10, q12_10_0, q12_10_1, x12_11, q12_11_0, x12_12, q12_12_0, x12_13, q12_13_0, q12_13_1, q12_13_2, q12_13_3, x12_14, q12_14_0, x12_15, q12_15_0, x12_16, q12_16_0, h17, esc_17, hb1, hb2, takeP, encT]
  by_cases he : ¬ (checkP l b).2.2 = 0
  · simp [m12, x12_0, q12_0_0, x12_1, q12_1_0, q12_1_1, x12_2, q12_2_0, x12_3, q12_3_0, x12_4, q12_4_0, x12_5, q12_5_0, x12_6, q12_6_0, x12_7, q12_7_0, x12_8, q12_8_0, x12_9, q12_9_0, q12_9_1, x12_10, q12_10_0, q12_10_1, x12_11, q12_11_0, x12_12, q12_12_0, x12_13, q12_13_0, q12_13_1, q12_13_2, q12_13_3, x12_14, q12_14_0, x12_15, q12_15_0, x12_16, q12_16_0, h17, esc_17, hb1, hb2, he, takeP, encT]
  have he := Decidable.not_not.1 he
  have he' := eq_true he
  cases hi : (checkP l b).2.1 with
  | true => simp [m12, x12_0, q12_0_0, x12_1, q12_1_0, q12_1_1, x12_2, q12_2_0, x12_3, q12_3_0, x12_4, q12_4_0, x12_5, q12_5_0, x12_6, q12_6_0, x12_7, q12_7_0, x12_8, q12_8_0, x12_9, q12_9_0, q12_9_1, x12_10, q12_10_0, q12_10_1, x12_11, q12_11_0, x12_12, q12_12_0, x12_13, q12_13_0, q12_13_1, q12_13_2, q12_13_3, x12_14, q12_14_0, x12_15, q12_15_0, x12_16, q12_16_0, h17, esc_17, hb1, hb2, he', hi, takeP, encT]
  | false =>
    rcases hf : findP l b.pid with ⟨p, known⟩
    simp [hf] at h20
    have h32 := t32 b
    have hmy := (checkP_may he).1
    simp at h32
    by_cases hg : known = true ∧ p.epoch = b.epoch
    · obtain ⟨rfl, hg⟩ := hg
      have hg' := eq_true hg
      obtain ⟨hp, hpp⟩ := findP_mem hf
      have hps := (hl.2 p hp).1
      have h33 := t33 l (newP p b base) hl.1
      have a1 := appD_ok (esz := 3) (bytes := 24) (xs := p.seen.map encS) (ys := [encS ⟨b.seq, b.recs.length, base⟩]) (by simp; omega) (rows_encS _) (by simp [encS])
      by_cases hn : p.seen.length = 3
      · have hn' : ((p.seen.length : Int) = 3) = True := eq_true (by omega)
        have htk : List.take 3 (List.map encS p.seen) = List.map encS p.seen := List.take_of_length_le (by simp; omega)
        have htk2 : List.take 3 (List.map encS p.seen ++ [[Dat.int .i64 b.seq, Dat.int .i64 b.recs.length, Dat.int .i64 base]]).tail = (List.map encS p.seen ++ [[Dat.int .i64 b.seq, Dat.int .i64 b.recs.length, Dat.int .i64 base]]).tail := List.take_of_length_le (by simp; omega)
        simp [newP, cutS, hn] at h33 a1
        simp [m12, x12_0, q12_0_0, x12_1, q12_1_0, q12_1_1, x12_2, q12_2_0, x12_3, q12_3_0, x12_4, q12_4_0, x12_5, q12_5_0, x12_6, q12_6_0, x12_7, q12_7_0, x12_8, q12_8_0, x12_9, q12_9_0, q12_9_1, x12_10, q12_10_0, q12_10_1, x12_11, q12_11_0, x12_12, q12_12_0, x12_13, q12_13_0, q12_13_1, q12_13_2, q12_13_3, x12_14, q12_14_0, x12_15, q12_15_0, x12_16, q12_16_0, h17, esc_17, hb1, hb2, he', hi, takeP, encT, h20, esc_20, hg', h32, esc_32, hn, htk, htk2, a1, h33, esc_33, baseP, hf, newP, cutS]
      · have hn' : ((p.seen.length : Int) = 3) = False := eq_false (by omega)
        simp [newP, cutS, hn] at h33 a1
        simp [m12, x12_0, q12_0_0, x12_1, q12_1_0, q12_1_1, x12_2, q12_2_0, x12_3, q12_3_0, x12_4, q12_4_0, x12_5, q12_5_0, x12_6, q12_6_0, x12_7, q12_7_0, x12_8, q12_8_0, x12_9, q12_9_0, q12_9_1, x12_10, q12_10_0, q12_10_1, x12_11, q12_11_0, x12_12, q12_12_0, x12_13, q12_13_0, q12_13_1, q12_13_2, q12_13_3, x12_14, q12_14_0, x12_15, q12_15_0, x12_16, q12_16_0, h17, esc_17, hb1, hb2, he', hi, takeP, encT, h20, esc_20, hg', h32, esc_32, hn, hn', a1, h33, esc_33, baseP, hf, newP, cutS]
    · have h33 := t33 l (newP ⟨b.pid, b.epoch, 0, []⟩ b base) hl.1
      have a1 := appD_ok (esz := 3) (bytes := 24) (xs := []) (ys := [encS ⟨b.seq, b.recs.length, base⟩]) (by simp) (by simp) (by simp [encS])
      simp [newP, cutS] at h33 a1
      cases known with
      | false =>
        simp [m12, x12_0, q12_0_0, x12_1, q12_1_0, q12_1_1, x12_2, q12_2_0, x12_3, q12_3_0, x12_4, q12_4_0, x12_5, q12_5_0, x12_6, q12_6_0, x12_7, q12_7_0, x12_8, q12_8_0, x12_9, q12_9_0, q12_9_1, x12_10, q12_10_0, q12_10_1, x12_11, q12_11_0, x12_12, q12_12_0, x12_13, q12_13_0, q12_13_1, q12_13_2, q12_13_3, x12_14, q12_14_0, x12_15, q12_15_0, x12_16, q12_16_0, h17, esc_17, hb1, hb2, he', hi, takeP, encT, h20, esc_20, h32, esc_32, a1, h33, esc_33, baseP, hf, newP, cutS]
      | true =>
        have hg' : ¬ p.epoch = b.epoch := fun h => hg ⟨rfl, h⟩
        simp [m12, x12_0, q12_0_0, x12_1, q12_1_0, q12_1_1, x12_2, q12_2_0, x12_3, q12_3_0, x12_4, q12_4_0, x12_5, q12_5_0, x12_6, q12_6_0, x12_7, q12_7_0, x12_8, q12_8_0, x12_9, q12_9_0, q12_9_1, x12_10, q12_10_0, q12_10_1, x12_11, q12_11_0, x12_12, q12_12_0, x12_13, q12_13_0, q12_13_1, q12_13_2, q12_13_3, x12_14, q12_14_0, x12_15, q12_15_0, x12_16, q12_16_0, h17, esc_17, hb1, hb2, he', hi, takeP, encT, h20, esc_20, hg', h32, esc_32, a1, h33, esc_33, baseP, hf, newP, cutS]
end Go.Mir.A
