import Derived.Test.YtlpfeikoniepiaaRRL18
import Derived.Test.YtlpfeikoniepiaaRRLB
set_option linter.all false
namespace Go.Mir.A
attribute [local congr] bind_head
attribute [local simp] exec stepOps stepOp wantedD evalOp.eq_1 evalOp.eq_2 evalOp.eq_3 evalOp.eq_4 evalOp.eq_5 evalOp.eq_6 evalOp.eq_7 evalOp.eq_8 evalOp.eq_9 evalOp.eq_10 evalOp.eq_11 evalOp.eq_12 evalOp.eq_13 evalOp.eq_14 evalOp.eq_15 evalOp.eq_16 evalOp.eq_17 evalOp.eq_18 evalOp.eq_19 evalOp.eq_20 evalOp.eq_21 evalOp.eq_22 evalOp.eq_23 evalOp.eq_24 evalOp.eq_25 evalOp.eq_26 evalOp.eq_27 evalOp.eq_28 evalOp.eq_29 evalOp.eq_31 evalOp.eq_32 evalOp_append appD_nil underLL_app underLL_tk underLL_dp nn1 nn2 take_rest MArg.ev MArg.evs Env.get Env.put Env.keep putD gc Dat.strip Dat.strip1 MArg.take binD intBin loadD ofCells bindArgs leave resD packD Dat.noTup encPs encP encB encS encR Dat.cells? Dat.safe St.get St.set Dat.underL Dat.underLL Dat.under Dat.norm callD callC under_encP under_encS under_encR gc_self fillD elemsD bound Dat.rows? cellsEq cellEq
set_option linter.unusedSimpArgs false
set_option linter.unusedVariables false
set_option maxHeartbeats 1000000

theorem findP_mem {l : List Prod} {pid : Int} {p : Prod} (h : findP l pid = (p, true)) : p ∈ l ∧ p.pid = pid := by
  unfold findP at h
  split at h
  · rename_i h1
    injection h with h2 h3
    subst h2
    refine ⟨List.getElem_mem h1, ?_⟩
    have := List.findIdx_getElem (w := h1)
    exact of_decide_eq_true this
  · injection h with h2 h3; cases h3
theorem findP_none {l : List Prod} {pid : Int} {p : Prod} (h : findP l pid = (p, false)) : p = zeroP ∧ ∀ x ∈ l, x.pid ≠ pid := by
  unfold findP at h
  split at h
  · injection h with h2 h3; cases h3
  · rename_i h1
    injection h with h2 h3
    refine ⟨h2.symm, fun x hx hp => h1 ?_⟩
    exact List.findIdx_lt_length_of_exists ⟨x, hx, by simp [hp]⟩
def seenIdx (p : Prod) (b : Batch) : Nat := p.seen.findIdx fun s : Seen => decide (s.seq = b.seq) && decide (s.count = (b.recs.length : Int))
/-- what a batch is: its base, whether it is a duplicate, the error -/
def checkP (l : List Prod) (b : Batch) : Int × Bool × Int :=
  if mayPs l 0 = false ∨ mayB b = false then (0, false, 2) else
    if (findP l b.pid).2 = true ∧ b.epoch < (findP l b.pid).1.epoch then (0, false, 100) else
      if (findP l b.pid).2 = true ∧ b.epoch = (findP l b.pid).1.epoch then
        if h : seenIdx (findP l b.pid).1 b < (findP l b.pid).1.seen.length then ((findP l b.pid).1.seen[seenIdx (findP l b.pid).1 b].base, true, 0)
        else if b.seq = (findP l b.pid).1.next then (-1, false, 0) else (0, false, 101)
      else if b.seq = 0 then (-1, false, 0) else (0, false, 101)
def encC (c : Int × Bool × Int) : Dat := .tup [.int .i64 c.1, .bool c.2.1, .int .i64 c.2.2]
theorem t17 (l : List Prod) (b : Batch) (hl : okL l) (hb : b.recs.length ≤ 1000) : run tab 17 [encPs l, .agg (encB b)] [] = some (encC (checkP l b), []) := by
  have h19 := t19 l (by have := hl.1; omega) (fun p hp => by have := (hl.2 p hp).1; omega)
  have h38 := t38 b hb
  have h20 := t20 l b.pid (by have := hl.1; omega)
  simp at h19 h38 h20
  rw [run_eq, tab_17]
  cases hm : mayPs l 0 with
  | false =>
    rw [hm] at h19
    simp [m17, x17_0, q17_0_0, x17_1, q17_1_0, q17_1_1, x17_2, q17_2_0, x17_3, q17_3_0, q17_3_1, x17_4, q17_4_0, x17_5, q17_5_0, q17_5_1, x17_6, q17_6_0, q17_6_1, x17_7, q17_7_0, x17_8, q17_8_0, x17_9, q17_9_0, x17_10, q17_10_0, x17_11, q17_11_0, q17_11_1, x17_12, q17_12_0, x17_13, q17_13_0, x17_14, q17_14_0, x17_15, q17_15_0, x17_16, q17_16_0, x17_17, q17_17_0, h19, esc_19, hm, checkP, encC]
  | true =>
    rw [hm] at h19
    cases hb2 : mayB b with
    | false =>
      rw [hb2] at h38
      simp [m17, x17_0, q17_0_0, x17_1, q17_1_0, q17_1_1, x17_2, q17_2_0, x17_3, q17_3_0, q17_3_1, x17_4, q17_4_0, x17_5, q17_5_0, q17_5_1, x17_6, q17_6_0, q17_6_1, x17_7, q17_7_0, x17_8, q17_8_0, x17_9, q17_9_0, x17_10, q17_10_0, x17_11, q17_11_0, q17_11_1, x17_12, q17_12_0, x17_13, q17_13_0, x17_14, q17_14_0, x17_15, q17_15_0, x17_16, q17_16_0, x17_17, q17_17_0, h19, esc_19, hm, h38, esc_38, hb2, checkP, encC]
    | true =>
      rw [hb2] at h38
      rcases hf : findP l b.pid with ⟨p, known⟩
      simp [hf] at h20
      cases known with
      | false =>
        obtain ⟨rfl, -⟩ := findP_none hf
        by_cases h0 : b.seq = 0
        · have h0 := eq_true h0
          simp [m17, x17_0, q17_0_0, x17_1, q17_1_0, q17_1_1, x17_2, q17_2_0, x17_3, q17_3_0, q17_3_1, x17_4, q17_4_0, x17_5, q17_5_0, q17_5_1, x17_6, q17_6_0, q17_6_1, x17_7, q17_7_0, x17_8, q17_8_0, x17_9, q17_9_0, x17_10, q17_10_0, x17_11, q17_11_0, q17_11_1, x17_12, q17_12_0, x17_13, q17_13_0, x17_14, q17_14_0, x17_15, q17_15_0, x17_16, q17_16_0, x17_17, q17_17_0, h19, esc_19, hm, h38, esc_38, hb2, h20, esc_20, checkP, encC, hf, zeroP, h0]
        · simp [m17, x17_0, q17_0_0, x17_1, q17_1_0, q17_1_1, x17_2, q17_2_0, x17_3, q17_3_0, q17_3_1, x17_4, q17_4_0, x17_5, q17_5_0, q17_5_1, x17_6, q17_6_0, q17_6_1, x17_7, q17_7_0, x17_8, q17_8_0, x17_9, q17_9_0, x17_10, q17_10_0, x17_11, q17_11_0, q17_11_1, x17_12, q17_12_0, x17_13, q17_13_0, x17_14, q17_14_0, x17_15, q17_15_0, x17_16, q17_16_0, x17_17, q17_17_0, h19, esc_19, hm, h38, esc_38, hb2, h20, esc_20, checkP, encC, hf, zeroP, h0]
      | true =>
        obtain ⟨hp, -⟩ := findP_mem hf
        have hps := (hl.2 p hp).1
        by_cases he1 : b.epoch < p.epoch
        · simp [m17, x17_0, q17_0_0, x17_1, q17_1_0, q17_1_1, x17_2, q17_2_0, x17_3, q17_3_0, q17_3_1, x17_4, q17_4_0, x17_5, q17_5_0, q17_5_1, x17_6, q17_6_0, q17_6_1, x17_7, q17_7_0, x17_8, q17_8_0, x17_9, q17_9_0, x17_10, q17_10_0, x17_11, q17_11_0, q17_11_1, x17_12, q17_12_0, x17_13, q17_13_0, x17_14, q17_14_0, x17_15, q17_15_0, x17_16, q17_16_0, x17_17, q17_17_0, h19, esc_19, hm, h38, esc_38, hb2, h20, esc_20, checkP, encC, hf, he1]
        · by_cases he2 : b.epoch = p.epoch
          · have he2 := eq_true he2
            have h39 := t39 p.seen 40 0 b (fun s : Seen => decide (s.seq = b.seq) && decide (s.count = (b.recs.length : Int))) [encP p, encB b] (by omega) (fun s σ' h hid => t40 s b 0 σ' h hid) (by simp)
            simp at h39
            by_cases hi : seenIdx p b < p.seen.length
            · have hi' := hi
              unfold seenIdx at hi'
              simp [m17, x17_0, q17_0_0, x17_1, q17_1_0, q17_1_1, x17_2, q17_2_0, x17_3, q17_3_0, q17_3_1, x17_4, q17_4_0, x17_5, q17_5_0, q17_5_1, x17_6, q17_6_0, q17_6_1, x17_7, q17_7_0, x17_8, q17_8_0, x17_9, q17_9_0, x17_10, q17_10_0, x17_11, q17_11_0, q17_11_1, x17_12, q17_12_0, x17_13, q17_13_0, x17_14, q17_14_0, x17_15, q17_15_0, x17_16, q17_16_0, x17_17, q17_17_0, h19, esc_19, hm, h38, esc_38, hb2, h20, esc_20, checkP, encC, hf, he1, he2, h39, esc_39, hi, hi', seenIdx]
            · have hi' := hi
              unfold seenIdx at hi'
              by_cases hn : b.seq = p.next
              · have hn := eq_true hn
                simp [m17, x17_0, q17_0_0, x17_1, q17_1_0, q17_1_1, x17_2, q17_2_0, x17_3, q17_3_0, q17_3_1, x17_4, q17_4_0, x17_5, q17_5_0, q17_5_1, x17_6, q17_6_0, q17_6_1, x17_7, q17_7_0, x17_8, q17_8_0, x17_9, q17_9_0, x17_10, q17_10_0, x17_11, q17_11_0, q17_11_1, x17_12, q17_12_0, x17_13, q17_13_0, x17_14, q17_14_0, x17_15, q17_15_0, x17_16, q17_16_0, x17_17, q17_17_0, h19, esc_19, hm, h38, esc_38, hb2, h20, esc_20, checkP, encC, hf, he1, he2, h39, esc_39, hi, hi', hn]
              · simp [m17, x17_0, q17_0_0, x17_1, q17_1_0, q17_1_1, x17_2, q17_2_0, x17_3, q17_3_0, q17_3_1, x17_4, q17_4_0, x17_5, q17_5_0, q17_5_1, x17_6, q17_6_0, q17_6_1, x17_7, q17_7_0, x17_8, q17_8_0, x17_9, q17_9_0, x17_10, q17_10_0, x17_11, q17_11_0, q17_11_1, x17_12, q17_12_0, x17_13, q17_13_0, x17_14, q17_14_0, x17_15, q17_15_0, x17_16, q17_16_0, x17_17, q17_17_0, h19, esc_19, hm, h38, esc_38, hb2, h20, esc_20, checkP, encC, hf, he1, he2, h39, esc_39, hi, hi', hn]
          · by_cases h0 : b.seq = 0
            · have h0 := eq_true h0
              simp [m17, x17_0, q17_0_0, x17_1, q17_1_0, q17_1_1, x17_2, q17_2_0, x17_3, q17_3_0, q17_3_1, x17_4, q17_4_0, x17_5, q17_5_0, q17_5_1, x17_6, q17_6_0, q17_6_1, x17_7, q17_7_0, x17_8, q17_8_0, x17_9, q17_9_0, x17_10, q17_10_0, x17_11, q17_11_0, q17_11_1, x17_12, q17_12_0, x17_13, q17_13_0, x17_14, q17_14_0, x17_15, q17_15_0, x17_16, q17_16_0, x17_17, q17_17_0, h19, esc_19, hm, h38, esc_38, hb2, h20, esc_20, checkP, encC, hf, he1, he2, h0]
            · simp [m17, x17_0, q17_0_0, x17_1, q17_1_0, q17_1_1, x17_2, q17_2_0, x17_3, q17_3_0, q17_3_1, x17_4, q17_4_0, x17_5, q17_5_0, q17_5_1, x17_6, q17_6_0, q17_6_1, x17_7, q17_7_0, x17_8, q17_8_0, x17_9, q17_9_0, x17_10, q17_10_0, x17_11, q17_11_0, q17_11_1, x17_12, q17_12_0, x17_13, q17_13_0, x17_14, q17_14_0, x17_15, q17_15_0, x17_16, q17_16_0, x17_17, q17_17_0, h19, esc_19, hm, h38, esc_38, hb2, h20, esc_20, checkP, encC, hf, he1, he2, h0]
end Go.Mir.A
