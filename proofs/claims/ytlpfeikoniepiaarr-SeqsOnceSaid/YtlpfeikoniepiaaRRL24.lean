import Derived.Test.YtlpfeikoniepiaaRRL22
import Derived.Test.YtlpfeikoniepiaaRRLA
set_option linter.all false
namespace Go.Mir.A
attribute [local congr] bind_head
attribute [local simp] exec stepOps stepOp wantedD evalOp.eq_1 evalOp.eq_2 evalOp.eq_3 evalOp.eq_4 evalOp.eq_5 evalOp.eq_6 evalOp.eq_7 evalOp.eq_8 evalOp.eq_9 evalOp.eq_10 evalOp.eq_11 evalOp.eq_12 evalOp.eq_13 evalOp.eq_14 evalOp.eq_15 evalOp.eq_16 evalOp.eq_18 evalOp.eq_19 evalOp.eq_20 evalOp.eq_21 evalOp.eq_22 evalOp.eq_23 evalOp.eq_24 evalOp.eq_25 evalOp.eq_26 evalOp.eq_27 evalOp.eq_28 evalOp.eq_29 evalOp.eq_31 evalOp.eq_32 evalOp_append evalOp_slice appD_nil rowsOk_nil rowsOk_cons rowsOk_app rowsOk_tk rowsOk_dp rowsOk_tl rowsOk_S rowsOk_P rowsOk_R underLL_tl underLL_app underLL_tk underLL_dp nn1 nn2 take_rest take_full MArg.ev MArg.evs Env.get Env.put Env.keep putD gc Dat.strip Dat.strip1 MArg.take binD intBin loadD ofCells bindArgs leave resD packD Dat.noTup encPs encP encB encS encR Dat.cells? Dat.safe St.get St.set Dat.underL Dat.underLL Dat.under Dat.norm callD callC under_encP under_encS under_encR gc_self fillD elemsD bound Dat.rows? cellsEq cellEq
set_option linter.unusedSimpArgs false
set_option linter.unusedVariables false
set_option maxHeartbeats 1000000
set_option maxRecDepth 4000

def e59 (a b : List Seen) (i : Nat) : Env := [(0, .slice false (a.map encS)), (1, .slice false (b.map encS)), (12, .int .i64 a.length), (13, .int .i64 i)]
theorem t59 (a b : List Seen) (hl : a.length ≤ 9223372036854775807) : run tab 59 [.slice false (a.map encS), .slice false (b.map encS)] [] = some (.bool (decide (a.length = b.length) && sameSeen a b), []) := by
  rw [run_eq, tab_59]
  by_cases h4 : a.length = b.length
  · have h4' : ((a.length : Int) = b.length) = True := eq_true (by omega)
    simp [m59, x59_0, q59_0_0, x59_1, q59_1_0, x59_2, q59_2_0, x59_3, q59_3_0, x59_4, q59_4_0, x59_5, q59_5_0, x59_6, q59_6_0, q59_6_1, x59_7, q59_7_0, x59_8, q59_8_0, x59_9, q59_9_0, h4', eq_true h4]
    simp only [Option.bind_assoc]
    refine (loop_cont (e59 a b) (fun _ => []) a.length (fun _ => True) (fun i => some (Dat.bool (sameSeen (a.drop i) (b.drop i)), [])) trivial (fun _ => ?_) fun i hi _ => ?_)
    · rw [List.drop_length, h4, List.drop_length]
      simp [l59_0, m59, x59_0, q59_0_0, x59_1, q59_1_0, x59_2, q59_2_0, x59_3, q59_3_0, x59_4, q59_4_0, x59_5, q59_5_0, x59_6, q59_6_0, q59_6_1, x59_7, q59_7_0, x59_8, q59_8_0, x59_9, q59_9_0, e59, h4, sameSeen]
    · have hw : IntKind.wrap .i64 ((i : Int) + 1) = i + 1 := wrap64 (by omega) (by omega)
      have hi2 : i < b.length := by omega
      rw [List.drop_eq_getElem_cons hi, List.drop_eq_getElem_cons hi2]
      cases hs : sameS a[i] b[i] with
      | true =>
        have hs' := hs
        simp only [sameS] at hs'
        refine .inl ⟨?_, trivial, ?_⟩
        · simp [l59_0, m59, x59_0, q59_0_0, x59_1, q59_1_0, x59_2, q59_2_0, x59_3, q59_3_0, x59_4, q59_4_0, x59_5, q59_5_0, x59_6, q59_6_0, q59_6_1, x59_7, q59_7_0, x59_8, q59_8_0, x59_9, q59_9_0, e59, hi, hi2, hw, hs']
        · simp [sameSeen, hs]
      | false =>
        have hs' := hs
        simp only [sameS] at hs'
        refine .inr ?_
        simp [l59_0, m59, x59_0, q59_0_0, x59_1, q59_1_0, x59_2, q59_2_0, x59_3, q59_3_0, x59_4, q59_4_0, x59_5, q59_5_0, x59_6, q59_6_0, q59_6_1, x59_7, q59_7_0, x59_8, q59_8_0, x59_9, q59_9_0, e59, hi, hi2, hs', hs, sameSeen]
  · have h4' : ((a.length : Int) = b.length) = False := eq_false (by omega)
    simp [m59, x59_0, q59_0_0, x59_1, q59_1_0, x59_2, q59_2_0, x59_3, q59_3_0, x59_4, q59_4_0, x59_5, q59_5_0, x59_6, q59_6_0, q59_6_1, x59_7, q59_7_0, x59_8, q59_8_0, x59_9, q59_9_0, h4', h4]

theorem t45 (a b : Prod) (hl : a.seen.length ≤ 9223372036854775807) : run tab 45 [.agg (encP a), .agg (encP b)] [] = some (.bool (sameP a b), []) := by
  have h59 := t59 a.seen b.seen hl
  rw [run_eq, tab_45]
  by_cases h1 : a.pid = b.pid
  · by_cases h2 : a.epoch = b.epoch
    · by_cases h3 : a.next = b.next
      · simp [m45, x45_0, q45_0_0, x45_1, q45_1_0, q45_1_1, q45_1_2, q45_1_3, q45_1_4, eq_true h1, eq_true h2, eq_true h3, h59, esc_59, sameP]
      · simp [m45, x45_0, q45_0_0, x45_1, q45_1_0, q45_1_1, q45_1_2, q45_1_3, q45_1_4, eq_true h1, eq_true h2, h3, sameP]
    · simp [m45, x45_0, q45_0_0, x45_1, q45_1_0, q45_1_1, q45_1_2, q45_1_3, q45_1_4, eq_true h1, h2, sameP]
  · simp [m45, x45_0, q45_0_0, x45_1, q45_1_0, q45_1_1, q45_1_2, q45_1_3, q45_1_4, h1, sameP]

def e44 (a b : List Prod) (i : Nat) : Env := [(1, encPs b), (2, .fn 45 []), (15, encPs a), (16, .int .i64 a.length), (17, .int .i64 i)]
theorem t44 (a b : List Prod) (hl : a.length ≤ 9223372036854775807) (hs : ∀ p ∈ a, p.seen.length ≤ 9223372036854775807) : run tab 44 [encPs a, encPs b, .fn 45 []] [] = some (.bool (decide (a.length = b.length) && samePs a b), []) := by
  rw [run_eq, tab_44]
  by_cases h4 : a.length = b.length
  · have h4' : ((a.length : Int) = b.length) = True := eq_true (by omega)
    simp [m44, x44_0, q44_0_0, x44_1, q44_1_0, x44_2, q44_2_0, x44_3, q44_3_0, x44_4, q44_4_0, x44_5, q44_5_0, x44_6, q44_6_0, x44_7, q44_7_0, x44_8, q44_8_0, x44_9, q44_9_0, x44_10, q44_10_0, h4', eq_true h4]
    simp only [Option.bind_assoc]
    refine (loop_cont (e44 a b) (fun _ => []) a.length (fun _ => True) (fun i => some (Dat.bool (samePs (a.drop i) (b.drop i)), [])) trivial (fun _ => ?_) fun i hi _ => ?_)
    · rw [List.drop_length, h4, List.drop_length]
      simp [l44_0, m44, x44_0, q44_0_0, x44_1, q44_1_0, x44_2, q44_2_0, x44_3, q44_3_0, x44_4, q44_4_0, x44_5, q44_5_0, x44_6, q44_6_0, x44_7, q44_7_0, x44_8, q44_8_0, x44_9, q44_9_0, x44_10, q44_10_0, e44, h4, samePs]
    · have hw : IntKind.wrap .i64 ((i : Int) + 1) = i + 1 := wrap64 (by omega) (by omega)
      have hi2 : i < b.length := by omega
      have h45 := t45 a[i] b[i] (hs _ (List.getElem_mem hi))
      simp at h45
      rw [List.drop_eq_getElem_cons hi, List.drop_eq_getElem_cons hi2]
      cases hs : sameP a[i] b[i] with
      | true =>
        rw [hs] at h45
        refine .inl ⟨?_, trivial, ?_⟩
        · simp [l44_0, m44, x44_0, q44_0_0, x44_1, q44_1_0, x44_2, q44_2_0, x44_3, q44_3_0, x44_4, q44_4_0, x44_5, q44_5_0, x44_6, q44_6_0, x44_7, q44_7_0, x44_8, q44_8_0, x44_9, q44_9_0, x44_10, q44_10_0, e44, hi, hi2, hw, h45, esc_45]
        · simp [samePs, hs]
      | false =>
        rw [hs] at h45
        refine .inr ?_
        simp [l44_0, m44, x44_0, q44_0_0, x44_1, q44_1_0, x44_2, q44_2_0, x44_3, q44_3_0, x44_4, q44_4_0, x44_5, q44_5_0, x44_6, q44_6_0, x44_7, q44_7_0, x44_8, q44_8_0, x44_9, q44_9_0, x44_10, q44_10_0, e44, hi, hi2, h45, esc_45, hs, samePs]
  · have h4' : ((a.length : Int) = b.length) = False := eq_false (by omega)
    simp [m44, x44_0, q44_0_0, x44_1, q44_1_0, x44_2, q44_2_0, x44_3, q44_3_0, x44_4, q44_4_0, x44_5, q44_5_0, x44_6, q44_6_0, x44_7, q44_7_0, x44_8, q44_8_0, x44_9, q44_9_0, x44_10, q44_10_0, h4', h4]
theorem t21 (a b : List Prod) (hl : a.length ≤ 9223372036854775807) (hs : ∀ p ∈ a, p.seen.length ≤ 9223372036854775807) : run tab 21 [encPs a, encPs b] [] = some (.bool (decide (a.length = b.length) && samePs a b), []) := by
  have h44 := t44 a b hl hs
  simp at h44
  rw [run_eq, tab_21]
  simp [m21, x21_0, q21_0_0, x21_1, q21_1_0, h44, esc_44]
end Go.Mir.A
