import Derived.Test.YtlpfeikoniepiaaRRL8
set_option linter.all false
namespace Go.Mir.A
attribute [local congr] bind_head
attribute [local simp] exec stepOps stepOp wantedD evalOp MArg.ev MArg.evs Env.get Env.put Env.keep putD gc Dat.strip Dat.strip1 MArg.take binD intBin loadD ofCells bindArgs leave resD packD Dat.noTup encPs encP encB encS encR Dat.cells? Dat.safe St.get St.set Dat.underL Dat.underLL Dat.under Dat.norm callD under_encP under_encS under_encR gc_self fillD
set_option linter.unusedSimpArgs false
set_option linter.unusedVariables false
set_option maxHeartbeats 1000000


theorem under_encP0 (p : Prod) : Dat.underL 0 (encP p) = true := by simp [encP, Dat.underL, Dat.under, under_encS]
def e14 (a b : List Prod) (i : Nat) : Env := [(0, encPs a), (1, encPs b), (5, .int .i64 i)]
theorem body14 (a b : List Prod) (hl : a.length ≤ 9223372036854775807) (hs : ∀ p ∈ a, p.seen.length ≤ 9223372036854775807) (hab : a.length = b.length) (i : Nat) : exec (run tab) tab.esc loopW 0 l14_0 (e14 a b i) [] = if h : i < a.length then (if sameP (a[i]'h) (b[i]'(hab ▸ h)) = true then some (Ex.normal, e14 a b (i + 1), []) else some (Ex.ret, [(4, Dat.bool false)], [])) else
      some (Ex.exit 0, [(0, encPs a), (1, encPs b), (5, .int .i64 i), (14, Dat.bool false)], []) := by
  by_cases h1 : i < a.length
  · have h1' : i < b.length := by omega
    have hw : IntKind.wrap .i64 ((i : Int) + 1) = i + 1 := wrap64 (by omega) (by omega)
    have hk := t22 a[i] b[i] (hs _ (List.getElem_mem h1))
    simp at hk
    cases hkn : sameP a[i] b[i] with
    | true => rw [hkn] at hk; simp [l14_0, x14_4, q14_4_0, x14_5, q14_5_0, x14_6, q14_6_0, q14_6_1, x14_7, q14_7_0, e14, h1, h1', hw, hk, hkn, esc_22, callC]
    | false => rw [hkn] at hk; simp [l14_0, x14_4, q14_4_0, x14_5, q14_5_0, x14_6, q14_6_0, q14_6_1, x14_7, q14_7_0, e14, h1, h1', hw, hk, hkn, esc_22, callC]
  · simp [l14_0, x14_4, q14_4_0, x14_5, q14_5_0, x14_6, q14_6_0, q14_6_1, x14_7, q14_7_0, e14, h1]

def samePs : List Prod → List Prod → Bool
  | [], [] => true
  | a :: x, b :: y => sameP a b && samePs x y
  | _, _ => false
theorem t14 (a b : List Prod) (hl : a.length ≤ 9223372036854775807) (hs : ∀ p ∈ a, p.seen.length ≤ 9223372036854775807) : run tab 14 [encPs a, encPs b] [] = some (.bool (decide (a.length = b.length) && samePs a b), []) := by
  rw [run_eq, tab_14]
  by_cases h4 : (a.length : Int) = b.length
  · have h4' : a.length = b.length := by omega
    obtain ⟨o, k1, k2, k3⟩ := loop_rounds (b := exec (run tab) tab.esc loopW 0 l14_0) (E := e14 a b) (σ := []) a.length
      (fun i o => (o = (Ex.ret, [(4, Dat.bool false)], []) ∧ samePs (a.drop i) (b.drop i) = false) ∨ (o = (Ex.exit 0, [(0, encPs a), (1, encPs b), (5, .int .i64 a.length), (14, Dat.bool false)], []) ∧ samePs (a.drop i) (b.drop i) = true))
      ⟨_, by rw [body14 a b hl hs h4', dif_neg (by omega)], by simp, .inr ⟨rfl, by rw [List.drop_length, h4', List.drop_length]; rfl⟩⟩ (fun i hi => by
        rw [body14 a b hl hs h4', dif_pos hi]
        have hd : a.drop i = a[i] :: a.drop (i + 1) := List.drop_eq_getElem_cons hi
        have hd' : b.drop i = b[i] :: b.drop (i + 1) := List.drop_eq_getElem_cons (by omega)
        cases hok : sameP a[i] b[i] with
        | true =>
          refine .inl ⟨by simp, fun o ho => ?_⟩
          rw [hd, hd']
          simp only [samePs, hok, Bool.true_and]
          exact ho
        | false =>
          refine .inr ?_
          simp only [Bool.false_eq_true, if_false]
          refine ⟨_, rfl, by simp, .inl ⟨rfl, ?_⟩⟩
          rw [hd, hd']
          simp only [samePs, hok, Bool.false_and])
    simp only [List.drop_zero] at k3
    rcases k3 with ⟨rfl, k3⟩ | ⟨rfl, k3⟩
    · simp [e14, h4'] at k1
      simp [m14, x14_0, q14_0_0, x14_1, q14_1_0, x14_2, q14_2_0, x14_3, q14_3_0, x14_8, q14_8_0, h4', k1, k3]
    · simp [e14, h4'] at k1
      simp [m14, x14_0, q14_0_0, x14_1, q14_1_0, x14_2, q14_2_0, x14_3, q14_3_0, x14_8, q14_8_0, h4', k1, k3]
  · have h4' : ¬ a.length = b.length := by omega
    simp [m14, x14_0, q14_0_0, x14_1, q14_1_0, x14_2, q14_2_0, x14_3, q14_3_0, x14_8, q14_8_0, h4, h4']
end Go.Mir.A
