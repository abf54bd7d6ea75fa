import Derived.Test.YtlpfeikoniepiaaRRL6
set_option linter.all false
namespace Go.Mir.A
attribute [local congr] bind_head
attribute [local simp] exec stepOps stepOp wantedD evalOp MArg.ev MArg.evs Env.get Env.put Env.keep putD gc Dat.strip Dat.strip1 MArg.take binD intBin loadD ofCells bindArgs leave resD packD Dat.noTup encPs encP encB encS encR Dat.cells? Dat.safe St.get St.set Dat.underL Dat.underLL Dat.under Dat.norm callD under_encP under_encS under_encR gc_self fillD
set_option linter.unusedSimpArgs false
set_option linter.unusedVariables false
set_option maxHeartbeats 1000000


def mayPs : List Prod → Int → Bool
  | [], _ => true
  | p :: r, last => decide (last < p.pid) && knownP p && mayPs r p.pid
def lastAt (l : List Prod) : Nat → Int
  | 0 => 0
  | i + 1 => match l[i]? with
    | some p => p.pid
    | none => 0
def e19 (l : List Prod) (i : Nat) : Env := [(3, .int .i64 (lastAt l i)), (6, encPs l), (7, .int .i64 l.length), (8, .int .i64 i)]
theorem body19 (l : List Prod) (hl : l.length ≤ 9223372036854775807) (hs : ∀ p ∈ l, p.seen.length ≤ 9223372036854775807) (i : Nat) : exec (run tab) tab.esc loopW 0 l19_0 (e19 l i) [] = if h : i < l.length then (if (decide (lastAt l i < (l[i]'h).pid) && knownP (l[i]'h)) = true then some (Ex.normal, e19 l (i + 1), []) else some (Ex.ret, [(2, Dat.bool false)], [])) else
      some (Ex.exit 0, [(3, .int .i64 (lastAt l i)), (6, encPs l), (7, .int .i64 l.length), (8, .int .i64 i), (9, Dat.bool false)], []) := by
  by_cases h1 : i < l.length
  · have hw : IntKind.wrap .i64 ((i : Int) + 1) = i + 1 := wrap64 (by omega) (by omega)
    have hle : lastAt l (i + 1) = (l[i]).pid := by simp [lastAt, h1]
    have hk := t41 l[i] (hs _ (List.getElem_mem h1))
    simp at hk
    by_cases h2 : (l[i]).pid ≤ lastAt l i
    · have h2' : ¬ lastAt l i < (l[i]).pid := by omega
      simp [l19_0, x19_3, q19_3_0, x19_4, q19_4_0, x19_5, q19_5_0, q19_5_1, x19_6, q19_6_0, x19_7, q19_7_0, x19_8, q19_8_0, e19, h1, h2, hw, h2']
    · have h2' : lastAt l i < (l[i]).pid := by omega
      cases hkn : knownP l[i] with
      | true => rw [hkn] at hk; simp [l19_0, x19_3, q19_3_0, x19_4, q19_4_0, x19_5, q19_5_0, q19_5_1, x19_6, q19_6_0, x19_7, q19_7_0, x19_8, q19_8_0, e19, h1, h2, hw, h2', hk, hkn, esc_41, hle]
      | false => rw [hkn] at hk; simp [l19_0, x19_3, q19_3_0, x19_4, q19_4_0, x19_5, q19_5_0, q19_5_1, x19_6, q19_6_0, x19_7, q19_7_0, x19_8, q19_8_0, e19, h1, h2, hw, h2', hk, hkn, esc_41]
  · simp [l19_0, x19_3, q19_3_0, x19_4, q19_4_0, x19_5, q19_5_0, q19_5_1, x19_6, q19_6_0, x19_7, q19_7_0, x19_8, q19_8_0, e19, h1]
theorem t19 (l : List Prod) (hl : l.length ≤ 9223372036854775807) (hs : ∀ p ∈ l, p.seen.length ≤ 9223372036854775807) : run tab 19 [encPs l] [] = some (.bool (mayPs l 0), []) := by
  obtain ⟨o, k1, k2, k3⟩ := loop_rounds (b := exec (run tab) tab.esc loopW 0 l19_0) (E := e19 l) (σ := []) l.length
    (fun i o => (o = (Ex.ret, [(2, Dat.bool false)], []) ∧ mayPs (l.drop i) (lastAt l i) = false) ∨ (o = (Ex.exit 0, [(3, .int .i64 (lastAt l l.length)), (6, encPs l), (7, .int .i64 l.length), (8, .int .i64 l.length), (9, Dat.bool false)], []) ∧ mayPs (l.drop i) (lastAt l i) = true))
    ⟨_, by rw [body19 l hl hs, dif_neg (by omega)], by simp, .inr ⟨rfl, by simp [mayPs]⟩⟩ (fun i hi => by
      rw [body19 l hl hs, dif_pos hi]
      have hd : l.drop i = l[i] :: l.drop (i + 1) := List.drop_eq_getElem_cons hi
      have hle : lastAt l (i + 1) = (l[i]).pid := by simp [lastAt, hi]
      cases hok : (decide (lastAt l i < (l[i]).pid) && knownP l[i]) with
      | true =>
        refine .inl ⟨by simp, fun o ho => ?_⟩
        rw [hd]
        simp only [mayPs, hok, Bool.true_and]
        rw [← hle]
        exact ho
      | false =>
        refine .inr ?_
        simp only [Bool.false_eq_true, if_false]
        refine ⟨_, rfl, by simp, .inl ⟨rfl, ?_⟩⟩
        rw [hd]
        simp only [mayPs, hok, Bool.false_and])
  simp [e19, lastAt] at k1
  rw [run_eq, tab_19]
  rcases k3 with ⟨rfl, k3⟩ | ⟨rfl, k3⟩
  · simp [lastAt] at k3
    simp [m19, x19_0, q19_0_0, x19_1, q19_1_0, x19_2, q19_2_0, x19_9, q19_9_0, k1, k3]
  · simp [lastAt] at k3
    simp [lastAt] at k1
    simp [m19, x19_0, q19_0_0, x19_1, q19_1_0, x19_2, q19_2_0, x19_9, q19_9_0, k1, k3]
end Go.Mir.A
