import Derived.Test.YtlpfeikoniepiaaRRL7
set_option linter.all false
namespace Go.Mir.A
attribute [local congr] bind_head
attribute [local simp] exec stepOps stepOp wantedD evalOp MArg.ev MArg.evs Env.get Env.put Env.keep putD gc Dat.strip Dat.strip1 MArg.take binD intBin loadD ofCells bindArgs leave resD packD Dat.noTup encPs encP encB encS encR Dat.cells? Dat.safe St.get St.set Dat.underL Dat.underLL Dat.under Dat.norm callD under_encP under_encS under_encR gc_self fillD cellsEq cellEq
set_option linter.unusedSimpArgs false
set_option linter.unusedVariables false
set_option maxHeartbeats 1000000


def sameS (a b : Seen) : Bool := decide (a.seq = b.seq) && (decide (a.count = b.count) && decide (a.base = b.base))
def e22 (i : Nat) : Env := [(2, .ptr 0 0), (3, .ptr 1 0), (5, .int .i64 i)]
theorem body22 (a b : Prod) (hl : a.seen.length ≤ 9223372036854775807) (hab : a.seen.length = b.seen.length) (i : Nat) : exec (run tab) tab.esc loopW 0 l22_0 (e22 i) [encP b, encP a] = if h : i < a.seen.length then (if sameS (a.seen[i]'h) (b.seen[i]'(hab ▸ h)) = true then some (Ex.normal, e22 (i + 1), [encP b, encP a]) else some (Ex.ret, [(4, Dat.bool false)], [])) else
      some (Ex.exit 0, [(2, .ptr 0 0), (3, .ptr 1 0), (5, .int .i64 i), (38, Dat.bool false)], [encP b, encP a]) := by
  by_cases h1 : i < a.seen.length
  · have h1' : i < b.seen.length := by omega
    have hw : IntKind.wrap .i64 ((i : Int) + 1) = i + 1 := wrap64 (by omega) (by omega)
    cases hs : sameS a.seen[i] b.seen[i] with
    | true =>
      simp only [sameS] at hs
      simp [l22_0, x22_4, q22_4_0, x22_5, q22_5_0, x22_6, q22_6_0, q22_6_1, x22_7, q22_7_0, e22, h1, h1', hw, hs, sameS]
    | false =>
      simp only [sameS] at hs
      simp [l22_0, x22_4, q22_4_0, x22_5, q22_5_0, x22_6, q22_6_0, q22_6_1, x22_7, q22_7_0, e22, h1, h1', hw, hs, sameS]
  · simp [l22_0, x22_4, q22_4_0, x22_5, q22_5_0, x22_6, q22_6_0, q22_6_1, x22_7, q22_7_0, e22, h1]

def sameSeen : List Seen → List Seen → Bool
  | [], [] => true
  | a :: x, b :: y => sameS a b && sameSeen x y
  | _, _ => false
def sameP (a b : Prod) : Bool := decide (a.pid = b.pid) && (decide (a.epoch = b.epoch) && (decide (a.next = b.next) && (decide (a.seen.length = b.seen.length) && sameSeen a.seen b.seen)))
theorem t22 (a b : Prod) (hl : a.seen.length ≤ 9223372036854775807) : run tab 22 [.agg (encP a), .agg (encP b)] [] = some (.bool (sameP a b), []) := by
  rw [run_eq, tab_22]
  by_cases h1 : a.pid = b.pid
  · by_cases h2 : a.epoch = b.epoch
    · by_cases h3 : a.next = b.next
      · by_cases h4 : (a.seen.length : Int) = b.seen.length
        · have h4' : a.seen.length = b.seen.length := by omega
          obtain ⟨o, k1, k2, k3⟩ := loop_rounds (b := exec (run tab) tab.esc loopW 0 l22_0) (E := e22) (σ := [encP b, encP a]) a.seen.length
            (fun i o => (o = (Ex.ret, [(4, Dat.bool false)], []) ∧ sameSeen (a.seen.drop i) (b.seen.drop i) = false) ∨ (o = (Ex.exit 0, [(2, .ptr 0 0), (3, .ptr 1 0), (5, .int .i64 a.seen.length), (38, Dat.bool false)], [encP b, encP a]) ∧ sameSeen (a.seen.drop i) (b.seen.drop i) = true))
            ⟨_, by rw [body22 a b hl h4', dif_neg (by omega)], by simp, .inr ⟨rfl, by rw [List.drop_length, h4', List.drop_length]; rfl⟩⟩ (fun i hi => by
              rw [body22 a b hl h4', dif_pos hi]
              have hd : a.seen.drop i = a.seen[i] :: a.seen.drop (i + 1) := List.drop_eq_getElem_cons hi
              have hd' : b.seen.drop i = b.seen[i] :: b.seen.drop (i + 1) := List.drop_eq_getElem_cons (by omega)
              cases hok : sameS a.seen[i] b.seen[i] with
              | true =>
                refine .inl ⟨by simp, fun o ho => ?_⟩
                rw [hd, hd']
                simp only [sameSeen, hok, Bool.true_and]
                exact ho
              | false =>
                refine .inr ?_
                simp only [Bool.false_eq_true, if_false]
                refine ⟨_, rfl, by simp, .inl ⟨rfl, ?_⟩⟩
                rw [hd, hd']
                simp only [sameSeen, hok, Bool.false_and])
          simp only [List.drop_zero] at k3
          simp [e22, h1, h2, h3, h4'] at k1
          rcases k3 with ⟨rfl, k3⟩ | ⟨rfl, k3⟩
          · simp [m22, x22_0, q22_0_0, x22_1, q22_1_0, q22_1_1, q22_1_2, q22_1_3, q22_1_4, x22_2, q22_2_0, x22_3, q22_3_0, x22_8, q22_8_0, h1, h2, h3, h4', sameP, k1, k3]
          · simp [h1, h2, h3, h4'] at k1
            simp [m22, x22_0, q22_0_0, x22_1, q22_1_0, q22_1_1, q22_1_2, q22_1_3, q22_1_4, x22_2, q22_2_0, x22_3, q22_3_0, x22_8, q22_8_0, h1, h2, h3, h4', sameP, k1, k3]
        · have h4' : ¬ a.seen.length = b.seen.length := by omega
          simp [m22, x22_0, q22_0_0, x22_1, q22_1_0, q22_1_1, q22_1_2, q22_1_3, q22_1_4, x22_2, q22_2_0, x22_3, q22_3_0, x22_8, q22_8_0, h1, h2, h3, h4, h4', sameP]
      · simp [m22, x22_0, q22_0_0, x22_1, q22_1_0, q22_1_1, q22_1_2, q22_1_3, q22_1_4, x22_2, q22_2_0, x22_3, q22_3_0, x22_8, q22_8_0, h1, h2, h3, sameP]
    · simp [m22, x22_0, q22_0_0, x22_1, q22_1_0, q22_1_1, q22_1_2, q22_1_3, q22_1_4, x22_2, q22_2_0, x22_3, q22_3_0, x22_8, q22_8_0, h1, h2, sameP]
  · simp [m22, x22_0, q22_0_0, x22_1, q22_1_0, q22_1_1, q22_1_2, q22_1_3, q22_1_4, x22_2, q22_2_0, x22_3, q22_3_0, x22_8, q22_8_0, h1, sameP]
end Go.Mir.A
