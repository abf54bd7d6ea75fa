import Derived.Test.YtlpfeikoniepiaaRRMirTabA
import Derived.Test.YtlpfeikoniepiaaRRMirSim
set_option linter.all false
namespace Go.Mir.A
attribute [local congr] bind_head
attribute [local simp] exec stepOps stepOp wantedD evalOp MArg.ev MArg.evs Env.get Env.put Env.keep putD gc Dat.strip Dat.strip1 MArg.take binD intBin loadD ofCells bindArgs leave resD packD Dat.noTup encPs encP encB encS encR
set_option linter.unusedSimpArgs false
set_option maxHeartbeats 400000

def e9 (l : List Prod) (i : Nat) : Env := [(0, encPs l), (3, .int .i64 i)]
theorem body9 (l : List Prod) (i : Nat) (hl : l.length ≤ 9223372036854775807) : exec (run tab) tab.esc loopW 0 l9_0 (e9 l i) [] =
    if h : i < l.length ∧ i ≤ 40 then (if 40 < (l[i]'h.1).seen.length then some (Ex.ret, [(2, Dat.bool true)], []) else some (Ex.normal, e9 l (i + 1), [])) else some (Ex.exit 0, [(0, encPs l), (3, Dat.int .i64 i), (11, Dat.bool false)], []) := by
  by_cases h1 : i < l.length
  · by_cases h2 : (i : Int) ≤ 40
    · have h2' : i ≤ 40 := by omega
      by_cases h3 : (40 : Int) < (l[i]).seen.length
      · have h3' : 40 < (l[i]).seen.length := by omega
        simp [l9_0, x9_2, q9_2_0, q9_2_1, x9_3, q9_3_0, x9_4, q9_4_0, q9_4_1, x9_5, q9_5_0, e9, h1, h2, h2', h3, h3']
      · have h3' : ¬ 40 < (l[i]).seen.length := by omega
        have hw : IntKind.wrap .i64 ((i : Int) + 1) = i + 1 := wrap64 (by omega) (by omega)
        simp [l9_0, x9_2, q9_2_0, q9_2_1, x9_3, q9_3_0, x9_4, q9_4_0, q9_4_1, x9_5, q9_5_0, e9, h1, h2, h2', h3, h3', hw]
    · have h2' : ¬ i ≤ 40 := by omega
      simp [l9_0, x9_2, q9_2_0, q9_2_1, x9_3, q9_3_0, x9_4, q9_4_0, q9_4_1, x9_5, q9_5_0, e9, h1, h2, h2']
  · simp [l9_0, x9_2, q9_2_0, q9_2_1, x9_3, q9_3_0, x9_4, q9_4_0, q9_4_1, x9_5, q9_5_0, e9, h1]

theorem loop9 (l : List Prod) (hl : l.length ≤ 9223372036854775807) : ∃ o, loopW (exec (run tab) tab.esc loopW 0 l9_0) (e9 l 0) [] = some o ∧ o.1 ≠ .normal ∧
    (o = (Ex.ret, [(2, Dat.bool true)], []) ∨ ((∃ j : Nat, o = (Ex.exit 0, [(0, encPs l), (3, Dat.int .i64 j), (11, Dat.bool false)], [])) ∧ (l.length ≤ 40 → ∀ k (hk : k < l.length), 0 ≤ k → (l[k]).seen.length ≤ 40))) := by
  refine loop_rounds l.length (fun i o => o = (Ex.ret, [(2, Dat.bool true)], []) ∨ ((∃ j : Nat, o = (Ex.exit 0, [(0, encPs l), (3, Dat.int .i64 j), (11, Dat.bool false)], [])) ∧ (l.length ≤ 40 → ∀ k (hk : k < l.length), i ≤ k → (l[k]).seen.length ≤ 40))) ?_ fun i hi => ?_
  · exact ⟨_, by rw [body9 l _ hl, dif_neg (by omega)], by simp, .inr ⟨⟨_, rfl⟩, fun _ k hk hik => by omega⟩⟩
  · rw [body9 l i hl]
    by_cases h40 : i ≤ 40
    · rw [dif_pos ⟨hi, h40⟩]
      by_cases hs : 40 < (l[i]).seen.length
      · rw [if_pos hs]
        exact .inr ⟨_, rfl, by simp, .inl rfl⟩
      · rw [if_neg hs]
        refine .inl ⟨rfl, fun o ho => ?_⟩
        rcases ho with ho | ⟨ho, hk⟩
        · exact .inl ho
        · refine .inr ⟨ho, fun hl40 k hk2 hik => ?_⟩
          by_cases hki : k = i
          · subst hki; omega
          · exact hk hl40 k hk2 (by omega)
    · rw [dif_neg (by omega)]
      exact .inr ⟨_, rfl, by simp, .inr ⟨⟨_, rfl⟩, fun hl40 => by omega⟩⟩

theorem t9 (l : List Prod) (hl : l.length ≤ 9223372036854775807) : ∃ r, run tab 9 [encPs l] [] = some (.bool r, []) ∧ (r = false → l.length ≤ 40 ∧ ∀ k (hk : k < l.length), (l[k]).seen.length ≤ 40) := by
  obtain ⟨o, h1, h2, h3⟩ := loop9 l hl
  rw [run_eq, tab_9]
  simp [e9] at h1
  rcases h3 with rfl | ⟨⟨j, rfl⟩, hk⟩
  · exact ⟨true, by simp [m9, x9_0, q9_0_0, x9_1, q9_1_0, x9_6, q9_6_0, h1], by simp⟩
  · refine ⟨decide (40 < (l.length : Int)), by simp [m9, x9_0, q9_0_0, x9_1, q9_1_0, x9_6, q9_6_0, h1], fun h => ?_⟩
    have : l.length ≤ 40 := by simp at h; omega
    exact ⟨this, fun k hk2 => hk this k hk2 (Nat.zero_le _)⟩
end Go.Mir.A
