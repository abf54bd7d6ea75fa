import Derived.Test.YtlpfeikoniepiaaRRL3
set_option linter.all false
namespace Go.Mir.A
attribute [local congr] bind_head
attribute [local simp] exec stepOps stepOp wantedD evalOp MArg.ev MArg.evs Env.get Env.put Env.keep putD gc Dat.strip Dat.strip1 MArg.take binD intBin loadD ofCells bindArgs leave resD packD Dat.noTup encPs encP encB encS encR Dat.cells? Dat.safe St.get St.set Dat.underL Dat.underLL Dat.under Dat.norm callD under_encS under_encS under_encR gc_self
set_option linter.unusedSimpArgs false
set_option linter.unusedVariables false
set_option maxHeartbeats 400000

section
variable (l : List Seen) (F id : Nat) (bt : Batch) (q : Seen → Bool) (σ : St)
def e39 (i : Nat) : Env := [(0, .slice false (l.map encS)), (1, .fn F [.ptr id 0]), (7, .slice false (l.map encS)), (8, .int .i64 l.length), (9, .int .i64 i)]
theorem body39 (hl : l.length ≤ 9223372036854775807) (hq : ∀ (p : Seen) (σ' : St), St.get σ' id = some (encB bt) → id < σ'.length → run tab F [.agg (encS p), .ptr id 0] σ' = some (.bool (q p), σ')) (hσ : St.get σ id = some (encB bt)) (i : Nat) :
    exec (run tab) tab.esc loopW σ.length l39_0 (e39 l F id i) σ = if h : i < l.length then (if q (l[i]'h) then some (Ex.ret, [(4, Dat.int .i64 i)], σ) else some (Ex.normal, e39 l F id (i + 1), σ)) else
      some (Ex.exit 0, [(0, .slice false (l.map encS)), (1, .fn F [.ptr id 0]), (7, .slice false (l.map encS)), (8, .int .i64 l.length), (9, .int .i64 i), (10, Dat.bool false)], σ) := by
  have hid := St.get_lt hσ
  by_cases h1 : i < l.length
  · have hc := hq l[i] (encS l[i] :: σ) (by rw [St.get_cons_old hid]; exact hσ) (by simp; omega)
    simp at hc
    have hw : IntKind.wrap .i64 ((i : Int) + 1) = i + 1 := wrap64 (by omega) (by omega)
    cases hqi : q l[i] <;>
    simp [l39_0, x39_2, q39_2_0, x39_3, q39_3_0, x39_4, q39_4_0, x39_5, q39_5_0, x39_6, q39_6_0, e39, h1, hc, hqi, gc_self, hid, hw]
  · simp [l39_0, x39_2, q39_2_0, x39_3, q39_3_0, x39_4, q39_4_0, x39_5, q39_5_0, x39_6, q39_6_0, e39, h1, gc_self, hid]

theorem t39 (hl : l.length ≤ 9223372036854775807) (hq : ∀ (p : Seen) (σ' : St), St.get σ' id = some (encB bt) → id < σ'.length → run tab F [.agg (encS p), .ptr id 0] σ' = some (.bool (q p), σ')) (hσ : St.get σ id = some (encB bt)) :
    run tab 39 [.slice false (l.map encS), .fn F [.ptr id 0]] σ = some (.int .i64 (l.findIdx q : Nat), σ) := by
  have hid := St.get_lt hσ
  obtain ⟨o, h1, h2, h3⟩ := loop_rounds (b := exec (run tab) tab.esc loopW σ.length l39_0) (E := e39 l F id) (σ := σ) l.length
    (fun i o => (i + (l.drop i).findIdx q < l.length ∧ o = (Ex.ret, [(4, Dat.int .i64 (i + (l.drop i).findIdx q : Nat))], σ)) ∨ (i + (l.drop i).findIdx q = l.length ∧ o = (Ex.exit 0, [(0, .slice false (l.map encS)), (1, .fn F [.ptr id 0]), (7, .slice false (l.map encS)), (8, .int .i64 l.length), (9, .int .i64 l.length), (10, Dat.bool false)], σ)))
    ⟨_, by rw [body39 l F id bt q σ hl hq hσ, dif_neg (by omega)], by simp, .inr ⟨by simp, rfl⟩⟩ (fun i hi => by
      rw [body39 l F id bt q σ hl hq hσ, dif_pos hi]
      have hd : l.drop i = l[i] :: l.drop (i + 1) := List.drop_eq_getElem_cons hi
      cases hqi : q l[i] with
      | true =>
        refine .inr ⟨_, if_pos rfl, by simp, .inl ?_⟩
        rw [hd, List.findIdx_cons, hqi]
        simp [hi]
      | false =>
        refine .inl ⟨by simp, fun o ho => ?_⟩
        rw [hd, List.findIdx_cons, hqi]
        simp only [cond_false]
        rw [show i + ((l.drop (i + 1)).findIdx q + 1) = i + 1 + (l.drop (i + 1)).findIdx q by omega]
        exact ho)
  simp only [List.drop_zero, Nat.zero_add] at h3
  simp [e39] at h1
  rw [run_eq, tab_39]
  rcases h3 with ⟨h3, rfl⟩ | ⟨h3, rfl⟩
  · simp [m39, x39_0, q39_0_0, x39_1, q39_1_0, x39_7, q39_7_0, h1, gc_self, hid]
  · simp [m39, x39_0, q39_0_0, x39_1, q39_1_0, x39_7, q39_7_0, h1, gc_self, hid, h3]
end
end Go.Mir.A
