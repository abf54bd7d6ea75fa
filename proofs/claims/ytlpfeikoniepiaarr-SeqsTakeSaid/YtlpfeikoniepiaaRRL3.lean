import Derived.Test.YtlpfeikoniepiaaRRL2
set_option linter.all false
namespace Go.Mir.A
attribute [local congr] bind_head
attribute [local simp] exec stepOps stepOp wantedD evalOp MArg.ev MArg.evs Env.get Env.put Env.keep putD gc Dat.strip Dat.strip1 MArg.take binD intBin loadD ofCells bindArgs leave resD packD Dat.noTup encPs encP encB encS encR Dat.cells? Dat.safe St.get St.set Dat.underL Dat.underLL Dat.under Dat.norm callD under_encP under_encS under_encR gc_self
set_option linter.unusedSimpArgs false
set_option linter.unusedVariables false
set_option maxHeartbeats 400000

section
variable (l : List Prod) (F id : Nat) (pid : Int) (q : Prod → Bool) (σ : St)
def e42 (i : Nat) : Env := [(0, encPs l), (1, .fn F [.ptr id 0]), (7, encPs l), (8, .int .i64 l.length), (9, .int .i64 i)]
theorem body42 (hl : l.length ≤ 9223372036854775807) (hq : ∀ (p : Prod) (σ' : St), St.get σ' id = some [.int .i64 pid] → id < σ'.length → run tab F [.agg (encP p), .ptr id 0] σ' = some (.bool (q p), σ')) (hσ : St.get σ id = some [.int .i64 pid]) (i : Nat) :
    exec (run tab) tab.esc loopW σ.length l42_0 (e42 l F id i) σ = if h : i < l.length then (if q (l[i]'h) then some (Ex.ret, [(4, Dat.int .i64 i)], σ) else some (Ex.normal, e42 l F id (i + 1), σ)) else
      some (Ex.exit 0, [(0, encPs l), (1, .fn F [.ptr id 0]), (7, encPs l), (8, .int .i64 l.length), (9, .int .i64 i), (10, Dat.bool false)], σ) := by
  have hid := St.get_lt hσ
  by_cases h1 : i < l.length
  · have hc := hq l[i] (encP l[i] :: σ) (by rw [St.get_cons_old hid]; exact hσ) (by simp; omega)
    simp at hc
    have hw : IntKind.wrap .i64 ((i : Int) + 1) = i + 1 := wrap64 (by omega) (by omega)
    cases hqi : q l[i] <;>
    simp [l42_0, x42_2, q42_2_0, x42_3, q42_3_0, x42_4, q42_4_0, x42_5, q42_5_0, x42_6, q42_6_0, e42, h1, hc, hqi, gc_self, hid, hw]
  · simp [l42_0, x42_2, q42_2_0, x42_3, q42_3_0, x42_4, q42_4_0, x42_5, q42_5_0, x42_6, q42_6_0, e42, h1, gc_self, hid]

theorem t42 (hl : l.length ≤ 9223372036854775807) (hq : ∀ (p : Prod) (σ' : St), St.get σ' id = some [.int .i64 pid] → id < σ'.length → run tab F [.agg (encP p), .ptr id 0] σ' = some (.bool (q p), σ')) (hσ : St.get σ id = some [.int .i64 pid]) :
    run tab 42 [encPs l, .fn F [.ptr id 0]] σ = some (.int .i64 (l.findIdx q : Nat), σ) := by
  have hid := St.get_lt hσ
  obtain ⟨o, h1, h2, h3⟩ := loop_rounds (b := exec (run tab) tab.esc loopW σ.length l42_0) (E := e42 l F id) (σ := σ) l.length
    (fun i o => (i + (l.drop i).findIdx q < l.length ∧ o = (Ex.ret, [(4, Dat.int .i64 (i + (l.drop i).findIdx q : Nat))], σ)) ∨ (i + (l.drop i).findIdx q = l.length ∧ o = (Ex.exit 0, [(0, encPs l), (1, .fn F [.ptr id 0]), (7, encPs l), (8, .int .i64 l.length), (9, .int .i64 l.length), (10, Dat.bool false)], σ)))
    ⟨_, by rw [body42 l F id pid q σ hl hq hσ, dif_neg (by omega)], by simp, .inr ⟨by simp, rfl⟩⟩ (fun i hi => by
      rw [body42 l F id pid q σ hl hq hσ, dif_pos hi]
      have hd : l.drop i = l[i] :: l.drop (i + 1) := List.drop_eq_getElem_cons hi
      cases hqi : q l[i] with
      | true =>
        refine .inr ⟨_, if_pos rfl, by simp, .inl ?_⟩
        rw [hd, List.findIdx_cons, hqi]
        simp [hi]
      | false =>
        refine .inl ⟨by simp, fun o ho => ?_⟩
        rw [hd, List.findIdx_cons, hqi]
        simp only [cond_false]
        rw [show i + ((l.drop (i + 1)).findIdx q + 1) = i + 1 + (l.drop (i + 1)).findIdx q by omega]
        exact ho)
  simp only [List.drop_zero, Nat.zero_add] at h3
  simp [e42] at h1
  rw [run_eq, tab_42]
  rcases h3 with ⟨h3, rfl⟩ | ⟨h3, rfl⟩
  · simp [m42, x42_0, q42_0_0, x42_1, q42_1_0, x42_7, q42_7_0, h1, gc_self, hid]
  · simp [m42, x42_0, q42_0_0, x42_1, q42_1_0, x42_7, q42_7_0, h1, gc_self, hid, h3]
end
end Go.Mir.A
