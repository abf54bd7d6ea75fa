/- Walks by hand, beside the mirror: a row of statements that the mirror takes, operations one by one. -/
import Derived.Test.YtlpfeikoniepiaaRRMirRun
import Derived.Test.YtlpfeikoniepiaaRRMirBridge
import Derived.Test.YtlpfeikoniepiaaRRMirSim
set_option linter.all false
namespace Go.Mir
set_option linter.unusedVariables false
set_option linter.unusedSectionVars false
set_option linter.unusedSimpArgs false

def execs (run : Run) (esc : Nat → Bool) (l : (Env → St → Out) → Env → St → Out) (base : Nat) : List MCode → Env → St → Out
  | [], e, σ => some (.normal, e, σ)
  | m :: r, e, σ => (exec run esc l base m e σ).bind (seqK (execs run esc l base r))
theorem execs_nil {run : Run} {esc : Nat → Bool} {l : (Env → St → Out) → Env → St → Out} {base : Nat} {e : Env} {σ : St} : execs run esc l base [] e σ = some (.normal, e, σ) := rfl
theorem execs_cons {run : Run} {esc : Nat → Bool} {l : (Env → St → Out) → Env → St → Out} {base : Nat} {e : Env} {σ : St} (m : MCode) (r : List MCode) : execs run esc l base (m :: r) e σ = (exec run esc l base m e σ).bind (seqK (execs run esc l base r)) := rfl

section
variable {P : Program} {N ntmps : Nat} {σ0 : St} {g0 : Gh} {w0 : World} {e : Env} {σ : St} {a : Act} {w : World} {g : Gh} {run : Run} {esc : Nat → Bool} {base : Nat} {dst : Option Nat} {d : Dat} {e1 : Env} {σ1 : St}

def CodesOk (P : Program) (ntmps : Nat) (cs : List Code) (ms : List MCode) : Prop := cs.length = ms.length ∧ ∀ (i : Nat) (c : Code) (m : MCode), cs[i]? = some c → ms[i]? = some m → ∃ m0, codeOf P ntmps c = some m0 ∧ m.bare = m0.bare ∧ drawsOk c m = true
theorem seqs_ok (hk : CallsOk P run) (h0 : LB (N - 1) g0) (hN : 0 < N) (hu0 : ∀ id c, St.get σ0 id = some c → Dat.underL σ0.length c = true) {fuel : Nat} {rest : Code} {Q : Exit → Act → World → Prop} {x : Ex} :
    ∀ {cs : List Code} {ms : List MCode} {e : Env} {σ : St} {a : Act} {w : World} {g : Gh}, CodesOk P ntmps cs ms → Fr N ntmps σ0 g0 w0 e σ a w g →
      execs run esc (fun b => loopN b fuel) σ0.length ms e σ = some (x, e1, σ1) → (x = .normal → ∀ a' w' g', Fr N ntmps σ0 g0 w0 e1 σ1 a' w' g' → rest.wp P Q a' w') →
      (x ≠ .normal → ∀ a' w' g', Fr N ntmps σ0 g0 w0 e1 σ1 a' w' g' → Q x.on a' w') → (cs.foldr Code.seq rest).wp P Q a w
  | [], [], e, σ, a, w, g, hc, h, he, h1, h2 => by
    simp only [execs, Option.some.injEq, Prod.mk.injEq] at he
    obtain ⟨rfl, rfl, rfl⟩ := he
    exact h1 rfl a w g h
  | [], m :: ms, e, σ, a, w, g, hc, h, he, h1, h2 => by have := hc.1; simp at this
  | c :: cs, [], e, σ, a, w, g, hc, h, he, h1, h2 => by have := hc.1; simp at this
  | c :: cs, m :: ms, e, σ, a, w, g, hc, h, he, h1, h2 => by
    simp only [execs, Option.bind_eq_some_iff] at he
    obtain ⟨⟨y, e2, σ2⟩, hy, he⟩ := he
    obtain ⟨m0, k1, k2, k3⟩ := hc.2 0 c m rfl rfl
    rw [List.foldr_cons]
    refine wp_seq (exec_ok hk h0 hN hu0 c k1 k2 k3 h hy fun a' w' g' h' => ?_)
    have hc' : CodesOk P ntmps cs ms := ⟨by have := hc.1; simpa using this, fun i c m hi hm => hc.2 (i + 1) c m (by simpa using hi) (by simpa using hm)⟩
    cases y with
    | normal => exact seqs_ok hk h0 hN hu0 hc' h' he h1 h2
    | exit i =>
      simp only [seqK, Option.some.injEq, Prod.mk.injEq] at he
      obtain ⟨rfl, rfl, rfl⟩ := he
      exact h2 (by simp) a' w' g' h'
    | ret =>
      simp only [seqK, Option.some.injEq, Prod.mk.injEq] at he
      obtain ⟨rfl, rfl, rfl⟩ := he
      exact h2 (by simp) a' w' g' h'

/-- the end of a body -/
theorem end_ok {fn : Func} {fd : MFunc} (hres : fn.results.toList.mapM (resOf P) = some fd.res) (h : Fr (N + 1) ntmps σ0 g0 w0 e σ a w g) (h0 : LB N g0) (hu0 : ∀ id c, St.get σ0 id = some c → Dat.underL σ0.length c = true) (s : Nat) {x : Ex} {d : Dat} {σ' : St} (hl : leave fd σ0.length (x, e, σ) = some (d, σ')) :
    bodyPost P fn (fun e w' => ∃ v g', e = .returned v ∧ SlotOk N σ'.length g' w' s d v ∧ StOk g' w' σ' ∧ Ch σ0 g0 w0 σ' g' w' ∧ LB N g') x.on a w := by
  obtain ⟨hx, v, g2, hrs, hslot, hst2, hch2, hlb2⟩ := leave_ok (N := N) hres h h0 hu0 s hl
  cases x with
  | exit i => exact absurd rfl (hx i)
  | normal => exact ⟨h.defers, v, hrs, v, g2, rfl, hslot, hst2, hch2, hlb2⟩
  | ret => exact ⟨h.defers, v, hrs, v, g2, rfl, hslot, hst2, hch2, hlb2⟩

theorem ops_step {ops : Array Oper} {Q : Exit → Act → World → Prop} {k : Nat} {ks : List Nat} {o : Oper} (ho : ops[k]? = some o) (hg : o.guard = none) (h : o.wp P a w (wpOps P ops Q ks) Q) : wpOps P ops Q (k :: ks) a w := by
  simp only [wpOps, ho]
  rw [if_pos (by simp [Region.wanted, hg])]
  exact .inl h
theorem step_v {o : Oper} {v : Value} {w' : World} {K : Act → World → Prop} {Q : Exit → Act → World → Prop} (h : (execOp a.eval o).run P w = .ok (.value v) w') (hK : K (a.put o.dst v) w') : o.wp P a w K Q := by
  unfold Oper.wp
  rw [h, Oper.upon_value]
  exact hK
theorem step_s {o : Oper} {w' : World} {K : Act → World → Prop} {Q : Exit → Act → World → Prop} (h : (execOp a.eval o).run P w = .ok .skip w') (hK : K (a.put o.dst undef) w') : o.wp P a w K Q := by
  unfold Oper.wp
  rw [h, Oper.upon_skip]
  exact hK
/-- an operation's fields, told at once -/
def opIs (ops : Array Oper) (k : Nat) (dst : Option Nat) (op : Op) : Prop := ∃ o : Oper, ops[k]? = some o ∧ o.dst = dst ∧ o.op = op ∧ o.guard = none
theorem opIs_of {ops : Array Oper} {k : Nat} {dst : Option Nat} {op : Op} (h : (ops[k]?).map (fun o => (o.dst, o.op, o.guard)) = some (dst, op, none)) : opIs ops k dst op := by
  obtain ⟨o, ho, h⟩ := Option.map_eq_some_iff.1 h
  obtain ⟨h1, h2⟩ := _root_.Prod.mk.inj h
  obtain ⟨h2, h3⟩ := _root_.Prod.mk.inj h2
  exact ⟨o, ho, h1, h2, h3⟩
theorem opIs.v {ops : Array Oper} {Q : Exit → Act → World → Prop} {k : Nat} {ks : List Nat} {dst : Option Nat} {op : Op} (ho : opIs ops k dst op) {v : Value} {w' : World} (h : ∀ o : Oper, o.op = op → (execOp a.eval o).run P w = .ok (.value v) w') (hK : wpOps P ops Q ks (a.put dst v) w') : wpOps P ops Q (k :: ks) a w := by
  obtain ⟨o, h1, h2, h3, h4⟩ := ho
  exact ops_step h1 h4 (step_v (h o h3) (h2 ▸ hK))
theorem opIs.s {ops : Array Oper} {Q : Exit → Act → World → Prop} {k : Nat} {ks : List Nat} {dst : Option Nat} {op : Op} (ho : opIs ops k dst op) {w' : World} (h : ∀ o : Oper, o.op = op → (execOp a.eval o).run P w = .ok .skip w') (hK : wpOps P ops Q ks (a.put dst undef) w') : wpOps P ops Q (k :: ks) a w := by
  obtain ⟨o, h1, h2, h3, h4⟩ := ho
  exact ops_step h1 h4 (step_s (h o h3) (h2 ▸ hK))
/-- other slots written -/
theorem Fr.act (h : Fr N ntmps σ0 g0 w0 e σ a w g) {a' : Act} (ht : ∀ s d, Env.get e s = some d → a'.tmps[s]? = a.tmps[s]?) (hd : a'.defers = []) (hs : ntmps ≤ a'.tmps.size) : Fr N ntmps σ0 g0 w0 e σ a' w g :=
  ⟨fun s d hsd => by rw [ht s d hsd]; exact h.env s d hsd, h.st, h.ch, h.lb, hd, hs⟩
theorem put_get {s t : Nat} {v : Value} (h : t ≠ s) : (a.put (some s) v).tmps[t]? = a.tmps[t]? := by
  simp [Act.put, Array.getElem?_setIfInBounds_ne (Ne.symm h)]
theorem put_size {s : Nat} {v : Value} : (a.put (some s) v).tmps.size = a.tmps.size := by simp [Act.put]
theorem put_none {v : Value} : a.put none v = a := rfl
theorem put_defers {s : Nat} {v : Value} : (a.put (some s) v).defers = a.defers := rfl
theorem eval_put {s t : Nat} {v : Value} (hs : s < a.tmps.size) : (a.put (some s) v).eval (.tmp t) = if t = s then v else a.eval (.tmp t) := by
  simp only [Act.eval, Array.getD_eq_getD_getElem?]
  by_cases h : t = s
  · subst h
    rw [if_pos rfl]
    simp [Act.put, hs]
  · rw [if_neg h, put_get h]
theorem eval_of {s : Nat} {v : Value} (h : a.tmps[s]? = some v) : a.eval (.tmp s) = v := by
  simp [Act.eval, Array.getD_eq_getD_getElem?, h]

/-- The machine's answer, out of the promise. -/
theorem law_calls_of {f : Nat} {vs : List Value} {b : Bool}
    (hc : Calls P f vs.toArray w fun e w' => ∃ v g', e = .returned v ∧ SlotOk 0 ([] : St).length g' w' 0 (.bool b) v ∧ StOk g' w' [] ∧ Ch [] (Gh.init w) w [] g' w' ∧ LB 0 g') : Calls P f vs.toArray w fun e w' => e = .returned (.bool b) ∧ RowKit.Below w.heap.size w w' := by
  refine Calls.mono hc fun e w' ⟨v, g', he, hs, _, hch, _⟩ => ?_
  have hr := hs.1
  simp only [Rep] at hr
  rw [he, hr]
  refine ⟨rfl, hch.os, hch.tape, hch.output, hch.size, fun k hk => (hch.keep k ⟨hk, fun id hid => by simp at hid, fun id i h => by simp [Gh.init] at h⟩).1⟩
end
end Go.Mir
