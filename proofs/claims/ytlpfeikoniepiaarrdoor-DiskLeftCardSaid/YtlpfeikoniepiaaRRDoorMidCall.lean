/- Calls: what a call promises, and the operation. -/
import Derived.Test.YtlpfeikoniepiaaRRDoorMidOps
set_option linter.all false
namespace Go.Mir
set_option linter.unusedVariables false
set_option linter.unusedSectionVars false
set_option linter.unusedSimpArgs false

theorem Own_norm {g : Gh} {w : World} {π : Nat → Place} {d : Dat} {v : Value} : Own g w π d.norm v := by
  cases d <;> try trivial
  simp only [Dat.norm, Own]
  intro vs hv i xs u hd hu
  rw [List.getElem?_map, Option.map_eq_some_iff] at hd
  obtain ⟨c, _, hc⟩ := hd
  cases c <;> simp [Dat.strip1] at hc

/-- What a call promises. -/
def CallsOk (P : Program) (run : Run) : Prop :=
  ∀ f args σ d σ', run f args σ = some (d, σ') → ∀ (N : Nat) (g : Gh) (w : World) (vs : List Value) (s : Nat), LB N g → StOk g w σ → RepL g w args vs → Dat.underL σ.length args = true → (∀ d ∈ args, ∀ π v, Own g w π d v) →
    (∃ fn, P.funcs[f]? = some fn ∧ (fn.name == "runtime.NumGoroutine") = false ∧ fn.body.isSome = true) ∧
    Calls P f vs.toArray w (fun e w' => ∃ v g', e = .returned v ∧ SlotOk N σ'.length g' w' s d v ∧ StOk g' w' σ' ∧ Ch σ g w σ' g' w' ∧ LB N g')

/-- locks chosen anew, some of them dropped -/
def Gh.sel (g : Gh) (ψ : Place → Option Place) : Gh := { g with lock := fun b => (g.lock b).bind ψ }
theorem OwnAt.sel {g : Gh} {w : World} {π π' : Place} {xs : List (List Dat)} {v : Value} (ψ : Place → Option Place) (hπ : ψ π = some π') (h : OwnAt g w π xs v) : OwnAt (g.sel ψ) w π' xs v := by
  obtain ⟨A, c, hv, h⟩ := h
  refine ⟨A, c, hv, h.imp id ?_⟩
  rintro ⟨b, m, cs, T, hA, hx, hl, hh, hc, hp, hm⟩
  exact ⟨b, m, cs, T, hA, hx, by simp [Gh.sel, hl, hπ], hh, hc, hp, hm⟩
theorem Own.sel {g : Gh} {w : World} {π π' : Nat → Place} {d : Dat} {v : Value} (ψ : Place → Option Place) (hπ : ∀ i, ψ (π i) = some (π' i)) (h : Own g w π d v) : Own (g.sel ψ) w π' d v := by
  cases d <;> try trivial
  · simp only [Own] at h ⊢
    intro vs hv i xs u hd hu
    exact (h vs hv i xs u hd hu).sel ψ (hπ i)
  · rename_i own xs
    cases own
    · trivial
    · simp only [Own] at h ⊢
      exact h.sel ψ (hπ 0)
theorem Ext.sel {N : Nat} {g : Gh} {w : World} (ψ : Place → Option Place) : Ext N g w (g.sel ψ) w := ⟨fun _ _ _ _ h => h, fun _ => Nat.le_refl _, fun _ _ => rfl⟩

/-- the callers' variables' rows are put away -/
def putAway (N : Nat) : Place → Place
  | .var id i => .away N id i
  | π => π
/-- and fetched again -/
def fetch (N : Nat) : Place → Option Place
  | .var _ _ => none
  | .away m id i => if m = N then some (.var id i) else some (.away m id i)
  | π => some π

section
variable {P : Program} {N ntmps : Nat} {σ0 : St} {g0 : Gh} {w0 : World} {e : Env} {σ : St} {a : Act} {w : World} {g : Gh} {run : Run} {esc : Nat → Bool} {base : Nat} {dst : Option Nat} {d : Dat} {e1 : Env} {σ1 : St}

theorem Fr.call_closed (hk : CallsOk P run) (h : Fr N ntmps σ0 g0 w0 e σ a w g) (h0 : LB (N - 1) g0) (hN : 0 < N) {f : Nat} {args : List Dat} {vs : List Value} (hr : RepL g w args vs) (hu : Dat.underL 0 args = true) (hno : ∀ d ∈ args, ∀ (g : Gh) (w : World) π v, Own g w π d v)
    {σ' : St} (he : run f args [] = some (d, σ')) (hσ : σ' = []) (hd : d.under 0 = true) (dst : Option Nat) :
    (∃ fn, P.funcs[f]? = some fn ∧ (fn.name == "runtime.NumGoroutine") = false ∧ fn.body.isSome = true) ∧
    Calls P f vs.toArray w (fun e' w' => ∃ v g', e' = .returned v ∧ Left N σ0 g0 w0 dst d v e σ a.tmps w' g') := by
  subst hσ
  have hltb : ∀ b π, g.lock b = some π → b < w.heap.size := fun b π hb => by
    rcases Nat.lt_or_ge b w.heap.size with h' | h'
    · exact h'
    · rw [(h.st.fresh b h').2] at hb; cases hb
  have hlb1 : LB N (g.map (putAway N)) := h.lb.map _ fun π hπ => by cases π <;> simp only [putAway] <;> first | exact hπ | exact Nat.le_refl _
  have hst1 : StOk (g.map (putAway N)) w [] := by
    refine ⟨fun id c hc => by simp [St.get_nil, St.get_cons] at hc, fun id c hc => by simp [St.get_nil, St.get_cons] at hc, fun i j hi => by simp at hi, fun id hid => by simp at hid, fun b hb => ?_⟩
    exact ⟨(h.st.fresh b hb).1, by simp [Gh.map, (h.st.fresh b hb).2]⟩
  obtain ⟨hfn, hcall⟩ := hk f args [] d [] he N (g.map (putAway N)) w vs (dst.getD 0) hlb1 hst1 (RepL_ext (N := 0) (Ext.map _) args vs hu hr) (by simpa using hu) (fun d hd π v => hno d hd _ _ π v)
  refine ⟨hfn, Calls.mono hcall fun e' w' ⟨v, g', he', hslot, hst', hch, hlb'⟩ => ⟨v, { g'.sel (fetch N) with ρ := g.ρ }, he', ?_⟩⟩
  -- what is foreign to the call
  have hsame : ∀ b, b < w.heap.size → (∀ id i, (g.map (putAway N)).lock b ≠ some (.var id i)) → Same (g.map (putAway N)) w g' w' b := fun b hb hv => hch.keep b ⟨hb, fun id hid => by simp at hid, hv⟩
  have hnov : ∀ b id i, (g.map (putAway N)).lock b ≠ some (.var id i) := by
    intro b id i hb
    simp only [Gh.map, Option.map_eq_some_iff] at hb
    obtain ⟨π, _, hπ⟩ := hb
    cases π <;> simp [putAway] at hπ
  have hfetch : ∀ π : Place, (∀ m id i, π = .away m id i → m ≠ N) → fetch N (putAway N π) = some π := by
    intro π hπ
    cases π with
    | slot m s i => rfl
    | var id i => simp [putAway, fetch]
    | away m id i => simp [putAway, fetch, hπ m id i rfl]
  have hext : Ext σ.length g w { g'.sel (fetch N) with ρ := g.ρ } w' := ⟨fun b o u ho hc => hch.ext.cell b o u ho hc, fun b => hch.ext.prot b, fun _ _ => rfl⟩
  -- a block with a row that is the caller's
  have hkeep : ∀ b π, g.lock b = some π → (∀ m id i, π = .away m id i → m ≠ N) → Same g w { g'.sel (fetch N) with ρ := g.ρ } w' b := by
    intro b π hb hπ
    obtain ⟨k1, k2, k3⟩ := hsame b (hltb b π hb) (hnov b)
    refine ⟨k1, k2, ?_⟩
    show (g'.lock b).bind (fetch N) = g.lock b
    rw [k3, hb]
    simp only [Gh.map, hb, Option.map_some, Option.bind_some]
    exact hfetch π hπ
  have hfree : ∀ b, b < w.heap.size → g.lock b = none → Same g w { g'.sel (fetch N) with ρ := g.ρ } w' b := by
    intro b hb hl
    obtain ⟨k1, k2, k3⟩ := hsame b hb (hnov b)
    refine ⟨k1, k2, ?_⟩
    show (g'.lock b).bind (fetch N) = g.lock b
    rw [k3]
    simp [Gh.map, hl]
  have hown : ∀ (π : Nat → Place) (d : Dat) (v : Value), (∀ i m id j, π i ≠ .away m id j) → Own g w π d v → Own { g'.sel (fetch N) with ρ := g.ρ } w' π d v :=
    fun π d v hπ ho => ho.same fun b i hb => hkeep b _ hb fun m id j e => absurd e (hπ i m id j)
  have hlow : ∀ b, w'.heap.size ≤ b → ({ g'.sel (fetch N) with ρ := g.ρ } : Gh).prot b = 0 ∧ ({ g'.sel (fetch N) with ρ := g.ρ } : Gh).lock b = none := by
    intro b hb
    obtain ⟨k1, k2⟩ := hst'.fresh b hb
    exact ⟨k1, by show (g'.lock b).bind (fetch N) = none; rw [k2]; rfl⟩
  refine ⟨fun s c hc _ => ?_, fun s hs => ?_, ?_, ?_, ?_⟩
  · obtain ⟨u, hu1, hr1, ho1, hu2⟩ := h.env s c hc
    exact ⟨u, hu1, Rep_ext hext _ _ hu2 hr1, hown _ _ _ (fun i m id j e => by cases e) ho1, hu2⟩
  · subst hs
    obtain ⟨h1, h2, h3⟩ := hslot
    have hx0 : Ext 0 g' w' { g'.sel (fetch N) with ρ := g.ρ } w' := ⟨fun b o u ho hc => hc, fun b => Nat.le_refl _, fun id hid => by omega⟩
    refine ⟨Rep_ext hx0 _ _ hd h1, ?_, under_mono (Nat.zero_le _) _ hd⟩
    have := h2.sel (fetch N) (π' := fun i => .slot N s i) (fun i => rfl)
    exact this.same fun b i hb => ⟨rfl, rfl, rfl⟩
  · refine ⟨fun id c hc => ?_, h.st.under, h.st.inj, fun id hid => ?_, hlow⟩
    · obtain ⟨us, T, hh, hl, ho⟩ := h.st.var id c hc
      have hid := St.get_lt hc
      obtain ⟨k1, k2, k3⟩ := hfree _ (h.st.lt hid) (h.st.free id hid).2
      refine ⟨us, T, by rw [← hh]; exact k1, RepL_ext hext _ _ (h.st.under id c hc) hl, fun i di vi hdi hvi => ?_⟩
      obtain ⟨m1, m2⟩ := ho i di vi hdi hvi
      exact ⟨m1, hown _ _ _ (fun i m id j e => by cases e) m2⟩
    · obtain ⟨k1, k2, k3⟩ := hfree _ (h.st.lt hid) (h.st.free id hid).2
      exact ⟨k2.trans (h.st.free id hid).1, k3.trans (h.st.free id hid).2⟩
  · refine ⟨hch.os.trans h.ch.os, hch.tape.trans h.ch.tape, hch.output.trans h.ch.output, Nat.le_trans h.ch.size hch.size, h.ch.ext.trans (hext.mono h.ch.len), h.ch.len, fun b hb => ?_, fun id h1 h2 => h.ch.new id h1 h2, h.ch.low⟩
    obtain ⟨k1, k2, k3⟩ := h.ch.keep b hb
    have hbf := h.ch.foreign hb
    have : Same g w { g'.sel (fetch N) with ρ := g.ρ } w' b := by
      cases hl : g.lock b with
      | none => exact hfree b hbf.1 hl
      | some π =>
        refine hkeep b π hl fun m id i e => ?_
        subst e
        rw [hl] at k3
        have := h0 b _ k3.symm
        simp only [Place.low] at this
        omega
    obtain ⟨j1, j2, j3⟩ := this
    exact ⟨j1.trans k1, j2.trans k2, j3.trans k3⟩
  · intro b π hb
    obtain ⟨π', hπ', hf⟩ := Option.bind_eq_some_iff.1 (show (g'.lock b).bind (fetch N) = some π from hb)
    have := hlb' b π' hπ'
    cases π' with
    | slot m s i => simp only [fetch, Option.some.injEq] at hf; subst hf; exact this
    | var id i => simp [fetch] at hf
    | away m id i =>
      simp only [fetch] at hf
      split at hf
      · injection hf with hf; subst hf; trivial
      · injection hf with hf; subst hf; exact this

theorem Fr.call_open (hk : CallsOk P run) (h : Fr N ntmps σ0 g0 w0 e σ a w g) {f : Nat} {args : List Dat} {vs : List Value} (hr : RepL g w args vs) (hu : Dat.underL σ.length args = true) (hno : ∀ d ∈ args, ∀ (g : Gh) (w : World) π v, Own g w π d v)
    {σ' : St} (he : run f args σ = some (d, σ')) (dst : Option Nat) :
    (∃ fn, P.funcs[f]? = some fn ∧ (fn.name == "runtime.NumGoroutine") = false ∧ fn.body.isSome = true) ∧
    Calls P f vs.toArray w (fun e' w' => ∃ v g', e' = .returned v ∧ Left N σ0 g0 w0 dst d v e σ' a.tmps w' g') := by
  have hltb : ∀ b π, g.lock b = some π → b < w.heap.size := fun b π hb => by
    rcases Nat.lt_or_ge b w.heap.size with h' | h'
    · exact h'
    · rw [(h.st.fresh b h').2] at hb; cases hb
  obtain ⟨hfn, hcall⟩ := hk f args σ d σ' he N g w vs (dst.getD 0) h.lb h.st hr hu (fun d hd π v => hno d hd _ _ π v)
  refine ⟨hfn, Calls.mono hcall fun e' w' ⟨v, g', he', hslot, hst', hch, hlb'⟩ => ⟨v, g', he', ?_⟩⟩
  refine ⟨fun s c hc _ => ?_, fun s hs => ?_, hst', h.ch.trans hch, hlb'⟩
  · obtain ⟨u, hu1, hr1, ho1, hu2⟩ := h.env s c hc
    refine ⟨u, hu1, Rep_ext hch.ext _ _ hu2 hr1, ho1.same fun b i hb => hch.keep b ⟨hltb b _ hb, fun id hid e => ?_, fun id j e => ?_⟩, under_mono hch.len _ hu2⟩
    · rw [← e, (h.st.free id hid).2] at hb; cases hb
    · rw [hb] at e; cases e
  · subst hs
    exact hslot

theorem op_call (hk : CallsOk P run) (h : Fr N ntmps σ0 g0 w0 e σ a w g) (h0 : LB (N - 1) g0) (hN : 0 < N) {o : Oper} {f : Operand} {args : Array Operand} {ts : Array TypeId} (ho : o.op = .call { callee := .value f, args := args, argTypes := ts }) {mf : MArg} {ms : List MArg}
    (hf : argOf f = some mf) (hargs : argsOf args = some ms) (he : evalOp run esc base e σ (.call mf ms) = some (d, e1, σ1)) {K : Act → World → Prop} {Q : Exit → Act → World → Prop}
    (hK : ∀ v w' g', Left N σ0 g0 w0 o.dst d v e1 σ1 a.tmps w' g' → K (a.put o.dst v) w') : o.wp P a w K Q := by
  simp only [evalOp, Option.bind_eq_some_iff] at he
  obtain ⟨df, hdf, he⟩ := he
  have haf := h.arg hf hdf
  cases df <;> simp only [reduceCtorEq, Option.bind_eq_some_iff] at he
  rename_i fi caps
  obtain ⟨l, hl, ⟨d', σ'⟩, hcall, he⟩ := he
  simp only [Option.some.injEq, Prod.mk.injEq] at he
  obtain ⟨rfl, rfl, rfl⟩ := he
  have hrf := haf.rep
  simp only [Rep] at hrf
  obtain ⟨cvs, hv, hcl⟩ := hrf
  obtain ⟨hrl, hul⟩ := h.args hargs hl
  have hargs' : RepL g w ((l ++ caps).map Dat.norm) (args.toList.map a.eval ++ cvs) := RepL_map (fun _ _ => Rep_norm) (RepL_append hrl hcl)
  have hno : ∀ d ∈ (l ++ caps).map Dat.norm, ∀ (g : Gh) (w : World) π v, Own g w π d v := by
    intro d hd g w π v
    obtain ⟨d', _, rfl⟩ := List.mem_map.1 hd
    exact Own_norm
  have huargs : Dat.underL σ.length ((l ++ caps).map Dat.norm) = true := by
    rw [underL_map under_norm]
    refine underL_mk fun d hd => ?_
    rcases List.mem_append.1 hd with hd | hd
    · exact underL_mem hul d hd
    · exact underL_mem (by simpa [Dat.under] using haf.under) d hd
  have key : (∃ fn, P.funcs[fi]? = some fn ∧ (fn.name == "runtime.NumGoroutine") = false ∧ fn.body.isSome = true) ∧
      Calls P fi (args.toList.map a.eval ++ cvs).toArray w (fun e' w' => ∃ v g', e' = .returned v ∧ Left N σ0 g0 w0 o.dst d' v e σ' a.tmps w' g') := by
    unfold callD at hcall
    split at hcall
    · rename_i hc
      simp only [Bool.and_eq_true] at hc
      simp only [Option.bind_eq_some_iff] at hcall
      obtain ⟨⟨d2, σ2⟩, hrun, hcall⟩ := hcall
      split at hcall
      · rename_i hc2
        simp only [Bool.and_eq_true, List.isEmpty_iff] at hc2
        simp only [Option.some.injEq, Prod.mk.injEq] at hcall
        obtain ⟨rfl, rfl⟩ := hcall
        exact h.call_closed hk h0 hN hargs' hc.1 hno hrun hc2.1 hc2.2 o.dst
      · cases hcall
    · exact h.call_open hk hargs' huargs hno hcall o.dst
  obtain ⟨⟨fn, hfn, hname, hbody⟩, hC⟩ := key
  have hrun : (execOp a.eval o).run P w = .ok (.enter fi (args.toList.map a.eval ++ cvs).toArray) w := by
    have hargsE : (#[] ++ args.map a.eval ++ cvs.toArray : Array Value) = (args.toList.map a.eval ++ cvs).toArray := by
      apply Array.ext'
      simp
    obtain ⟨c, hc⟩ := Option.isSome_iff_exists.1 hbody
    simp only [execOp, ho, resolve, hv, Deferred.ofValue, Sem.run_bind, Sem.run_pure, Result.andThen_ok, invoke, callFunc, run_program, hfn, hname, hc, Bool.false_eq_true, if_false, Option.isNone_some]
    rw [hargsE]
  unfold Oper.wp
  rw [hrun, Oper.upon_enter]
  refine Calls.mono hC fun e' w' ⟨v, g', he', hl⟩ => ?_
  subst he'
  exact hK v w' g' hl
end
end Go.Mir
