/- Regions whose order is open: one operation of them. -/
import Derived.Test.YtlpfeikoniepiaaRRMirDraw
import Derived.Test.YtlpfeikoniepiaaRRMirSound0
set_option linter.all false
namespace Go.Mir
set_option linter.unusedVariables false
set_option linter.unusedSectionVars false
set_option linter.unusedSimpArgs false

section
variable {P : Program} {N ntmps : Nat} {σ0 : St} {g0 : Gh} {w0 : World} {e : Env} {σ : St} {a : Act} {w : World} {g : Gh} {run : Run} {esc : Nat → Bool} {base : Nat} {dst : Option Nat} {d : Dat} {e1 : Env} {σ1 : St}

theorem op_extractn (h : Fr N ntmps σ0 g0 w0 e σ a w g) {x : Operand} {mx : MArg} (hx : argOf x = some mx) {i : Nat} (he : evalOp run esc base e σ (.extractn i mx) = some (d, e1, σ1)) :
    ∃ v, (Instr.extract (a.eval x) i).run P w = .ok v w ∧ Left N σ0 g0 w0 dst d v e1 σ1 a.tmps w g := by
  simp only [evalOp, Option.bind_eq_some_iff] at he
  obtain ⟨dx, hdx, he⟩ := he
  have ha := h.arg hx hdx
  cases dx <;> simp only [reduceCtorEq, Option.bind_eq_some_iff, Option.some.injEq, Prod.mk.injEq] at he
  rename_i cs
  obtain ⟨c, hc, rfl, rfl, rfl⟩ := he
  have hr := ha.rep
  simp only [Rep] at hr
  obtain ⟨vs, hvs, hl, hnt⟩ := hr
  obtain ⟨u, hu, hur⟩ := RepL_get hl hc
  have hcn : ∀ cs, c ≠ .tup cs := by
    rintro cs rfl
    have := List.all_eq_true.1 hnt _ (List.mem_of_getElem? hc)
    simp [Dat.noTup] at this
  refine ⟨u, ?_, h.left (Rep_strip1 hur) (fun _ _ => Own_strip1 hcn) (by rw [under_strip1]; exact underL_get (by simpa [Dat.under] using ha.under) hc)⟩
  rw [hvs]
  simp [Instr.extract, hu]

/-- An operation of an open region, the machine's and the mirror's. -/
theorem opd_ok (hk : CallsOk P run) (h : Fr N ntmps σ0 g0 w0 e σ a w g) (h0 : LB (N - 1) g0) (hN : 0 < N) (hbase : base = σ0.length) {o : Oper} {op : MOp} {cmp : Bool} (hop : opOfD P cmp o = some op)
    (he : evalOp run esc base e σ op = some (d, e1, σ1)) {K : Act → World → Prop} {Q : Exit → Act → World → Prop} (hK : ∀ v w' g', Left N σ0 g0 w0 o.dst d v e1 σ1 a.tmps w' g' → K (a.put o.dst v) w') : o.wp P a w K Q := by
  unfold opOfD at hop
  split at hop
  · rename_i f args ts ho
    simp only [Option.bind_eq_some_iff, Option.map_eq_some_iff] at hop
    obtain ⟨mf, hf, l, hl, rfl⟩ := hop
    refine op_call hk h h0 hN ho hf hl (e1 := e1) (σ1 := σ1) (d := d) (esc := esc) (base := base) ?_ hK
    simp only [evalOp, Option.bind_eq_some_iff] at he
    obtain ⟨p, hp, he⟩ := he
    cases p <;> simp only [reduceCtorEq, Option.bind_eq_some_iff] at he
    obtain ⟨q, hq, r, hr, he⟩ := he
    simp only [Option.some.injEq, Prod.mk.injEq] at he
    obtain ⟨rfl, rfl, rfl⟩ := he
    simp only [evalOp, hp, hq, Option.bind_some]
    unfold callC at hr
    split at hr
    · rename_i hc
      simp only [Option.bind_eq_some_iff] at hr
      obtain ⟨⟨d2, σ2⟩, hrun, hr⟩ := hr
      split at hr
      · rename_i hc2
        injection hr with hr
        subst hr
        simp only [callD, if_pos hc, hrun, Option.bind_some, if_pos hc2]
      · cases hr
    · cases hr
  · rename_i x i ho
    simp only [Option.map_eq_some_iff] at hop
    obtain ⟨mx, hx, rfl⟩ := hop
    obtain ⟨v, hr, hl⟩ := op_extractn (P := P) (dst := o.dst) h hx he
    have hrun : (execOp a.eval o).run P w = .ok (.value v) w := by
      simp only [execOp, ho, Sem.run_bind, hr, Result.andThen_ok, Sem.run_pure]
    unfold Oper.wp
    rw [hrun, Oper.upon_value]
    exact hK v w g hl
  · rename_i t x ho
    simp only [Option.bind_eq_some_iff] at hop
    obtain ⟨ag, ha, n, hn, s, hs, mx, hx, hop⟩ := hop
    split at hop
    · rename_i hone
      injection hop with hop
      have he' : evalOp run esc base e σ (.load false ag n mx) = some (d, e1, σ1) := by
        cases cmp with
        | true => exact (by simpa using hop : MOp.load false ag n mx = op) ▸ he
        | false =>
          have hop' : MOp.loadr ag n mx = op := by simpa using hop
          subst hop'
          simp only [evalOp, Option.bind_eq_some_iff] at he
          obtain ⟨p, hp, he⟩ := he
          cases p <;> simp only [reduceCtorEq] at he
          split at he
          · rename_i hc
            simp only [Option.bind_eq_some_iff, Option.some.injEq, Prod.mk.injEq] at he
            obtain ⟨r, hr, rfl, rfl, rfl⟩ := he
            simp only [evalOp, hp, Option.bind_some, loadD, if_pos hc, hr, Bool.false_eq_true, if_false]
          · cases he
      obtain ⟨v, g', hr, hl⟩ := op_load (s := s) h h0 hN hx ha hn (fun e => by simpa [oneOk, e] using hone) (fun e => by cases e) he'
      have hrun : (execOp a.eval o).run P w = .ok (.value v) w := by
        simp only [execOp, ho, Sem.run_bind, hr, Result.andThen_ok, Sem.run_pure]
      unfold Oper.wp
      rw [hrun, Oper.upon_value]
      exact hK v w g' (hs ▸ hl)
    · cases hop
  · exact op_ok hk h h0 hN hbase hop he hK

/-! ### from one state to the next -/
/-- the caller's own rows, told apart -/
def hide (N : Nat) : Place → Place
  | .slot m s i => if N ≤ m then .var 0 0 else .slot m s i
  | .away m s i => if N ≤ m then .var 0 0 else .away m s i
  | .var id i => .var id i
theorem Fr.here (h : Fr N ntmps σ0 g0 w0 e σ a w g) : Fr N ntmps σ (g.map (hide N)) w e σ a w g := by
  refine ⟨h.env, h.st, ⟨rfl, rfl, rfl, Nat.le_refl _, ⟨fun _ _ _ _ h => h, fun _ => Nat.le_refl _, fun _ _ => rfl⟩, Nat.le_refl _, fun b hb => ⟨rfl, rfl, ?_⟩, fun _ h1 h2 => by omega, fun _ _ hh => hh⟩, h.lb, h.defers, h.tsize⟩
  have h3 := hb.2.2
  show g.lock b = (g.lock b).map (hide N)
  cases hl : g.lock b with
  | none => rfl
  | some π =>
    have h3 : ∀ id i, hide N π ≠ .var id i := fun id i e => h3 id i (by simp [Gh.map, hl, e])
    cases π with
    | var id i => rfl
    | slot m s i =>
      simp only [hide] at h3 ⊢
      split at h3
      · exact absurd rfl (h3 0 0)
      · rename_i hc; rw [Option.map_some, hide, if_neg hc]
    | away m s i =>
      simp only [hide] at h3 ⊢
      split at h3
      · exact absurd rfl (h3 0 0)
      · rename_i hc; rw [Option.map_some, hide, if_neg hc]
theorem LB.hide (hN : 0 < N) : LB (N - 1) (g.map (Go.Mir.hide N)) := by
  intro b π hb
  simp only [Gh.map, Option.map_eq_some_iff] at hb
  obtain ⟨π', _, rfl⟩ := hb
  cases π' with
  | var id i => trivial
  | slot m s i =>
    simp only [Go.Mir.hide]
    split
    · trivial
    · simp only [Place.low]; omega
  | away m s i =>
    simp only [Go.Mir.hide]
    split
    · trivial
    · simp only [Place.low]; omega

theorem Left.from_here {tmps : Array Value} {w' : World} {g' : Gh} {v : Value} (hN : 0 < N) (h0 : LB (N - 1) g0) (h : Fr N ntmps σ0 g0 w0 e σ a w g) (hl : Left N σ (g.map (hide N)) w dst d v e1 σ1 tmps w' g') :
    Left N σ0 g0 w0 dst d v e1 σ1 tmps w' g' ∧ (∀ b, b < w.heap.size → g.lock b = none → (∀ id, id < σ.length → g.ρ id ≠ b) → Same g w g' w' b) ∧ Ext σ.length g w g' w' ∧ w.heap.size ≤ w'.heap.size ∧ ∀ id, σ.length ≤ id → id < σ1.length → w.heap.size ≤ g'.ρ id := by
  have hc := hl.ch
  refine ⟨⟨hl.env, hl.val, hl.st, ⟨hc.os.trans h.ch.os, hc.tape.trans h.ch.tape, hc.output.trans h.ch.output, Nat.le_trans h.ch.size hc.size, h.ch.ext.trans (Ext.mono ⟨hc.ext.cell, hc.ext.prot, hc.ext.rho⟩ h.ch.len), Nat.le_trans h.ch.len hc.len, fun b hb => ?_, fun id h1 h2 => ?_, fun n hn hh => hc.low n (Nat.le_trans hn h.ch.len) (h.ch.low n hn hh)⟩, hl.lb⟩, fun b hb hlk hρ => ?_, ⟨hc.ext.cell, hc.ext.prot, hc.ext.rho⟩, hc.size, hc.new⟩
  · obtain ⟨k1, k2, k3⟩ := h.ch.keep b hb
    have hbf := h.ch.foreign hb
    have hhide : (g.lock b).map (hide N) = g.lock b := by
      rw [k3]
      cases hl0 : g0.lock b with
      | none => rfl
      | some π =>
        have hlow := h0 b π hl0
        cases π with
        | var id i => rfl
        | slot m s i => simp only [Place.low] at hlow; rw [Option.map_some, hide, if_neg (by omega)]
        | away m s i => simp only [Place.low] at hlow; rw [Option.map_some, hide, if_neg (by omega)]
    obtain ⟨j1, j2, j3⟩ := hc.keep b ⟨hbf.1, hbf.2.1, fun id i e => hbf.2.2 id i (hhide ▸ e)⟩
    exact ⟨j1.trans k1, j2.trans k2, j3.trans (hhide.trans k3)⟩
  · rcases Nat.lt_or_ge id σ.length with hlt | hge
    · rw [hc.ext.rho id hlt]; exact h.ch.new id h1 hlt
    · exact Nat.le_trans h.ch.size (hc.new id hge h2)
  · obtain ⟨j1, j2, j3⟩ := hc.keep b ⟨hb, hρ, fun id i e => by simp [Gh.map, hlk] at e⟩
    exact ⟨j1, j2, by rw [j3]; simp [Gh.map, hlk]⟩
end
end Go.Mir
