/- Regions whose order is open: each operation as it comes; the region. -/
import Derived.Test.YtlpfeikoniepiaaRRMirDraw4
set_option linter.all false
namespace Go.Mir
set_option linter.unusedVariables false
set_option linter.unusedSectionVars false
set_option linter.unusedSimpArgs false

theorem get_app : ∀ {cs : St} {σ : St} {id : Nat}, id < σ.length → St.get (cs ++ σ) id = St.get σ id
  | [], σ, id, _ => rfl
  | c :: cs, σ, id, h => by
    rw [List.cons_append, St.get_cons_old (by simp; omega)]
    exact get_app h
theorem evalOp_load {run : Run} {esc : Nat → Bool} {base base' : Nat} {e e1 : Env} {cs σ σ1 : St} {d : Dat} {g : Bool} {n : Nat} {x : MArg} (hu : ∀ p, x.ev e = some p → p.under σ.length = true) (h : evalOp run esc base e (cs ++ σ) (.load false g n x) = some (d, e1, σ1)) :
    evalOp run esc base' e σ (.load false g n x) = some (d, e1, σ) := by
  simp only [evalOp, Option.bind_eq_some_iff, Bool.false_eq_true, if_false, Option.some.injEq, Prod.mk.injEq] at h
  obtain ⟨p, hp, c, hc, rfl, rfl, rfl⟩ := h
  have := hu p hp
  have hl : loadD g n σ p = some c := by
    cases p <;> simp only [loadD, reduceCtorEq] at hc ⊢
    · rename_i id off
      simp only [Dat.under, decide_eq_true_eq] at this
      rw [get_app this] at hc
      exact hc
    · exact hc
  simp only [evalOp, hp, Option.bind_some, hl, Bool.false_eq_true, if_false]

def Env.del : Env → Nat → Env
  | [], _ => []
  | (m, c) :: r, n => if m = n then Env.del r n else (m, c) :: Env.del r n
theorem Env.get_del : ∀ (e : Env) (n s : Nat), Env.get (Env.del e n) s = if s = n then none else Env.get e s
  | [], n, s => by simp [Env.del, Env.get_nil, Env.get_cons]
  | (m, c) :: r, n, s => by
    by_cases h : m = n
    · subst h
      simp only [Env.del, if_true, Env.get_del r m s, Env.get_nil, Env.get_cons]
      by_cases h2 : s = m
      · simp [h2]
      · simp [h2, Ne.symm h2]
    · simp only [Env.del, h, if_false, Env.get_nil, Env.get_cons, Env.get_del r n s]
      by_cases h2 : s = n
      · subst h2; simp [h]
      · simp [h2]

section
variable {P : Program} {N ntmps : Nat} {σ0 : St} {g0 : Gh} {w0 : World} {run : Run} {esc : Nat → Bool} {ops : Array Oper} {ms : List MOper} {keep : List Nat} {E : Nat → Env} {Z : Nat → St}

def OpsOk (P : Program) (ntmps : Nat) (ops : Array Oper) (ms : List MOper) : Prop :=
  ∀ (k : Nat) (o : Oper), ops[k]? = some o → ∃ (op : MOp) (mg : Option (Nat × Bool)) (cmp : Bool), opOfD P cmp o = some op ∧ guardOf ops o = some mg ∧ dstOk ntmps o = true ∧ ms[k]? = some ({ dst := o.dst, op := op, guard := mg } : MOper)

section
variable (hk : CallsOk P run) (h0 : LB (N - 1) g0) (hN : 0 < N) (chk : Chk ops ms keep) (hst : ∀ (k : Nat) (m : MOper), ms[k]? = some m → stepOp run esc σ0.length m (E k) (Z k) = some (E (k + 1), Z (k + 1))) (hops : OpsOk P ntmps ops ms)
include hk h0 hN chk hst hops

/-- no variable is written between: only new ones -/
theorem Z_app {c : Nat} : ∀ {i : Nat}, c ≤ i → i ≤ ms.length → (∀ (k : Nat) (m : MOper), c ≤ k → k < i → ms[k]? = some m → isW m.op = false) → ∃ cs, Z i = cs ++ Z c := by
  intro i
  induction i with
  | zero => intro h _ _; exact ⟨[], by rw [show c = 0 by omega]; rfl⟩
  | succ i ih =>
    intro hc hi h
    by_cases he : c = i + 1
    · exact ⟨[], by rw [he]; rfl⟩
    · obtain ⟨cs, hcs⟩ := ih (by omega) (by omega) fun k m h1 h2 => h k m h1 (by omega)
      have hm : ms[i]? = some ms[i] := List.getElem?_eq_getElem (by omega)
      have hw := h i _ (by omega) (by omega) hm
      by_cases ha : isAlloc (ms[i]).op = true
      · obtain ⟨hg, ⟨t, ht⟩, z, hz, _⟩ := chk.alo i _ hm ha
        have hstep := hst i _ hm
        simp only [stepOp, hg, wantedD, Option.bind_some, if_true, hz, evalOp, Option.some.injEq, Prod.mk.injEq] at hstep
        exact ⟨z :: cs, by rw [← hstep.2, hcs]; rfl⟩
      · exact ⟨cs, by rw [Z_same chk hst hm hw (by simpa using ha)]; exact hcs⟩

theorem step_free {S : Nat → Prop} {c i : Nat} {e : Env} {a : Act} {w : World} {g : Gh} {β : Nat → Nat} {o : Oper} {m : MOper} (hS : Closed ops S) (hS' : Closed ops fun k => k = i ∨ S k) (ho : ops[i]? = some o) (hns : ¬ S i) (hm : ms[i]? = some m) (hw : isW m.op = false) (hna : isAlloc m.op = false)
    (hcw : c = 0 ∨ ∃ m, ms[c - 1]? = some m ∧ isW m.op = true ∧ 0 < c) (h : Inv N ntmps σ0 g0 w0 ms keep E Z S c e a w g β) {K : Act → World → Prop} {Q : Exit → Act → World → Prop}
    (hK : ∀ a' w' e' g', Inv N ntmps σ0 g0 w0 ms keep E Z (fun k => k = i ∨ S k) c e' a' w' g' β → K a' w') : wpOp P ops Q i K a w := by
  have hil : i < ms.length := (List.getElem?_eq_some_iff.1 hm).1
  have hag := agree_now chk hst hS' hm hns h.agree (fun e => by rw [hw] at e; cases e)
  obtain ⟨op, mg, cmp, hop, hgd, hdk, hm2⟩ := hops i o ho
  rw [hm] at hm2
  injection hm2 with hm2
  subst hm2
  simp only at hw hna
  have hdr := chk.drw i _ hm
  simp only at hdr
  have hstep := hst i _ hm
  simp only [stepOp, Option.bind_eq_some_iff] at hstep
  obtain ⟨b, hb, hstep⟩ := hstep
  have hb' : wantedD e mg = some b := by
    rw [← hb]
    cases mg with
    | none => rfl
    | some gw =>
      obtain ⟨t, want⟩ := gw
      simp only [wantedD]
      rw [hag t (by simp [readsOf])]
  have hdlt : ∀ s, o.dst = some s → s < ntmps := fun s hs => by simpa [dstOk, hs] using hdk
  -- the new state, whatever was done
  have fin : ∀ (d : Dat) (v : Value) (e1 : Env) (w' : World) (g' : Gh), Fr N ntmps σ0 g0 w0 (putD e1 o.dst d) (Z c) (a.put o.dst v) w' g' → (∀ t, t ∉ takesOf op → Env.get e1 t = Env.get e t) → (∀ t, o.dst = some t → Env.get (E (i + 1)) t = some d) →
      (∀ b, b < w.heap.size → g.lock b = none → (∀ id, id < (Z c).length → g.ρ id ≠ b) → Same g w g' w' b) → Ext (Z c).length g w g' w' → w.heap.size ≤ w'.heap.size →
      Inv N ntmps σ0 g0 w0 ms keep E Z (fun k => k = i ∨ S k) c (putD e1 o.dst d) (a.put o.dst v) w' g' β := by
    intro d v e1 w' g' hfr he1 hEd hsame hext hsize
    have noti : ∀ (k : Nat) (m' : MOper), ms[k]? = some m' → (isW m'.op = true ∨ isAlloc m'.op = true) → k ≠ i := by
      intro k m' hm' hor e
      subst e
      rw [hm] at hm'
      injection hm' with e
      subst e
      simp only at hor
      rcases hor with h | h
      · rw [hw] at h; cases h
      · rw [hna] at h; cases h
    refine ⟨hfr, h.cle, fun k m' hm' hw' => ?_, fun k m' hm' ha' hkc => .inr (h.cutA k m' hm' ha' hkc), ?_, fun k m' hm' ha' hs hck => ?_, fun k j m1 m2 h1 h2 h3 h4 h5 h6 h7 h8 => ?_⟩
    · rw [← h.cutW k m' hm' hw']
      exact ⟨fun h => h.resolve_left (noti k m' hm' (.inl hw')), .inr⟩
    · refine agree_step chk hst hS' hm hna h.agree (fun t h1 h2 => ?_) (fun t h1 => ?_) fun k m' hm' ha' hkc => hkc
      · rw [← he1 t h2]
        unfold putD
        cases hd : o.dst with
        | none => rfl
        | some s => exact Env.get_put_other _ _ fun e => h1 (by simp only; rw [hd, e])
      · simp only at h1
        rw [hEd t h1]
        simp only [putD, h1]
        exact Env.get_put_same _ _ _
    · have hki := noti k m' hm' (.inr ha')
      obtain ⟨zero, vs, T, t, q1, q2, q3, q4, q5, q6, q7, q8, q9⟩ := h.pend k m' hm' ha' (hs.resolve_left hki) hck
      obtain ⟨_, _, z', hz', _, hun'⟩ := chk.alo k m' hm' ha'
      rw [hz'] at q1
      injection q1 with q1
      subst q1
      have hbl : β k < w.heap.size := by
        rcases Nat.lt_or_ge (β k) w.heap.size with h' | h'
        · exact h'
        · simp [Array.getElem?_eq_none h'] at q4
      obtain ⟨s1, s2, s3⟩ := hsame (β k) hbl q8 q9
      refine ⟨z', vs, T, t, hz', q2, ?_, by rw [s1]; exact q4, RepL_ext (hext.mono (Nat.zero_le _)) _ _ hun' q5, q6, by rw [s2]; exact q7, by rw [s3]; exact q8, fun id hid => by rw [hext.rho id hid]; exact q9 id hid⟩
      cases hd : o.dst with
      | none => exact q3
      | some s =>
        have hne : s ≠ t := by
          rintro rfl
          exact chk.ww k i m' _ s hki hm' hm q2 (by simp only; exact hd)
        simp only [Act.put]
        rw [Array.getElem?_setIfInBounds_ne hne]
        exact q3
    · exact h.pinj k j m1 m2 h1 h2 h3 h4 (h5.resolve_left (noti k m1 h1 (.inr h3))) (h6.resolve_left (noti j m2 h2 (.inr h4))) h7 h8
  unfold wpOp
  simp only [ho]
  have hwt := h.fr.wanted hgd hb'
  cases b with
  | false =>
    rw [if_neg (by simp [hwt])]
    simp only [Bool.false_eq_true, if_false, Option.some.injEq, Prod.mk.injEq] at hstep
    have hl := h.fr.left (dst := o.dst) (d := .undef) (v := undef) (by simp only [Rep]) (fun _ _ => trivial) rfl
    exact hK _ _ _ _ (fin .undef undef e w g (hl.fr h.fr.defers h.fr.tsize hdlt) (fun _ _ => rfl) (fun t ht => by rw [← hstep.1]; simp only [putD, ht]; exact Env.get_put_same _ _ _) (fun _ _ _ _ => ⟨rfl, rfl, rfl⟩) (Ext.refl _ _ _) (Nat.le_refl _))
  | true =>
    rw [if_pos hwt]
    refine .inl ?_
    simp only [if_true, Option.bind_eq_some_iff, Option.some.injEq, Prod.mk.injEq] at hstep
    obtain ⟨⟨d, e1, σ1⟩, he, hE1, hZ1⟩ := hstep
    have hEd : ∀ t, o.dst = some t → Env.get (E (i + 1)) t = some d := fun t ht => by
      rw [← hE1]
      simp only [putD, ht]
      exact Env.get_put_same _ _ _
    obtain ⟨e1', he', hk1, hk2⟩ := evalOp_env hdr (fun t ht => hag t (by simp [readsOf, ht])) he
    have he2 : evalOp run esc (Z c).length e (Z c) op = some (d, e1', Z c) := by
      by_cases hr : isR op = true
      · have hS1 : ∀ (k : Nat) (m' : MOper), c ≤ k → k < i → ms[k]? = some m' → isW m'.op = false := by
          intro k m' hck hki hm'
          cases hw' : isW m'.op with
          | false => rfl
          | true =>
            have := (chk.st _ hS' k i m' _ (by omega) hm' hm hw' (.inr (.inl hr))).1 hki (.inl rfl)
            have := (h.cutW k m' hm' hw').1 (this.resolve_left (by omega))
            omega
        have hci : c ≤ i := by
          rcases hcw with hc | ⟨m', hm', hw', hc⟩
          · omega
          · rcases Nat.lt_or_ge i c with hlt | hge
            · exfalso
              have hsk := (h.cutW (c - 1) m' hm' hw').2 (by omega)
              have hne : c - 1 ≠ i := by
                rintro e
                rw [e, hm] at hm'
                injection hm' with e
                rw [← e] at hw'
                simp only at hw'
                rw [hw] at hw'
                cases hw'
              exact hns ((chk.st S hS (c - 1) i m' _ hne hm' hm hw' (.inr (.inl hr))).2 (by omega) hsk)
            · exact hge
        obtain ⟨cs, hcs⟩ := Z_app hk h0 hN chk hst hops hci (by omega) hS1
        cases op <;> simp only [isR, Bool.false_eq_true] at hr
        rename_i mv gg n x
        cases mv with
        | true => simp [drawable] at hdr
        | false =>
          rw [hcs] at he'
          refine evalOp_load (fun p hp => ?_) he'
          cases x with
          | tmp t =>
            obtain ⟨_, _, _, _, hu⟩ := h.fr.env t p hp
            exact hu
          | lit dd => simp [drawable] at hdr
      · exact (evalOp_free hdr hw (by simpa using hr) hna he').2 _ _
    refine opd_ok hk h.fr.here (LB.hide hN) hN rfl hop he2 fun v w' g' hl => ?_
    obtain ⟨hl2, hsame, hext, hsize, _⟩ := hl.from_here hN h0 h.fr
    exact hK _ _ _ _ (fin d v e1' w' g' (hl2.fr h.fr.defers h.fr.tsize hdlt) hk1 hEd hsame hext hsize)

theorem step_write {S : Nat → Prop} {c i : Nat} {e : Env} {a : Act} {w : World} {g : Gh} {β : Nat → Nat} {o : Oper} {m : MOper} (hS : Closed ops S) (hS' : Closed ops fun k => k = i ∨ S k) (ho : ops[i]? = some o) (hns : ¬ S i) (hm : ms[i]? = some m) (hw : isW m.op = true)
    (h : Inv N ntmps σ0 g0 w0 ms keep E Z S c e a w g β) {K : Act → World → Prop} {Q : Exit → Act → World → Prop}
    (hK : ∀ a' w' e' g', Inv N ntmps σ0 g0 w0 ms keep E Z (fun k => k = i ∨ S k) (i + 1) e' a' w' g' β → K a' w') : wpOp P ops Q i K a w := by
  have hil : i < ms.length := (List.getElem?_eq_some_iff.1 hm).1
  have hna : isAlloc m.op = false := by cases hmo : m.op <;> rw [hmo] at hw <;> simp only [isW, Bool.false_eq_true] at hw <;> rfl
  have hci : c ≤ i := by
    rcases Nat.lt_or_ge i c with hlt | hge
    · exact absurd ((h.cutW i m hm hw).2 hlt) hns
    · exact hge
  obtain ⟨e1, g1, h⟩ := adopt chk hst hS h hci (by omega) fun k m' hck hki hm' => by
    refine ⟨?_, fun ha' => ?_⟩
    · cases hw' : isW m'.op with
      | false => rfl
      | true =>
        have := (chk.st _ hS' i k m m' (by omega) hm hm' hw (.inl hw')).2 hki (.inl rfl)
        have := (h.cutW k m' hm' hw').1 (this.resolve_left (by omega))
        omega
    · exact ((chk.st _ hS' i k m m' (by omega) hm hm' hw (.inr (.inr ha'))).2 hki (.inl rfl)).resolve_left (by omega)
  have hag := agree_now chk hst hS' hm hns h.agree (fun _ => Nat.le_refl _)
  obtain ⟨op, mg, cmp, hop, hgd, hdk, hm2⟩ := hops i o ho
  rw [hm] at hm2
  injection hm2 with hm2
  subst hm2
  simp only at hw hna
  have hdr := chk.drw i _ hm
  simp only at hdr
  have hstep := hst i _ hm
  simp only [stepOp, Option.bind_eq_some_iff] at hstep
  obtain ⟨b, hb, hstep⟩ := hstep
  have hb' : wantedD e1 mg = some b := by
    rw [← hb]
    cases mg with
    | none => rfl
    | some gw =>
      obtain ⟨t, want⟩ := gw
      simp only [wantedD]
      rw [hag t (by simp [readsOf])]
  have hdlt : ∀ s, o.dst = some s → s < ntmps := fun s hs => by simpa [dstOk, hs] using hdk
  have fin : ∀ (d : Dat) (v : Value) (e2 : Env) (w' : World) (g' : Gh), Fr N ntmps σ0 g0 w0 (putD e2 o.dst d) (Z (i + 1)) (a.put o.dst v) w' g' → (∀ t, t ∉ takesOf op → Env.get e2 t = Env.get e1 t) → (∀ t, o.dst = some t → Env.get (E (i + 1)) t = some d) →
      Inv N ntmps σ0 g0 w0 ms keep E Z (fun k => k = i ∨ S k) (i + 1) (putD e2 o.dst d) (a.put o.dst v) w' g' β := by
    intro d v e2 w' g' hfr he1 hEd
    have nopend : ∀ (k : Nat) (m' : MOper), ms[k]? = some m' → isAlloc m'.op = true → (k = i ∨ S k) → i + 1 ≤ k → False := by
      intro k m' hm' ha' hs hik
      exact hns ((chk.st S hS i k _ m' (by omega) hm hm' hw (.inr (.inr ha'))).1 (by omega) (hs.resolve_left (by omega)))
    refine ⟨hfr, by omega, fun k m' hm' hw' => ?_, fun k m' hm' ha' hkc => ?_, ?_, fun k m' hm' ha' hs hck => (nopend k m' hm' ha' hs hck).elim, fun k j m1 m2 h1 h2 h3 h4 h5 h6 h7 h8 => (nopend k m1 h1 h3 h5 h7).elim⟩
    · refine ⟨fun hs => ?_, fun hlt => ?_⟩
      · rcases hs with rfl | hs
        · omega
        · have := (h.cutW k m' hm' hw').1 hs; omega
      · by_cases hki : k = i
        · exact .inl hki
        · exact .inr ((h.cutW k m' hm' hw').2 (by omega))
    · by_cases hki : k = i
      · exact .inl hki
      · exact .inr (h.cutA k m' hm' ha' (by omega))
    · refine agree_step chk hst hS' hm hna h.agree (fun t h1 h2 => ?_) (fun t h1 => ?_) fun k m' hm' ha' hkc => ?_
      · rw [← he1 t h2]
        unfold putD
        cases hd : o.dst with
        | none => rfl
        | some s => exact Env.get_put_other _ _ fun e => h1 (by simp only; rw [hd, e])
      · simp only at h1
        rw [hEd t h1]
        simp only [putD, h1]
        exact Env.get_put_same _ _ _
      · have : k ≠ i := by
          rintro rfl
          rw [hm] at hm'
          injection hm' with e
          subst e
          simp only at ha'
          rw [hna] at ha'
          cases ha'
        omega
  unfold wpOp
  simp only [ho]
  have hwt := h.fr.wanted hgd hb'
  cases b with
  | false =>
    rw [if_neg (by simp [hwt])]
    simp only [Bool.false_eq_true, if_false, Option.some.injEq, Prod.mk.injEq] at hstep
    have hl := h.fr.left (dst := o.dst) (d := .undef) (v := undef) (by simp only [Rep]) (fun _ _ => trivial) rfl
    exact hK _ _ _ _ (fin .undef undef e1 w g1 (by rw [← hstep.2]; exact hl.fr h.fr.defers h.fr.tsize hdlt) (fun _ _ => rfl) (fun t ht => by rw [← hstep.1]; simp only [putD, ht]; exact Env.get_put_same _ _ _))
  | true =>
    rw [if_pos hwt]
    refine .inl ?_
    simp only [if_true, Option.bind_eq_some_iff, Option.some.injEq, Prod.mk.injEq] at hstep
    obtain ⟨⟨d, e2, σ1⟩, he, hE1, hZ1⟩ := hstep
    have hEd : ∀ t, o.dst = some t → Env.get (E (i + 1)) t = some d := fun t ht => by
      rw [← hE1]
      simp only [putD, ht]
      exact Env.get_put_same _ _ _
    obtain ⟨e1', he', hk1, hk2⟩ := evalOp_env hdr (fun t ht => hag t (by simp [readsOf, ht])) he
    refine opd_ok hk h.fr h0 hN rfl hop he' fun v w' g' hl => ?_
    exact hK _ _ _ _ (fin d v e1' w' g' (by rw [← hZ1]; exact hl.fr h.fr.defers h.fr.tsize hdlt) hk1 hEd)

theorem step_alloc {S : Nat → Prop} {c i : Nat} {e : Env} {a : Act} {w : World} {g : Gh} {β : Nat → Nat} {o : Oper} {m : MOper} (hS : Closed ops S) (hS' : Closed ops fun k => k = i ∨ S k) (ho : ops[i]? = some o) (hns : ¬ S i) (hm : ms[i]? = some m) (hal : isAlloc m.op = true)
    (h : Inv N ntmps σ0 g0 w0 ms keep E Z S c e a w g β) {K : Act → World → Prop} {Q : Exit → Act → World → Prop}
    (hK : ∀ a' w' e' g' β', Inv N ntmps σ0 g0 w0 ms keep E Z (fun k => k = i ∨ S k) c e' a' w' g' β' → K a' w') : wpOp P ops Q i K a w := by
  have hil : i < ms.length := (List.getElem?_eq_some_iff.1 hm).1
  have hci : c ≤ i := by
    rcases Nat.lt_or_ge i c with hlt | hge
    · exact absurd (h.cutA i m hm hal hlt) hns
    · exact hge
  obtain ⟨hg, ⟨t, ht⟩, z, hz, hsafe, hun⟩ := chk.alo i m hm hal
  obtain ⟨op, mg, cmp, hop, hgd, hdk, hm2⟩ := hops i o ho
  rw [hm] at hm2
  injection hm2 with hm2
  subst hm2
  simp only at hal hg ht hz
  subst hg hz
  have hdlt : ∀ s, o.dst = some s → s < ntmps := fun s hs => by simpa [dstOk, hs] using hdk
  have hwt := h.fr.wanted hgd (b := true) rfl
  unfold wpOp
  simp only [ho]
  rw [if_pos hwt]
  refine .inl ?_
  have he : evalOp run esc (Z c).length e (Z c) (.alloc z) = some (.ptr (Z c).length 0, e, z :: Z c) := rfl
  refine opd_ok hk h.fr.here (LB.hide hN) hN rfl hop he fun v w' g' hl => ?_
  obtain ⟨hl2, hsame, hext, hsize, hnew⟩ := hl.from_here hN h0 h.fr
  have hβ := hnew (Z c).length (Nat.le_refl _) (by simp)
  obtain ⟨us, T, u1, u2, u3⟩ := hl2.st.var (Z c).length z (by simp [St.get_nil, St.get_cons])
  obtain ⟨f1, f2⟩ := hl2.st.free (Z c).length (by simp)
  obtain ⟨hrv, _, _⟩ := hl2.val t ht
  simp only [Rep] at hrv
  have noti : ∀ (k : Nat) (m' : MOper), ms[k]? = some m' → isW m'.op = true → k ≠ i := by
    intro k m' hm' hw' e
    subst e
    rw [hm] at hm'
    injection hm' with e
    subst e
    simp [isW] at hw'
  have htk : a.tmps.size = (a.put o.dst v).tmps.size := by rw [ht]; simp [Act.put]
  refine hK (a.put o.dst v) w' (Env.del e t) g' (fun k => if k = i then g'.ρ (Z c).length else β k) ⟨⟨fun s d hd => ?_, ?_, ?_, hl2.lb, ?_, by rw [← htk]; exact h.fr.tsize⟩, h.cle, fun k m' hm' hw' => ?_, fun k m' hm' ha' hkc => .inr (h.cutA k m' hm' ha' hkc), ?_, fun k m' hm' ha' hs hck => ?_, fun k j m1 m2 h1 h2 h3 h4 h5 h6 h7 h8 hkj => ?_⟩
  · rw [Env.get_del] at hd
    split at hd
    · cases hd
    · rename_i hst'
      obtain ⟨u, q1, q2, q3, _⟩ := hl2.env s d hd (by rw [ht]; simpa using Ne.symm hst')
      obtain ⟨_, _, _, _, hu⟩ := h.fr.env s d hd
      refine ⟨u, ?_, q2, q3, hu⟩
      rw [ht]
      simp only [Act.put]
      rw [Array.getElem?_setIfInBounds_ne (Ne.symm hst')]
      exact q1
  · have hs := hl2.st
    exact ⟨fun id cc hcc => hs.var id cc (by rw [St.get_cons_old (St.get_lt hcc)]; exact hcc), h.fr.st.under, fun x y hx hy => hs.inj x y (by simp; omega) (by simp; omega), fun id hid => hs.free id (by simp; omega), hs.fresh⟩
  · have hch := hl2.ch
    exact ⟨hch.os, hch.tape, hch.output, hch.size, hch.ext, h.fr.ch.len, hch.keep, fun id q1 q2 => hch.new id q1 (by simp; omega), fun n hn hh id cc hid hcc => hch.low n hn hh id cc hid (by rw [St.get_cons_old (St.get_lt hcc)]; exact hcc)⟩
  · rw [ht]; simpa [Act.put] using h.fr.defers
  · rw [← h.cutW k m' hm' hw']
    exact ⟨fun hs => hs.resolve_left (noti k m' hm' hw'), .inr⟩
  · intro j hj hjl s hs hwr
    have hji : j ≠ i := by rintro rfl; exact hj hil (.inl rfl)
    rw [Env.get_del]
    split
    · rename_i hst'
      subst hst'
      exfalso
      by_cases hlt : i < j
      · have := (hwr i _ hlt hm ht).2 rfl
        omega
      · have hjlt : j < ms.length := by omega
        have hmj : ms[j]? = some ms[j] := List.getElem?_eq_getElem hjlt
        unfold rd at hs
        rw [hmj] at hs
        exact hj hjlt ((chk.rw _ hS' i j _ _ s (Ne.symm hji) hm hmj ht hs).2 (by omega) (.inl rfl))
    · rename_i hst'
      refine h.agree j (fun q1 q2 => hj q1 (.inr q2)) hjl s hs fun k m' hk' hm' hd' => ?_
      obtain ⟨q1, q2⟩ := hwr k m' hk' hm' hd'
      refine ⟨q1.resolve_left ?_, q2⟩
      rintro rfl
      rw [hm] at hm'
      injection hm' with e
      subst e
      simp only at hd'
      rw [ht] at hd'
      injection hd' with hd'
      exact hst' hd'.symm
  · by_cases hki : k = i
    · subst hki
      rw [hm] at hm'
      injection hm' with e
      subst e
      simp only [if_true]
      refine ⟨z, us, T, t, rfl, ht, ?_, u1, u2, Nat.le_trans h.fr.ch.size hβ, f1, f2, fun id hid e => ?_⟩
      · rw [ht]
        simp only [Act.put]
        rw [Array.getElem?_setIfInBounds_self_of_lt (Nat.lt_of_lt_of_le (hdlt t ht) h.fr.tsize), hrv]
      · have := hl2.st.inj id (Z c).length (by simp; omega) (by simp) e
        omega
    · simp only [hki, if_false]
      obtain ⟨zero, vs, T', t', q1, q2, q3, q4, q5, q6, q7, q8, q9⟩ := h.pend k m' hm' ha' (hs.resolve_left hki) hck
      obtain ⟨_, _, z', hz', _, hun'⟩ := chk.alo k m' hm' ha'
      rw [hz'] at q1
      injection q1 with q1
      subst q1
      have hbl : β k < w.heap.size := by
        rcases Nat.lt_or_ge (β k) w.heap.size with h' | h'
        · exact h'
        · simp [Array.getElem?_eq_none h'] at q4
      obtain ⟨s1, s2, s3⟩ := hsame (β k) hbl q8 q9
      refine ⟨z', vs, T', t', hz', q2, ?_, by rw [s1]; exact q4, RepL_ext (hext.mono (Nat.zero_le _)) _ _ hun' q5, q6, by rw [s2]; exact q7, by rw [s3]; exact q8, fun id hid => by rw [hext.rho id hid]; exact q9 id hid⟩
      have hne : t ≠ t' := by
        rintro rfl
        exact chk.ww k i m' _ t hki hm' hm q2 (by simp only; exact ht)
      rw [ht]
      simp only [Act.put]
      rw [Array.getElem?_setIfInBounds_ne hne]
      exact q3
  · have blt : ∀ (k : Nat) (m' : MOper), ms[k]? = some m' → isAlloc m'.op = true → S k → c ≤ k → β k < w.heap.size := by
      intro k m' hm' ha' hs hck
      obtain ⟨zero, vs, T', t', q1, q2, q3, q4, _⟩ := h.pend k m' hm' ha' hs hck
      rcases Nat.lt_or_ge (β k) w.heap.size with h' | h'
      · exact h'
      · simp [Array.getElem?_eq_none h'] at q4
    by_cases hki : k = i <;> by_cases hji : j = i
    · omega
    · have := blt j m2 h2 h4 (h6.resolve_left hji) h8
      simp only [hki, hji, if_true, if_false]
      omega
    · have := blt k m1 h1 h3 (h5.resolve_left hki) h7
      simp only [hki, hji, if_true, if_false]
      omega
    · simp only [hki, hji, if_false]
      exact h.pinj k j m1 m2 h1 h2 h3 h4 (h5.resolve_left hki) (h6.resolve_left hji) h7 h8 hkj
end

/-! ### the region -/
theorem Fr.world {e : Env} {σ : St} {a : Act} {w : World} {g : Gh} (h : Fr N ntmps σ0 g0 w0 e σ a w g) {w' : World} (hos : w'.os = w.os) (htape : w'.tape = w.tape) (hout : w'.output = w.output) (hheap : w'.heap = w.heap) : Fr N ntmps σ0 g0 w0 e σ a w' g := by
  have hext : ∀ n, Ext n g w g w' := fun n => ⟨fun b o u _ hc => by simpa [World.cell?, hheap] using hc, fun _ => Nat.le_refl _, fun _ _ => rfl⟩
  have hsame : ∀ b, Same g w g w' b := fun b => ⟨by rw [hheap], rfl, rfl⟩
  refine ⟨h.env.soft (hext _) fun b π _ => hsame b, ⟨fun id c hc => ?_, h.st.under, h.st.inj, h.st.free, fun b hb => h.st.fresh b (by rwa [hheap] at hb)⟩, h.ch.trans ⟨hos, htape, hout, by rw [hheap]; exact Nat.le_refl _, hext _, Nat.le_refl _, fun b _ => hsame b, fun id h1 h2 => by omega, fun _ _ hh => hh⟩, h.lb, h.defers, h.tsize⟩
  obtain ⟨vs, T, h1, h2, h3⟩ := h.st.var id c hc
  refine ⟨vs, T, by rw [hheap]; exact h1, RepL_ext (hext σ.length) _ _ (h.st.under id c hc) h2, fun i d v hd hv => ?_⟩
  obtain ⟨k1, k2⟩ := h3 i d v hd hv
  exact ⟨k1, k2.same fun b j _ => hsame b⟩

def done (listed : Array Bool) (k : Nat) : Prop := listed.getD k false = true
def left (n : Nat) (listed : Array Bool) : Nat := ((List.range n).filter fun k => !listed.getD k false).length

theorem done_set {listed : Array Bool} {i : Nat} (hi : i < listed.size) : done (listed.setIfInBounds i true) = fun k => k = i ∨ done listed k := by
  funext k
  apply propext
  unfold done
  by_cases h : i = k
  · subst h
    simp [hi]
  · rw [getD_set_ne false h]
    exact ⟨.inr, fun h' => h'.resolve_left (Ne.symm h)⟩
theorem left_set {n : Nat} {listed : Array Bool} {i : Nat} (hi : i < listed.size) (hin : i < n) (hd : ¬ done listed i) : left n (listed.setIfInBounds i true) < left n listed := by
  unfold left
  have h1 : ((List.range n).filter fun k => !(listed.setIfInBounds i true).getD k false) = ((List.range n).filter fun k => !listed.getD k false).filter fun k => k != i := by
    rw [List.filter_filter]
    apply List.filter_congr
    intro k _
    by_cases h : i = k
    · subst h; simp [hi]
    · rw [getD_set_ne false h]; simp [Ne.symm h]
  rw [h1]
  refine List.length_filter_lt_length_iff_exists.2 ⟨i, ?_, by simp⟩
  rw [List.mem_filter]
  exact ⟨List.mem_range.2 hin, by simpa [done] using hd⟩

theorem keep_congr {e e' : Env} : ∀ {l : List Nat}, (∀ t ∈ l, Env.get e t = Env.get e' t) → Env.keep e l = Env.keep e' l
  | [], _ => rfl
  | n :: l, h => by
    have h1 := h n (by simp)
    simp only [Env.keep]
    rw [h1, keep_congr fun t ht => h t (by simp [ht])]

theorem opsDraw_ok {ps : List (List Nat)} : ∀ {l : List Oper} {i : Nat} {r : List MOper}, opsDraw P ntmps ops ps i l = some r → r.length = l.length ∧ ∀ (k : Nat) (o : Oper), l[k]? = some o → ∃ (op : MOp) (mg : Option (Nat × Bool)) (cmp : Bool), opOfD P cmp o = some op ∧ guardOf ops o = some mg ∧ dstOk ntmps o = true ∧ r[k]? = some ({ dst := o.dst, op := op, guard := mg } : MOper)
  | [], i, r, h => by
    simp only [opsDraw, Option.some.injEq] at h
    subst h
    exact ⟨rfl, by simp⟩
  | o :: l, i, r, h => by
    simp only [opsDraw, Option.bind_eq_some_iff] at h
    obtain ⟨op, hop, mg, hmg, h⟩ := h
    split at h
    · rename_i hd
      simp only [Option.bind_eq_some_iff, Option.some.injEq] at h
      obtain ⟨r', hr', rfl⟩ := h
      obtain ⟨h1, h2⟩ := opsDraw_ok hr'
      refine ⟨by simp [h1], fun k o' hk => ?_⟩
      cases k with
      | zero =>
        simp only [List.getElem?_cons_zero, Option.some.injEq] at hk
        subst hk
        exact ⟨op, mg, _, hop, hmg, hd, rfl⟩
      | succ k => exact h2 k o' (by simpa using hk)
    · cases h

theorem draw_ok (hk : CallsOk P run) (h0 : LB (N - 1) g0) (hN : 0 < N) (hu0 : ∀ id c, St.get σ0 id = some c → Dat.underL σ0.length c = true) (hmix : P.follows .mixedOrders = true) (hchk : drawOk ops.toList ms keep = true) {ps : List (List Nat)} (hdr : opsDraw P ntmps ops ps 0 ops.toList = some ms)
    {id : Nat} {e : Env} {σ : St} {a : Act} {w : World} {g : Gh} (h : Fr N ntmps σ0 g0 w0 e σ a w g) {e1 : Env} {σ1 : St} (he : stepOps run esc σ0.length ms e σ = some (e1, σ1)) {Q : Exit → Act → World → Prop}
    (hQ : ∀ a' w' g', Fr N ntmps σ0 g0 w0 (Env.keep e1 keep) (gc σ0.length ((Env.keep e1 keep).map (·.2)) σ1) a' w' g' → Q .normal a' w') : (Code.region id ops true).wp P Q a w := by
  obtain ⟨hlen, hops⟩ := opsDraw_ok hdr
  have hops' : OpsOk P ntmps ops ms := fun k o ho => hops k o (by simpa using ho)
  have hlen' : ms.length = ops.size := by simpa using hlen
  have chk := chk_of hlen' hchk
  obtain ⟨E, Z, hE0, hZ0, hE1, hZ1, hst⟩ := steps_states he
  refine wp_region_any hmix ?_
  -- the end
  have fin : ∀ (S : Nat → Prop) (c : Nat) (e' : Env) (a' : Act) (w' : World) (g' : Gh) (β : Nat → Nat), Closed ops S → (∀ k, k < ms.length → S k) → Inv N ntmps σ0 g0 w0 ms keep E Z S c e' a' w' g' β → Q .normal a' w' := by
    intro S c e' a' w' g' β hS hall hinv
    obtain ⟨e2, g2, h2⟩ := adopt chk hst hS hinv hinv.cle (Nat.le_refl _) fun i m hci hi hm => by
      refine ⟨?_, fun _ => hall i hi⟩
      cases hw : isW m.op with
      | false => rfl
      | true => have := (hinv.cutW i m hm hw).1 (hall i hi); omega
    have hkeep : Env.keep e2 keep = Env.keep e1 keep := by
      rw [← hE1]
      refine keep_congr fun t ht => h2.agree ms.length (fun hlt => by omega) (Nat.le_refl _) t ?_ fun i m hi hm _ => ⟨hall i hi, fun _ => hi⟩
      unfold rd
      rw [List.getElem?_eq_none (Nat.le_refl _)]
      exact ht
    have := h2.fr.gc hu0 keep
    rw [hkeep, hZ1] at this
    exact hQ a' w' g2 this
  have allDone : ∀ listed : Array Bool, listed.size = ops.size → Region.ready .any ops listed = [] → ∀ k, k < ms.length → done listed k := by
    intro listed hsz hr k
    induction k using Nat.strongRecOn with
    | _ k ih =>
      intro hkl
      have hko : ops[k]? = some ops[k] := Array.getElem?_eq_getElem (by omega)
      by_cases hd : done listed k
      · exact hd
      · exfalso
        have : k ∈ Region.ready .any ops listed := by
          rw [mem_ready]
          refine ⟨?_, _, hko, fun ed hed hb => ?_⟩
          · have hkl2 : k < listed.size := by omega
            simpa [done, hkl2] using hd
          · have hlt := chk.edge k _ hko ed hed hb
            exact ih ed.on hlt (by omega)
        rw [hr] at this
        cases this
  have key : ∀ (fuel : Nat) (listed : Array Bool) (c : Nat) (e' : Env) (a' : Act) (w' : World) (g' : Gh) (β : Nat → Nat), listed.size = ops.size → Closed ops (done listed) → (c = 0 ∨ ∃ m, ms[c - 1]? = some m ∧ isW m.op = true ∧ 0 < c) →
      Inv N ntmps σ0 g0 w0 ms keep E Z (done listed) c e' a' w' g' β → left ops.size listed ≤ fuel → wpAny P .any ops Q fuel listed a' w' := by
    intro fuel
    induction fuel with
    | zero =>
      intro listed c e' a' w' g' β hsz hcl hcw hinv hleft
      have hr : Region.ready .any ops listed = [] := by
        refine List.eq_nil_iff_forall_not_mem.2 fun i hi => ?_
        obtain ⟨h1, o, ho, _⟩ := mem_ready.1 hi
        have hlt : i < ops.size := (Array.getElem?_eq_some_iff.1 ho).1
        have hil : i < listed.size := by omega
        have : ¬ done listed i := by
          simp only [done]
          simp [hil] at h1 ⊢
          exact h1
        have := left_set hil hlt this
        omega
      exact ⟨hr, fin _ c e' a' w' g' β hcl (allDone listed hsz hr) hinv⟩
    | succ fuel ih =>
      intro listed c e' a' w' g' β hsz hcl hcw hinv hleft
      refine ⟨fun hr => fin _ c e' a' w' g' β hcl (allDone listed hsz hr) hinv, fun i hi => ?_⟩
      obtain ⟨h1, o, ho, hpre⟩ := mem_ready.1 hi
      have hlt : i < ops.size := (Array.getElem?_eq_some_iff.1 ho).1
      have hil : i < listed.size := by omega
      have hns : ¬ done listed i := by
        simp only [done]
        simp [hil] at h1 ⊢
        exact h1
      have hsz' : (listed.setIfInBounds i true).size = ops.size := by simpa using hsz
      have hds := done_set (listed := listed) hil
      have hcl' : Closed ops fun k => k = i ∨ done listed k := by
        intro k o' ho' hs ed hed hb
        rcases hs with rfl | hs
        · rw [ho] at ho'
          injection ho' with ho'
          subst ho'
          exact .inr (hpre ed hed hb)
        · exact .inr (hcl k o' ho' hs ed hed hb)
      have hm : ms[i]? = some ms[i] := List.getElem?_eq_getElem (by omega)
      have hl' := left_set hil hlt hns
      by_cases hw : isW (ms[i]).op = true
      · refine step_write hk h0 hN chk hst hops' hcl hcl' ho hns hm hw hinv fun a2 w2 e2 g2 h2 => ?_
        exact ih _ (i + 1) e2 a2 w2 g2 β hsz' (by rw [hds]; exact hcl') (.inr ⟨_, by simpa using hm, hw, by omega⟩) (by rw [hds]; exact h2) (by omega)
      · by_cases ha : isAlloc (ms[i]).op = true
        · refine step_alloc hk h0 hN chk hst hops' hcl hcl' ho hns hm ha hinv fun a2 w2 e2 g2 β2 h2 => ?_
          exact ih _ c e2 a2 w2 g2 β2 hsz' (by rw [hds]; exact hcl') hcw (by rw [hds]; exact h2) (by omega)
        · refine step_free hk h0 hN chk hst hops' hcl hcl' ho hns hm (by simpa using hw) (by simpa using ha) hcw hinv fun a2 w2 e2 g2 h2 => ?_
          exact ih _ c e2 a2 w2 g2 β hsz' (by rw [hds]; exact hcl') hcw (by rw [hds]; exact h2) (by omega)
  have hnone : ∀ k, ¬ done (Array.replicate ops.size false) k := by
    intro k hd
    unfold done at hd
    by_cases hk : k < ops.size
    · simp [hk] at hd
    · simp [hk] at hd
  refine key ops.size (Array.replicate ops.size false) 0 e a _ g (fun _ => 0) (by simp) (fun k o _ hs => absurd hs (hnone k)) (.inl rfl) ⟨?_, Nat.zero_le _, fun k m _ _ => ⟨fun hs => absurd hs (hnone k), fun hlt => by omega⟩, fun k m _ _ hlt => by omega, fun j _ hjl t _ hw => ?_, fun i m _ _ hs => absurd hs (hnone i), fun i j m m' _ _ _ _ hs => absurd hs (hnone i)⟩ ?_
  · rw [hZ0]
    exact h.world rfl rfl rfl rfl
  · rw [← hE0]
    refine (E_keep chk hst (Nat.zero_le j) hjl fun k m hk1 hk2 hm => ⟨fun hd => ?_, fun htk => ?_⟩).symm
    · exact hnone k (hw k m hk2 hm hd).1
    · rename_i ht
      unfold rd at ht
      cases hmj : ms[j]? with
      | none => rw [hmj] at ht; exact chk.tkk k m t hm htk ht
      | some mj => rw [hmj] at ht; exact chk.tk k j m mj t (by omega) hm hmj htk ht
  · unfold left
    refine Nat.le_trans (List.length_filter_le _ _) (by simp)
end
end Go.Mir
