/- Regions in order, statements, whole calls: the machine does what the mirror does. -/
import Derived.Test.YtlpfeikoniepiaaRRDoorMidDraw
import Derived.Test.YtlpfeikoniepiaaRRDoorMidLim
set_option linter.all false
namespace Go.Mir
theorem zip_fst {mq : List MOper} {ops : Array Oper} (h : mq.length = ops.toList.length) : ((mq.zip (precs ops.toList [])).zipIdx).map (·.1.1) = mq := by
  rw [← Function.comp_def (fun x : MOper × List Nat => x.1) (fun x : DItem => x.1), ← List.map_map, List.zipIdx_map_fst, List.map_fst_zip]
  rw [precs_length]
  simp at h ⊢
  omega
set_option linter.unusedVariables false
set_option linter.unusedSectionVars false
set_option linter.unusedSimpArgs false

section
variable {P : Program} {N ntmps : Nat} {σ0 : St} {g0 : Gh} {w0 : World} {e : Env} {σ : St} {a : Act} {w : World} {g : Gh} {run : Run} {esc : Nat → Bool} {base : Nat} {dst : Option Nat} {d : Dat} {e1 : Env} {σ1 : St}

/-- Operations in their order. -/
theorem ops_ok (hk : CallsOk P run) (h0 : LB (N - 1) g0) (hN : 0 < N) (hbase : base = σ0.length) {ops : Array Oper} {Q : Exit → Act → World → Prop} :
    ∀ {l : List Oper} {ms : List MOper} {k : Nat} {e : Env} {σ : St} {a : Act} {w : World} {g : Gh}, ops.toList.drop k = l → opsOf P ntmps ops l = some ms → Fr N ntmps σ0 g0 w0 e σ a w g → stepOps run esc base ms e σ = some (e1, σ1) →
      (∀ a' w' g', Fr N ntmps σ0 g0 w0 e1 σ1 a' w' g' → Q .normal a' w') → wpOps P ops Q (List.range' k l.length) a w
  | [], ms, k, e, σ, a, w, g, hdrop, hms, h, he, hQ => by
    simp only [opsOf, Option.some.injEq] at hms
    subst hms
    simp only [stepOps, Option.some.injEq, Prod.mk.injEq] at he
    obtain ⟨rfl, rfl⟩ := he
    exact hQ a w g h
  | o :: l, ms, k, e, σ, a, w, g, hdrop, hms, h, he, hQ => by
    simp only [opsOf, Option.bind_eq_some_iff] at hms
    obtain ⟨op, hop, mg, hmg, hms⟩ := hms
    split at hms
    · rename_i hd
      simp only [Option.bind_eq_some_iff, Option.some.injEq] at hms
      obtain ⟨ms', hms', rfl⟩ := hms
      simp only [stepOps, stepOp, Option.bind_eq_some_iff] at he
      obtain ⟨⟨e2, σ2⟩, ⟨b, hb, he2⟩, he⟩ := he
      have hok : ops[k]? = some o := by
        have : (ops.toList.drop k)[0]? = some o := by rw [hdrop]; rfl
        rw [List.getElem?_drop] at this
        simpa using this
      have hdrop' : ops.toList.drop (k + 1) = l := by
        have : ops.toList.drop (k + 1) = (ops.toList.drop k).drop 1 := by rw [List.drop_drop]
        rw [this, hdrop]
        rfl
      have hw := h.wanted hmg hb
      simp only [List.length_cons, List.range'_succ, wpOps, hok]
      have hdlt : ∀ s, o.dst = some s → s < ntmps := fun s hs => by simpa [dstOk, hs] using hd
      cases b with
      | false =>
        simp only [Bool.false_eq_true, if_false, Option.some.injEq, Prod.mk.injEq] at he2
        obtain ⟨rfl, rfl⟩ := he2
        rw [if_neg (by simp [hw])]
        have hl := h.left (dst := o.dst) (d := .undef) (v := undef) (by simp only [Rep]) (fun _ _ => trivial) rfl
        exact ops_ok hk h0 hN hbase hdrop' hms' (hl.fr h.defers h.tsize hdlt) he hQ
      | true =>
        simp only [if_true, Option.bind_eq_some_iff, Option.some.injEq, Prod.mk.injEq] at he2
        obtain ⟨⟨d, e3, σ3⟩, he3, rfl, rfl⟩ := he2
        rw [if_pos hw]
        refine .inl (op_ok hk h h0 hN hbase hop he3 fun v w' g' hl => ?_)
        exact ops_ok hk h0 hN hbase hdrop' hms' (hl.fr h.defers h.tsize hdlt) he hQ
    · cases hms

end

/-! ### statements -/
def MCode.bare : MCode → MCode
  | .region id ops draw _ => .region id ops draw []
  | .seq a b => .seq a.bare b.bare
  | .cond c a b => .cond c a.bare b.bare
  | .block id b => .block id b.bare
  | .loop b => .loop b.bare
  | c => c
theorem live_bare : ∀ (m : MCode) (out : List Nat) (xs : List (Nat × List Nat)) (rt : List Nat), (live m out xs rt).1.bare = m.bare
  | .skip, _, _, _ => rfl
  | .region _ _ _ _, _, _, _ => rfl
  | .seq a b, out, xs, rt => by simp only [live, MCode.bare, live_bare a, live_bare b]
  | .cond c a b, out, xs, rt => by simp only [live, MCode.bare, live_bare a, live_bare b]
  | .block id b, out, xs, rt => by simp only [live, MCode.bare, live_bare b]
  | .loop b, out, xs, rt => by simp only [live, MCode.bare, live_bare b]
  | .exit _, _, _, _ => rfl
  | .ret, _, _, _ => rfl

def Ex.on : Ex → Exit
  | .normal => .normal
  | .exit id => .exit id
  | .ret => .ret

section
variable {P : Program} {N ntmps : Nat} {σ0 : St} {g0 : Gh} {w0 : World} {run : Run} {esc : Nat → Bool}

theorem exec_ok (hk : CallsOk P run) (h0 : LB (N - 1) g0) (hN : 0 < N) (hu0 : ∀ id c, St.get σ0 id = some c → Dat.underL σ0.length c = true) {fuel : Nat} :
    ∀ (c : Code) {m m0 : MCode} {e : Env} {σ : St} {a : Act} {w : World} {g : Gh} {x : Ex} {e1 : Env} {σ1 : St} {Q : Exit → Act → World → Prop}, codeOf P ntmps c = some m0 → m.bare = m0.bare → drawsOk c m = true → Fr N ntmps σ0 g0 w0 e σ a w g →
      exec run esc (fun b => loopN b fuel) σ0.length m e σ = some (x, e1, σ1) → (∀ a' w' g', Fr N ntmps σ0 g0 w0 e1 σ1 a' w' g' → Q x.on a' w') → c.wp P Q a w
  | .skip, m, m0, e, σ, a, w, g, x, e1, σ1, Q, hc, hm, hdo, h, he, hQ => by
    simp only [codeOf, Option.some.injEq] at hc
    subst hc
    cases m <;> simp only [MCode.bare, reduceCtorEq] at hm
    simp only [exec, Option.some.injEq, Prod.mk.injEq] at he
    obtain ⟨rfl, rfl, rfl⟩ := he
    exact wp_skip (hQ a w g h)
  | .exit i, m, m0, e, σ, a, w, g, x, e1, σ1, Q, hc, hm, hdo, h, he, hQ => by
    simp only [codeOf, Option.some.injEq] at hc
    subst hc
    cases m <;> simp only [MCode.bare, reduceCtorEq, MCode.exit.injEq] at hm
    subst hm
    simp only [exec, Option.some.injEq, Prod.mk.injEq] at he
    obtain ⟨rfl, rfl, rfl⟩ := he
    exact wp_exit (hQ a w g h)
  | .ret, m, m0, e, σ, a, w, g, x, e1, σ1, Q, hc, hm, hdo, h, he, hQ => by
    simp only [codeOf, Option.some.injEq] at hc
    subst hc
    cases m <;> simp only [MCode.bare, reduceCtorEq] at hm
    simp only [exec, Option.some.injEq, Prod.mk.injEq] at he
    obtain ⟨rfl, rfl, rfl⟩ := he
    exact wp_ret (hQ a w g h)
  | .region id ops draw, m, m0, e, σ, a, w, g, x, e1, σ1, Q, hc, hm, hdo, h, he, hQ => by
    simp only [codeOf] at hc
    split at hc
    · rename_i hd
      subst hd
      split at hc
      · rename_i hmix
        simp only [Option.map_eq_some_iff] at hc
        obtain ⟨ms, hms, rfl⟩ := hc
        cases m <;> simp only [MCode.bare, reduceCtorEq, MCode.region.injEq] at hm
        obtain ⟨rfl, rfl, rfl, _⟩ := hm
        simp only [exec, Option.bind_eq_some_iff, Option.some.injEq, Prod.mk.injEq] at he
        obtain ⟨⟨e2, σ2⟩, he2, rfl, rfl, rfl⟩ := he
        exact draw_ok hk h0 hN hu0 hmix (zip_fst (opsDraw_ok hms).1) (by simpa [drawsOk] using hdo) hms h he2 hQ
      · cases hc
    · rename_i hd
      simp only [Bool.not_eq_true] at hd
      subst hd
      simp only [Option.map_eq_some_iff] at hc
      obtain ⟨ms, hms, rfl⟩ := hc
      cases m <;> simp only [MCode.bare, reduceCtorEq, MCode.region.injEq] at hm
      obtain ⟨rfl, rfl, rfl, _⟩ := hm
      simp only [exec, Option.bind_eq_some_iff, Option.some.injEq, Prod.mk.injEq] at he
      obtain ⟨⟨e2, σ2⟩, he2, rfl, rfl, rfl⟩ := he
      refine wp_region ?_
      have := ops_ok (Q := Q) hk h0 hN rfl (k := 0) rfl hms h he2 fun a' w' g' h' => hQ a' w' g' (h'.gc hu0 _)
      rwa [← List.range_eq_range', Array.length_toList] at this
  | .seq c1 c2, m, m0, e, σ, a, w, g, x, e1, σ1, Q, hc, hm, hdo, h, he, hQ => by
    simp only [codeOf, Option.bind_eq_bind, Option.bind_eq_some_iff, Option.pure_def, Option.some.injEq] at hc
    obtain ⟨m1, hm1, m2, hm2, rfl⟩ := hc
    cases m <;> simp only [MCode.bare, reduceCtorEq, MCode.seq.injEq] at hm
    obtain ⟨hb1, hb2⟩ := hm
    simp only [drawsOk, Bool.and_eq_true] at hdo
    simp only [exec, Option.bind_eq_some_iff] at he
    obtain ⟨⟨x1, e2, σ2⟩, he1, he2⟩ := he
    refine wp_seq (exec_ok hk h0 hN hu0 c1 hm1 hb1 hdo.1 h he1 fun a' w' g' h' => ?_)
    cases x1 with
    | normal => exact exec_ok hk h0 hN hu0 c2 hm2 hb2 hdo.2 h' he2 hQ
    | exit i =>
      simp only [Option.some.injEq, Prod.mk.injEq] at he2
      obtain ⟨rfl, rfl, rfl⟩ := he2
      exact hQ a' w' g' h'
    | ret =>
      simp only [Option.some.injEq, Prod.mk.injEq] at he2
      obtain ⟨rfl, rfl, rfl⟩ := he2
      exact hQ a' w' g' h'
  | .cond cc c1 c2, m, m0, e, σ, a, w, g, x, e1, σ1, Q, hc, hm, hdo, h, he, hQ => by
    simp only [codeOf, Option.bind_eq_bind, Option.bind_eq_some_iff, Option.pure_def, Option.some.injEq] at hc
    obtain ⟨mc, hmc, m1, hm1, m2, hm2, rfl⟩ := hc
    cases m <;> simp only [MCode.bare, reduceCtorEq, MCode.cond.injEq] at hm
    obtain ⟨rfl, hb1, hb2⟩ := hm
    simp only [drawsOk, Bool.and_eq_true] at hdo
    simp only [exec, Option.bind_eq_some_iff] at he
    obtain ⟨dc, hdc, he⟩ := he
    have hrc := (h.arg hmc hdc).rep
    cases dc <;> simp only [reduceCtorEq] at he
    rename_i t
    simp only [Rep] at hrc
    refine wp_cond hrc ?_
    cases t with
    | true => exact exec_ok hk h0 hN hu0 c1 hm1 hb1 hdo.1 h (by simpa using he) hQ
    | false => exact exec_ok hk h0 hN hu0 c2 hm2 hb2 hdo.2 h (by simpa using he) hQ
  | .block i c, m, m0, e, σ, a, w, g, x, e1, σ1, Q, hc, hm, hdo, h, he, hQ => by
    simp only [codeOf, Option.map_eq_some_iff] at hc
    obtain ⟨m1, hm1, rfl⟩ := hc
    cases m <;> simp only [MCode.bare, reduceCtorEq, MCode.block.injEq] at hm
    obtain ⟨rfl, hb⟩ := hm
    simp only [exec, Option.bind_eq_some_iff] at he
    obtain ⟨⟨x1, e2, σ2⟩, he1, he2⟩ := he
    refine wp_block (exec_ok hk h0 hN hu0 c hm1 hb (by simpa only [drawsOk] using hdo) h he1 fun a' w' g' h' => ?_)
    cases x1 with
    | normal =>
      simp only [Option.some.injEq, Prod.mk.injEq] at he2
      obtain ⟨rfl, rfl, rfl⟩ := he2
      exact hQ a' w' g' h'
    | exit j =>
      simp only [Ex.on, Exit.inBlock]
      simp only at he2
      split at he2
      · rename_i hj
        simp only [Option.some.injEq, Prod.mk.injEq] at he2
        obtain ⟨rfl, rfl, rfl⟩ := he2
        rw [if_pos hj]
        exact hQ a' w' g' h'
      · rename_i hj
        simp only [Option.some.injEq, Prod.mk.injEq] at he2
        obtain ⟨rfl, rfl, rfl⟩ := he2
        rw [if_neg hj]
        exact hQ a' w' g' h'
    | ret =>
      simp only [Option.some.injEq, Prod.mk.injEq] at he2
      obtain ⟨rfl, rfl, rfl⟩ := he2
      exact hQ a' w' g' h'
  | .loop c, m, m0, e, σ, a, w, g, x, e1, σ1, Q, hc, hm, hdo, h, he, hQ => by
    simp only [codeOf, Option.map_eq_some_iff] at hc
    obtain ⟨m1, hm1, rfl⟩ := hc
    cases m <;> simp only [MCode.bare, reduceCtorEq, MCode.loop.injEq] at hm
    rename_i mb
    simp only [exec] at he
    have key : ∀ n {e : Env} {σ : St} {a : Act} {w : World} {g : Gh}, Fr N ntmps σ0 g0 w0 e σ a w g → loopN (exec run esc (fun b => loopN b fuel) σ0.length mb) n e σ = some (x, e1, σ1) →
        ∀ (b : Frame) (k : List Item) (cs : List Frame), ∃ ex a' w', Q ex a' w' ∧ Arrives P (lone (b.at a (.code c :: .inLoop c :: k)) cs w) b k cs ex a' w' := by
      intro n
      induction n with
      | zero => intro e σ a w g h he; simp [loopN] at he
      | succ n ih =>
        intro e σ a w g h he b k cs
        simp only [loopN, Option.bind_eq_some_iff] at he
        obtain ⟨⟨x1, e2, σ2⟩, he1, he2⟩ := he
        cases x1 with
        | normal =>
          have hw := exec_ok (Q := fun ex a' w' => ex = .normal ∧ ∃ g', Fr N ntmps σ0 g0 w0 e2 σ2 a' w' g') hk h0 hN hu0 c hm1 hm (by simpa only [drawsOk] using hdo) h he1 fun a' w' g' h' => ⟨rfl, g', h'⟩
          obtain ⟨ex, a', w', ⟨rfl, g', h'⟩, harr⟩ := hw b (.inLoop c :: k) cs
          obtain ⟨ex2, a2, w2, hq2, harr2⟩ := ih h' he2 b k cs
          exact ⟨ex2, a2, w2, hq2, .of_steps (Steps.trans harr (.one step_inLoop)) harr2⟩
        | exit i =>
          simp only [Option.some.injEq, Prod.mk.injEq] at he2
          obtain ⟨rfl, rfl, rfl⟩ := he2
          have hw := exec_ok (Q := fun ex a' w' => ex = .exit i ∧ Q (.exit i) a' w') hk h0 hN hu0 c hm1 hm (by simpa only [drawsOk] using hdo) h he1 fun a' w' g' h' => ⟨rfl, hQ a' w' g' h'⟩
          obtain ⟨ex, a', w', ⟨rfl, hq⟩, harr⟩ := hw b (.inLoop c :: k) cs
          exact ⟨_, a', w', hq, .pass (x := .inLoop c) rfl (fun _ _ => .inl (by simp)) harr⟩
        | ret =>
          simp only [Option.some.injEq, Prod.mk.injEq] at he2
          obtain ⟨rfl, rfl, rfl⟩ := he2
          have hw := exec_ok (Q := fun ex a' w' => ex = .ret ∧ Q .ret a' w') hk h0 hN hu0 c hm1 hm (by simpa only [drawsOk] using hdo) h he1 fun a' w' g' h' => ⟨rfl, hQ a' w' g' h'⟩
          obtain ⟨ex, a', w', ⟨rfl, hq⟩, harr⟩ := hw b (.inLoop c :: k) cs
          exact ⟨_, a', w', hq, .pass (x := .inLoop c) rfl (fun _ _ => .inl (by simp)) harr⟩
    intro b k cs
    obtain ⟨ex, a', w', hq, harr⟩ := key fuel h he b k cs
    exact ⟨ex, a', w', hq, .of_steps (.one step_loop) harr⟩
  | .label _, m, m0, e, σ, a, w, g, x, e1, σ1, Q, hc, hm, hdo, h, he, hQ => by simp [codeOf] at hc
  | .goto _, m, m0, e, σ, a, w, g, x, e1, σ1, Q, hc, hm, hdo, h, he, hQ => by simp [codeOf] at hc
  | .rangeFunc .., m, m0, e, σ, a, w, g, x, e1, σ1, Q, hc, hm, hdo, h, he, hQ => by simp [codeOf] at hc
  | .scope _, m, m0, e, σ, a, w, g, x, e1, σ1, Q, hc, hm, hdo, h, he, hQ => by simp [codeOf] at hc
  | .refuse _, m, m0, e, σ, a, w, g, x, e1, σ1, Q, hc, hm, hdo, h, he, hQ => by simp [codeOf] at hc
end
end Go.Mir
