/- Regions whose order is open: what holds after any part of them. -/
import Derived.Test.YtlpfeikoniepiaaRRMirDraw3
set_option linter.all false
namespace Go.Mir
set_option linter.unusedVariables false
set_option linter.unusedSectionVars false
set_option linter.unusedSimpArgs false

theorem stepOp_env {run : Run} {esc : Nat → Bool} {base : Nat} {m : MOper} {e e1 : Env} {σ σ1 : St} (hd : drawable m.op = true) (h : stepOp run esc base m e σ = some (e1, σ1)) {t : Nat} (h1 : m.dst ≠ some t) (h2 : t ∉ takesOf m.op) : Env.get e1 t = Env.get e t := by
  have put : ∀ (e : Env) d, Env.get (putD e m.dst d) t = Env.get e t := fun e d => by
    unfold putD
    cases hm : m.dst with
    | none => rfl
    | some s => exact Env.get_put_other _ _ fun e => h1 (by rw [hm, e])
  simp only [stepOp, Option.bind_eq_some_iff] at h
  obtain ⟨b, hb, h⟩ := h
  cases b with
  | false =>
    simp only [Bool.false_eq_true, if_false, Option.some.injEq, Prod.mk.injEq] at h
    rw [← h.1, put]
  | true =>
    simp only [if_true, Option.bind_eq_some_iff, Option.some.injEq, Prod.mk.injEq] at h
    obtain ⟨⟨d, e2, σ2⟩, he, rfl, rfl⟩ := h
    obtain ⟨_, _, _, h3⟩ := evalOp_env hd (fun _ _ => rfl) he
    rw [put, h3 t h2]

/-- the states, one after the other -/
theorem steps_states {run : Run} {esc : Nat → Bool} {base : Nat} : ∀ {ms : List MOper} {e e1 : Env} {σ σ1 : St}, stepOps run esc base ms e σ = some (e1, σ1) →
    ∃ (E : Nat → Env) (Z : Nat → St), E 0 = e ∧ Z 0 = σ ∧ E ms.length = e1 ∧ Z ms.length = σ1 ∧ ∀ (k : Nat) (m : MOper), ms[k]? = some m → stepOp run esc base m (E k) (Z k) = some (E (k + 1), Z (k + 1))
  | [], e, e1, σ, σ1, h => by
    simp only [stepOps, Option.some.injEq, Prod.mk.injEq] at h
    obtain ⟨rfl, rfl⟩ := h
    exact ⟨fun _ => e, fun _ => σ, rfl, rfl, rfl, rfl, by simp⟩
  | m :: ms, e, e1, σ, σ1, h => by
    simp only [stepOps, Option.bind_eq_some_iff] at h
    obtain ⟨⟨e2, σ2⟩, h1, h2⟩ := h
    obtain ⟨E, Z, a1, a2, a3, a4, a5⟩ := steps_states h2
    refine ⟨fun k => match k with | 0 => e | k + 1 => E k, fun k => match k with | 0 => σ | k + 1 => Z k, rfl, rfl, a3, a4, fun k m' hk => ?_⟩
    cases k with
    | zero =>
      simp only [List.getElem?_cons_zero, Option.some.injEq] at hk
      subst hk
      simp only [a1, a2]
      exact h1
    | succ k => exact a5 k m' (by simpa using hk)

def rd (ms : List MOper) (keep : List Nat) (j : Nat) : List Nat := match ms[j]? with
  | some m => readsOf m
  | none => keep

section
variable {P : Program} {N ntmps : Nat} {σ0 : St} {g0 : Gh} {w0 : World} {run : Run} {esc : Nat → Bool} {ops : Array Oper} {ms : List MOper} {keep : List Nat} {E : Nat → Env} {Z : Nat → St}

/-- a variable that is laid already, but not told -/
def Pend (w0 : World) (Z : St) (m : MOper) (a : Act) (w : World) (g : Gh) (b : Nat) : Prop :=
  ∃ zero vs T t, m.op = .alloc zero ∧ m.dst = some t ∧ a.tmps[t]? = some (.pointer (some ⟨b, 0, none⟩)) ∧ w.heap[b]? = some (.cells (vs : List Value).toArray T (0, 0)) ∧ RepL g w zero vs ∧ w0.heap.size ≤ b ∧ g.prot b = 0 ∧ g.lock b = none ∧
    ∀ id, id < Z.length → g.ρ id ≠ b

structure Inv (N ntmps : Nat) (σ0 : St) (g0 : Gh) (w0 : World) (ms : List MOper) (keep : List Nat) (E : Nat → Env) (Z : Nat → St) (S : Nat → Prop) (c : Nat) (e : Env) (a : Act) (w : World) (g : Gh) (β : Nat → Nat) : Prop where
  fr : Fr N ntmps σ0 g0 w0 e (Z c) a w g
  cle : c ≤ ms.length
  cutW : ∀ (k : Nat) (m : MOper), ms[k]? = some m → isW m.op = true → (S k ↔ k < c)
  cutA : ∀ (k : Nat) (m : MOper), ms[k]? = some m → isAlloc m.op = true → k < c → S k
  agree : ∀ j, (j < ms.length → ¬ S j) → j ≤ ms.length → ∀ t ∈ rd ms keep j, (∀ (i : Nat) (m : MOper), i < j → ms[i]? = some m → m.dst = some t → S i ∧ (isAlloc m.op = true → i < c)) → Env.get e t = Env.get (E j) t
  pend : ∀ (i : Nat) (m : MOper), ms[i]? = some m → isAlloc m.op = true → S i → c ≤ i → Pend w0 (Z c) m a w g (β i)
  pinj : ∀ (i j : Nat) (m m' : MOper), ms[i]? = some m → ms[j]? = some m' → isAlloc m.op = true → isAlloc m'.op = true → S i → S j → c ≤ i → c ≤ j → i ≠ j → β i ≠ β j

section
variable (chk : Chk ops ms keep) (hst : ∀ (k : Nat) (m : MOper), ms[k]? = some m → stepOp run esc σ0.length m (E k) (Z k) = some (E (k + 1), Z (k + 1)))
include chk hst

theorem E_keep {t i : Nat} : ∀ {j : Nat}, i ≤ j → j ≤ ms.length → (∀ (k : Nat) (m : MOper), i ≤ k → k < j → ms[k]? = some m → m.dst ≠ some t ∧ t ∉ takesOf m.op) → Env.get (E j) t = Env.get (E i) t := by
  intro j
  induction j with
  | zero => intro h _ _; rw [show i = 0 by omega]
  | succ j ih =>
    intro hij hj h
    by_cases he : i = j + 1
    · rw [he]
    · have hjl : j < ms.length := by omega
      have hm : ms[j]? = some ms[j] := List.getElem?_eq_getElem hjl
      obtain ⟨h1, h2⟩ := h j _ (by omega) (by omega) hm
      rw [stepOp_env (chk.drw j _ hm) (hst j _ hm) h1 h2]
      exact ih (by omega) (by omega) fun k m hk1 hk2 => h k m hk1 (by omega)

/-- one more is done: what the others read -/
theorem agree_step {S : Nat → Prop} {c c' i : Nat} {m : MOper} {e e2 : Env} (hS' : Closed ops fun k => k = i ∨ S k) (hm : ms[i]? = some m) (hna : isAlloc m.op = false)
    (h : ∀ j, (j < ms.length → ¬ S j) → j ≤ ms.length → ∀ t ∈ rd ms keep j, (∀ (i : Nat) (m : MOper), i < j → ms[i]? = some m → m.dst = some t → S i ∧ (isAlloc m.op = true → i < c)) → Env.get e t = Env.get (E j) t)
    (h1 : ∀ t, m.dst ≠ some t → t ∉ takesOf m.op → Env.get e2 t = Env.get e t) (h2 : ∀ t, m.dst = some t → Env.get e2 t = Env.get (E (i + 1)) t)
    (hc : ∀ (k : Nat) (m' : MOper), ms[k]? = some m' → isAlloc m'.op = true → k < c' → k < c) :
    ∀ j, (j < ms.length → ¬ (j = i ∨ S j)) → j ≤ ms.length → ∀ t ∈ rd ms keep j, (∀ (k : Nat) (m : MOper), k < j → ms[k]? = some m → m.dst = some t → (k = i ∨ S k) ∧ (isAlloc m.op = true → k < c')) → Env.get e2 t = Env.get (E j) t := by
  intro j hj hjl t ht hw
  have hil : i < ms.length := (List.getElem?_eq_some_iff.1 hm).1
  have hji : j ≠ i := by
    rintro rfl
    exact hj hil (.inl rfl)
  -- nobody takes what j reads
  have notake : ∀ (k : Nat) (m' : MOper), k ≠ j → ms[k]? = some m' → t ∉ takesOf m'.op := by
    intro k m' hkj hm' htk
    unfold rd at ht
    cases hmj : ms[j]? with
    | none => rw [hmj] at ht; exact chk.tkk k m' t hm' htk ht
    | some mj => rw [hmj] at ht; exact chk.tk k j m' mj t hkj hm' hmj htk ht
  by_cases hd : m.dst = some t
  · by_cases hlt : i < j
    · rw [h2 t hd]
      refine (E_keep chk hst (i := i + 1) hlt hjl fun k m' hk1 hk2 hm' => ⟨chk.ww i k m m' t (by omega) hm hm' hd, notake k m' (by omega) hm'⟩).symm
    · exfalso
      have hjlt : j < ms.length := by omega
      have hmj : ms[j]? = some ms[j] := List.getElem?_eq_getElem hjlt
      unfold rd at ht
      rw [hmj] at ht
      exact hj hjlt ((chk.rw _ hS' i j m _ t (Ne.symm hji) hm hmj hd ht).2 (by omega) (.inl rfl))
  · rw [h1 t hd (notake i m (Ne.symm hji) hm)]
    refine h j (fun hl hs => hj hl (.inr hs)) hjl t ht fun k m' hk hm' hd' => ?_
    obtain ⟨h3, h4⟩ := hw k m' hk hm' hd'
    refine ⟨h3.resolve_left ?_, fun ha => hc k m' hm' ha (h4 ha)⟩
    rintro rfl
    rw [hm] at hm'
    injection hm' with hm'
    subst hm'
    exact hd hd'

/-- what an operation reads, when its turn has come -/
theorem agree_now {S : Nat → Prop} {c i : Nat} {m : MOper} {e : Env} (hS' : Closed ops fun k => k = i ∨ S k) (hm : ms[i]? = some m) (hns : ¬ S i)
    (h : ∀ j, (j < ms.length → ¬ S j) → j ≤ ms.length → ∀ t ∈ rd ms keep j, (∀ (i : Nat) (m : MOper), i < j → ms[i]? = some m → m.dst = some t → S i ∧ (isAlloc m.op = true → i < c)) → Env.get e t = Env.get (E j) t)
    (hW : isW m.op = true → i ≤ c) : ∀ t ∈ readsOf m, Env.get e t = Env.get (E i) t := by
  intro t ht
  have hil : i < ms.length := (List.getElem?_eq_some_iff.1 hm).1
  refine h i (fun _ => hns) (by omega) t (by unfold rd; rw [hm]; exact ht) fun k m' hk hm' hd => ⟨?_, fun ha => ?_⟩
  · exact ((chk.rw _ hS' k i m' m t (by omega) hm' hm hd ht).1 hk (.inl rfl)).resolve_left (by omega)
  · by_cases hw : isW m.op = true
    · have := hW hw; omega
    · exact absurd ht (chk.al k i m' m t (by omega) hm' hm ha (by simpa using hw) hd)

theorem Z_same {i : Nat} {m : MOper} (hm : ms[i]? = some m) (hw : isW m.op = false) (ha : isAlloc m.op = false) : Z (i + 1) = Z i := by
  have h := hst i m hm
  simp only [stepOp, Option.bind_eq_some_iff] at h
  obtain ⟨b, hb, h⟩ := h
  cases b with
  | false =>
    simp only [Bool.false_eq_true, if_false, Option.some.injEq, Prod.mk.injEq] at h
    exact h.2.symm
  | true =>
    simp only [if_true, Option.bind_eq_some_iff, Option.some.injEq, Prod.mk.injEq] at h
    obtain ⟨⟨d, e2, σ2⟩, he, _, hz⟩ := h
    rw [← hz]
    by_cases hr : isR m.op = true
    · have hd := chk.drw i m hm
      cases ho : m.op <;> rw [ho] at hr <;> simp only [isR, Bool.false_eq_true] at hr
      rename_i mv g n x
      rw [ho] at hd he
      cases mv with
      | true => simp [drawable] at hd
      | false =>
        simp only [evalOp, Option.bind_eq_some_iff, Bool.false_eq_true, if_false, Option.some.injEq, Prod.mk.injEq] at he
        obtain ⟨_, _, _, _, _, _, h⟩ := he
        exact h.symm
    · exact (evalOp_free (chk.drw i m hm) hw (by simpa using hr) ha he).1

/-- One step of what is told. -/
theorem adopt1 {S : Nat → Prop} {c : Nat} {e : Env} {a : Act} {w : World} {g : Gh} {β : Nat → Nat} (hS : Closed ops S) (h : Inv N ntmps σ0 g0 w0 ms keep E Z S c e a w g β) {m : MOper} (hm : ms[c]? = some m) (hw : isW m.op = false) (ha : isAlloc m.op = true → S c) :
    ∃ e' g', Inv N ntmps σ0 g0 w0 ms keep E Z S (c + 1) e' a w g' β := by
  have hcl : c < ms.length := (List.getElem?_eq_some_iff.1 hm).1
  have cutW' : ∀ (k : Nat) (m : MOper), ms[k]? = some m → isW m.op = true → (S k ↔ k < c + 1) := fun k m' hm' hw' => by
    rw [h.cutW k m' hm' hw']
    have : k ≠ c := by rintro rfl; rw [hm] at hm'; injection hm' with e; subst e; rw [hw] at hw'; cases hw'
    omega
  by_cases hal : isAlloc m.op = true
  · have hsc := ha hal
    obtain ⟨hg, ⟨t, ht⟩, z, hz, hsafe, hun⟩ := chk.alo c m hm hal
    obtain ⟨zero, vs, T, t', p1, p2, p3, p4, p5, p6, p7, p8, p9⟩ := h.pend c m hm hal hsc (Nat.le_refl _)
    rw [ht] at p2
    injection p2 with p2
    subst p2
    rw [hz] at p1
    injection p1 with p1
    subst p1
    -- the mirror's step
    have hstep := hst c m hm
    have hZ : Z (c + 1) = z :: Z c ∧ E (c + 1) = Env.put (E c) t (.ptr (Z c).length 0) := by
      simp only [stepOp, hg, wantedD, Option.bind_some, if_true, hz, evalOp, Option.some.injEq, Prod.mk.injEq] at hstep
      exact ⟨hstep.2.symm, by rw [← hstep.1, ht]; rfl⟩
    have hlen : (Z (c + 1)).length = (Z c).length + 1 := by rw [hZ.1]; rfl
    have hbl : β c < w.heap.size := by
      rcases Nat.lt_or_ge (β c) w.heap.size with h' | h'
      · exact h'
      · simp [Array.getElem?_eq_none h'] at p4
    let g' : Gh := { g with ρ := fun id => if id = (Z c).length then β c else g.ρ id }
    have hρ : ∀ id, id < (Z c).length → g'.ρ id = g.ρ id := fun id hid => if_neg (by omega)
    have hρn : g'.ρ (Z c).length = β c := if_pos rfl
    have hext : Ext (Z c).length g w g' w := ⟨fun _ _ _ _ h => h, fun _ => Nat.le_refl _, hρ⟩
    have own : ∀ π d v, Own g w π d v → Own g' w π d v := fun π d v ho => ho.same fun b i hb => ⟨rfl, rfl, rfl⟩
    refine ⟨Env.put e t (.ptr (Z c).length 0), g', ⟨⟨fun s d hd => ?_, ?_, ?_, h.fr.lb, h.fr.defers, h.fr.tsize⟩, by omega, cutW', fun k m' hm' ha' hk => ?_, ?_, ?_, ?_⟩⟩
    · rw [hlen]
      by_cases hst' : s = t
      · subst hst'
        rw [Env.get_put_same] at hd
        injection hd with hd
        subst hd
        exact ⟨_, p3, by simp only [Rep, hρn], trivial, by simp [Dat.under]⟩
      · rw [Env.get_put_other _ _ hst'] at hd
        obtain ⟨v, hv, hr, ho, hu⟩ := h.fr.env s d hd
        exact ⟨v, hv, Rep_ext hext _ _ hu hr, own _ _ _ ho, under_mono (by omega) _ hu⟩
    · rw [hZ.1]
      refine ⟨fun id cc hcc => ?_, fun id cc hcc => ?_, fun i j hi hj hij => ?_, fun id hid => ?_, h.fr.st.fresh⟩
      · simp only [St.get_nil, St.get_cons] at hcc
        split at hcc
        · rename_i hid
          injection hcc with hcc
          subst hcc
          refine ⟨vs, T, by rw [hid, hρn]; exact p4, RepL_ext (hext.mono (Nat.zero_le _)) _ _ hun p5, fun i d v hd hv => ?_⟩
          have hs := List.all_eq_true.1 hsafe d (List.mem_of_getElem? hd)
          obtain ⟨v', hv', hr'⟩ := RepL_get (RepL_ext (hext.mono (Nat.zero_le _)) _ _ hun p5) hd
          rw [hv] at hv'
          injection hv' with hv'
          subst hv'
          exact ⟨safe_cell hs, Own_safe hr' hs⟩
        · have hlt := St.get_lt hcc
          obtain ⟨us, T', q1, q2, q3⟩ := h.fr.st.var id cc hcc
          refine ⟨us, T', by rw [hρ id hlt]; exact q1, RepL_ext hext _ _ (h.fr.st.under id cc hcc) q2, fun i d v hd hv => ?_⟩
          obtain ⟨r1, r2⟩ := q3 i d v hd hv
          exact ⟨r1, own _ _ _ r2⟩
      · simp only [St.get_nil, St.get_cons] at hcc
        split at hcc
        · injection hcc with hcc
          subst hcc
          exact underL_mono (Nat.zero_le _) _ hun
        · exact underL_mono (by simp) _ (h.fr.st.under id cc hcc)
      · simp only [List.length_cons] at hi hj
        by_cases h1 : i = (Z c).length <;> by_cases h2 : j = (Z c).length
        · omega
        · exfalso
          rw [h1, hρn, hρ j (by omega)] at hij
          exact p9 j (by omega) hij.symm
        · exfalso
          rw [h2, hρn, hρ i (by omega)] at hij
          exact p9 i (by omega) hij
        · rw [hρ i (by omega), hρ j (by omega)] at hij
          exact h.fr.st.inj i j (by omega) (by omega) hij
      · simp only [List.length_cons] at hid
        by_cases h1 : id = (Z c).length
        · rw [h1, hρn]; exact ⟨p7, p8⟩
        · rw [hρ id (by omega)]; exact h.fr.st.free id (by omega)
    · have hch := h.fr.ch
      refine ⟨hch.os, hch.tape, hch.output, hch.size, hch.ext.trans (hext.mono hch.len), by rw [hlen]; have := hch.len; omega, fun b hb => hch.keep b hb, fun id h1 h2 => ?_, fun n hn hh id cc hid hcc => ?_⟩
      · rw [hlen] at h2
        by_cases h3 : id = (Z c).length
        · rw [h3, hρn]; exact p6
        · rw [hρ id (by omega)]; exact hch.new id h1 (by omega)
      · rw [hZ.1, St.get_cons_old (by have := hch.len; omega)] at hcc
        exact hch.low n hn hh id cc hid hcc
    · by_cases hkc : k = c
      · rw [hkc]; exact hsc
      · exact h.cutA k m' hm' ha' (by omega)
    · -- what is read
      intro j hj hjl s hs hwr
      by_cases hst' : s = t
      · subst hst'
        rw [Env.get_put_same]
        by_cases hlt : c < j
        · have h3 : Env.get (E j) s = Env.get (E (c + 1)) s := by
            refine E_keep chk hst (i := c + 1) hlt hjl fun k m' hk1 hk2 hm' => ⟨chk.ww c k m m' s (by omega) hm hm' ht, fun htk => ?_⟩
            unfold rd at hs
            cases hmj : ms[j]? with
            | none => rw [hmj] at hs; exact chk.tkk k m' s hm' htk hs
            | some mj => rw [hmj] at hs; exact chk.tk k j m' mj s (by omega) hm' hmj htk hs
          rw [h3, hZ.2, Env.get_put_same]
        · exfalso
          by_cases hjc : j = c
          · subst hjc
            unfold rd at hs
            rw [hm] at hs
            simp [readsOf, hz, opR, hg] at hs
          · have hjlt : j < ms.length := by omega
            have hmj : ms[j]? = some ms[j] := List.getElem?_eq_getElem hjlt
            unfold rd at hs
            rw [hmj] at hs
            exact hj hjlt ((chk.rw _ hS c j m _ s (Ne.symm hjc) hm hmj ht hs).2 (by omega) hsc)
      · rw [Env.get_put_other _ _ hst']
        refine h.agree j hj hjl s hs fun k m' hk hm' hd' => ?_
        obtain ⟨h3, h4⟩ := hwr k m' hk hm' hd'
        refine ⟨h3, fun ha' => ?_⟩
        have := h4 ha'
        have hkc : k ≠ c := by
          rintro rfl
          rw [hm] at hm'
          injection hm' with e
          subst e
          rw [ht] at hd'
          injection hd' with hd'
          exact hst' hd'.symm
        omega
    · intro i m' hm' ha' hsi hci
      obtain ⟨zero, vs', T', t', q1, q2, q3, q4, q5, q6, q7, q8, q9⟩ := h.pend i m' hm' ha' hsi (by omega)
      obtain ⟨_, _, z', hz', _, hun'⟩ := chk.alo i m' hm' ha'
      rw [hz'] at q1
      injection q1 with q1
      subst q1
      refine ⟨z', vs', T', t', hz', q2, q3, q4, RepL_ext (hext.mono (Nat.zero_le _)) _ _ hun' q5, q6, q7, q8, fun id hid => ?_⟩
      rw [hlen] at hid
      by_cases h1 : id = (Z c).length
      · rw [h1, hρn]; exact h.pinj c i m m' hm hm' hal ha' hsc hsi (Nat.le_refl _) (by omega) (by omega)
      · rw [hρ id (by omega)]; exact q9 id (by omega)
    · exact fun i j m1 m2 h1 h2 h3 h4 h5 h6 h7 h8 => h.pinj i j m1 m2 h1 h2 h3 h4 h5 h6 (by omega) (by omega)
  · have hal' : isAlloc m.op = false := by simpa using hal
    have hZ := Z_same chk hst hm hw hal'
    have nota : ∀ (k : Nat) (m' : MOper), ms[k]? = some m' → isAlloc m'.op = true → k ≠ c := fun k m' hm' ha' e => by
      subst e
      rw [hm] at hm'
      injection hm' with e
      subst e
      exact hal ha'
    refine ⟨e, g, ⟨by rw [hZ]; exact h.fr, by omega, cutW', fun k m' hm' ha' hk => h.cutA k m' hm' ha' (by have := nota k m' hm' ha'; omega), fun j hj hjl t ht hwr => h.agree j hj hjl t ht fun k m' hk hm' hd' => ?_, fun i m' hm' ha' hsi hci => ?_, fun i j m1 m2 h1 h2 h3 h4 h5 h6 h7 h8 => h.pinj i j m1 m2 h1 h2 h3 h4 h5 h6 (by omega) (by omega)⟩⟩
    · obtain ⟨h3, h4⟩ := hwr k m' hk hm' hd'
      exact ⟨h3, fun ha' => by have := nota k m' hm' ha'; have := h4 ha'; omega⟩
    · rw [hZ]; exact h.pend i m' hm' ha' hsi (by omega)

theorem adopt {S : Nat → Prop} (hS : Closed ops S) {a : Act} {w : World} {β : Nat → Nat} : ∀ {k c : Nat} {e : Env} {g : Gh}, Inv N ntmps σ0 g0 w0 ms keep E Z S c e a w g β → c ≤ k → k ≤ ms.length →
    (∀ (i : Nat) (m : MOper), c ≤ i → i < k → ms[i]? = some m → isW m.op = false ∧ (isAlloc m.op = true → S i)) → ∃ e' g', Inv N ntmps σ0 g0 w0 ms keep E Z S k e' a w g' β := by
  intro k
  induction k with
  | zero => intro c e g h hc _ _; rw [show c = 0 by omega] at h; exact ⟨e, g, h⟩
  | succ k ih =>
    intro c e g h hc hk hh
    by_cases hck : c = k + 1
    · rw [hck] at h; exact ⟨e, g, h⟩
    · obtain ⟨e1, g1, h1⟩ := ih h (by omega) (by omega) fun i m h1 h2 => hh i m h1 (by omega)
      have hm : ms[k]? = some ms[k] := List.getElem?_eq_getElem (by omega)
      obtain ⟨h2, h3⟩ := hh k _ (by omega) (by omega) hm
      exact adopt1 chk hst hS h1 hm h2 h3
end
end
end Go.Mir
