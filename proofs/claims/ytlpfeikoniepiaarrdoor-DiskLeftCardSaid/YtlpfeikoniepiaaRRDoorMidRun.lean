/- Whole calls: what the mirror's table gives is what the program's functions do. -/
import Derived.Test.YtlpfeikoniepiaaRRDoorMidSound
set_option linter.all false
namespace Go.Mir
set_option linter.unusedVariables false
set_option linter.unusedSectionVars false
set_option linter.unusedSimpArgs false

/-- Every function of the table is the program's own, translated. -/
def TabOk (P : Program) (tab : Tab) : Prop := ∀ f fd, tab f = some fd → ∃ fd', compile P f = some fd' ∧ fd.body = fd'.body ∧ fd.res = fd'.res

theorem get_bindArgs : ∀ {l : List Dat} {i s : Nat} {d : Dat}, Env.get (bindArgs i l) s = some d → i ≤ s ∧ l[s - i]? = some d
  | [], i, s, d, h => by simp [bindArgs, Env.get_nil, Env.get_cons] at h
  | c :: r, i, s, d, h => by
    simp only [bindArgs, Env.get_nil, Env.get_cons] at h
    split at h
    · rename_i his
      subst his
      injection h with h
      subst h
      simp
    · obtain ⟨h1, h2⟩ := get_bindArgs h
      refine ⟨by omega, ?_⟩
      rw [show s - i = (s - (i + 1)) + 1 by omega]
      simpa using h2

/-- where a returned temporary's room goes -/
def retTo (M N s : Nat) (res : List MRes) : Place → Option Place
  | .slot m t j => if m = M then (if j = 0 then (res.findIdx? fun | .tmp u => u == t | .cell .. => false).map (.slot N s ·) else none) else some (.slot m t j)
  | .var id i => some (.var id i)
  | .away m id i => if m = M then none else some (.away m id i)

theorem strip_not_own {d : Dat} {xs : List (List Dat)} : d.strip ≠ .slice true xs := by cases d <;> simp [Dat.strip]
theorem strip1_not_own {d : Dat} {xs : List (List Dat)} : d.strip1 ≠ .slice true xs := by cases d <;> simp [Dat.strip1]

/-- a returned slice with room is a temporary's, and the first of that name -/
theorem resD_own : ∀ {res : List MRes} {e : Env} {σ : St} {l : List Dat}, resD e σ res = some l → ∀ {i : Nat} {xs : List (List Dat)}, l[i]? = some (.slice true xs) →
    ∃ t, res[i]? = some (.tmp t) ∧ Env.get e t = some (.slice true xs) ∧ (res.findIdx? fun | .tmp u => u == t | .cell .. => false) = some i
  | [], e, σ, l, h, i, xs, hi => by
    simp only [resD, Option.some.injEq] at h
    subst h
    simp at hi
  | .tmp n :: r, e, σ, l, h, i, xs, hi => by
    simp only [resD, Option.bind_eq_some_iff, Option.some.injEq] at h
    obtain ⟨d, hd, l', hl', rfl⟩ := h
    cases i with
    | zero =>
      simp only [List.getElem?_cons_zero, Option.some.injEq] at hi
      subst hi
      exact ⟨n, rfl, hd, by simp [List.findIdx?_cons]⟩
    | succ i =>
      obtain ⟨t, h1, h2, h3⟩ := resD_own hl' (i := i) (by simpa using hi)
      by_cases htn : t = n
      · subst htn
        rw [Env.get_put_same] at h2
        injection h2 with h2
        exact absurd h2 strip_not_own
      · rw [Env.get_put_other _ _ htn] at h2
        refine ⟨t, by simpa using h1, h2, ?_⟩
        simp [List.findIdx?_cons, Ne.symm htn, h3]
  | .cell a ag n :: r, e, σ, l, h, i, xs, hi => by
    simp only [resD, Option.bind_eq_some_iff, Option.some.injEq] at h
    obtain ⟨p, hp, d, hd, l', hl', rfl⟩ := h
    cases i with
    | zero =>
      simp only [List.getElem?_cons_zero, Option.some.injEq] at hi
      exact absurd hi strip1_not_own
    | succ i =>
      obtain ⟨t, h1, h2, h3⟩ := resD_own hl' (i := i) (by simpa using hi)
      refine ⟨t, by simpa using h1, h2, ?_⟩
      simp [List.findIdx?_cons, h3]

section
variable {P : Program} {N ntmps : Nat} {σ0 : St} {g0 : Gh} {w0 : World} {e : Env} {σ : St} {a : Act} {w : World} {g : Gh}

theorem run_asAddr {t : TypeId} {v u : Value} (h : (Instr.loadAt t v).run P w = .ok u w) (hv : ∃ ad, v = .pointer (some ad)) : (do loadVar t (← asAddr v) : Sem Value).run P w = .ok u w := by
  obtain ⟨ad, rfl⟩ := hv
  simpa [Instr.loadAt, Instr.sureAddr, asAddr] using h

theorem results_list : ∀ {rs : List ResultVar} {ms : List MRes} {l : List Dat} {e : Env}, rs.mapM (resOf P) = some ms → EnvOk N σ.length g w e a.tmps → StOk g w σ → (∀ {e'} , EnvOk N σ.length g w e' a.tmps → Fr N ntmps σ0 g0 w0 e' σ a w g) → resD e σ ms = some l →
    ∃ vs : List Value, (rs.mapM (fun (r : ResultVar) => match r with
      | .tmp t => pure (a.tmps.getD t undef)
      | .cell b t => do loadVar t (← asAddr (a.tmps.getD b undef)) : ResultVar → Sem Value)).run P w = .ok vs w ∧ RepL g w l vs ∧ Dat.underL σ.length l = true ∧
      ∀ (i t : Nat) (v : Value), ms[i]? = some (.tmp t) → vs[i]? = some v → a.tmps[t]? = some v
  | [], ms, l, e, hm, he, hst, hf, hl => by
    simp only [List.mapM_nil, Option.pure_def, Option.some.injEq] at hm
    subst hm
    simp only [resD, Option.some.injEq] at hl
    subst hl
    exact ⟨[], by simp, by simp [RepL], rfl, by simp⟩
  | .tmp t :: rs, ms, l, e, hm, he, hst, hf, hl => by
    simp only [List.mapM_cons, resOf, Option.bind_eq_bind, Option.bind_eq_some_iff, Option.pure_def, Option.some.injEq] at hm
    obtain ⟨m, rfl, ms', hms, rfl⟩ := hm
    simp only [resD, Option.bind_eq_some_iff, Option.some.injEq] at hl
    obtain ⟨d, hd, l', hl', rfl⟩ := hl
    obtain ⟨v, hv, hr, ho, hu⟩ := he t d hd
    have he' : EnvOk N σ.length g w (Env.put e t d.strip) a.tmps := by
      intro s c hc
      by_cases hst : s = t
      · subst hst
        rw [Env.get_put_same] at hc
        injection hc with hc
        subst hc
        exact ⟨v, hv, Rep_strip hr, Own_strip, by rw [under_strip]; exact hu⟩
      · rw [Env.get_put_other _ _ hst] at hc
        exact he s c hc
    obtain ⟨vs, h1, h2, h3, h4⟩ := results_list hms he' hst hf hl'
    refine ⟨v :: vs, ?_, RepL_cons hr h2, by simp [Dat.underL, hu, h3], fun i t' v' hi hv' => ?_⟩
    · have hgd : a.tmps.getD t undef = v := by simp [Array.getD_eq_getD_getElem?, hv]
      rw [List.mapM_cons]
      simp only [Sem.run_bind, Sem.run_pure, Result.andThen_ok, hgd, h1]
    · cases i with
      | zero => simp at hi hv'; subst hi hv'; exact hv
      | succ i => exact h4 i t' v' (by simpa using hi) (by simpa using hv')
  | .cell b t :: rs, ms, l, e, hm, he, hst, hf, hl => by
    simp only [List.mapM_cons, Option.bind_eq_bind, Option.bind_eq_some_iff, Option.pure_def, Option.some.injEq] at hm
    obtain ⟨m, hm0, ms', hms, rfl⟩ := hm
    simp only [resOf, Option.bind_eq_bind, Option.bind_eq_some_iff] at hm0
    obtain ⟨ag, hag, n, hn, hm0⟩ := hm0
    split at hm0
    · rename_i hone
      simp only [Option.pure_def, Option.some.injEq] at hm0
      subst hm0
      simp only [resD, Option.bind_eq_some_iff, Option.some.injEq] at hl
      obtain ⟨p, hp, d, hd, l', hl', rfl⟩ := hl
      obtain ⟨v, hv, hr, ho, hu⟩ := he b p hp
      obtain ⟨u, hrun, hru, huu, _⟩ := (hf he).load hr hu hag hn (fun e => by simpa [oneOk, e] using hone) hd
      obtain ⟨vs, h1, h2, h3, h4⟩ := results_list hms he hst hf hl'
      have hptr : ∃ ad, v = .pointer (some ad) := by
        cases p <;> simp only [loadD, reduceCtorEq] at hd
        · simp only [Rep] at hr; exact ⟨_, hr⟩
        · simp only [Rep] at hr; obtain ⟨_, _, hv, _⟩ := hr; exact ⟨_, hv⟩
      have hgd : a.tmps.getD b undef = v := by simp [Array.getD_eq_getD_getElem?, hv]
      have hld := run_asAddr hrun hptr
      refine ⟨u :: vs, ?_, RepL_cons (Rep_strip1 hru) h2, by simp [Dat.underL, under_strip1, huu, h3], fun i t' v' hi hv' => ?_⟩
      · rw [List.mapM_cons]
        simp only [Sem.run_bind, Sem.run_pure, Result.andThen_ok, hgd] at hld h1 ⊢
        rw [hld]
        simp only [Result.andThen_ok, h1]
      · cases i with
        | zero => simp at hi
        | succ i => exact h4 i t' v' (by simpa using hi) (by simpa using hv')
    · cases hm0

theorem run_array_mapM {α β : Type} (f : α → Sem β) (l : Array α) {vs : List β} (h : (l.toList.mapM f).run P w = .ok vs w) : (l.mapM f).run P w = .ok vs.toArray w := by
  rw [Array.mapM_eq_mapM_toList]
  simp [h]

theorem leave_ok {fn : Func} {fd : MFunc} (hres : fn.results.toList.mapM (resOf P) = some fd.res) (h : Fr (N + 1) ntmps σ0 g0 w0 e σ a w g) (h0 : LB N g0) (hu0 : ∀ id c, St.get σ0 id = some c → Dat.underL σ0.length c = true) (s : Nat) {x : Ex} {d : Dat} {σ' : St} (hl : leave fd σ0.length (x, e, σ) = some (d, σ')) :
    (∀ i, x ≠ .exit i) ∧ ∃ v g', (results fn a.tmps).run P w = .ok v w ∧ SlotOk N σ'.length g' w s d v ∧ StOk g' w σ' ∧ Ch σ0 g0 w0 σ' g' w ∧ LB N g' := by
  have hx : (∀ i, x ≠ .exit i) ∧ ∃ l, resD e σ fd.res = some l ∧ l.all Dat.noTup = true ∧ d = (if fd.own then packD l else (packD l).strip) ∧ σ' = gc σ0.length [d] σ := by
    cases x with
    | exit i => simp [leave] at hl
    | normal =>
      simp only [leave, Option.bind_eq_some_iff] at hl
      obtain ⟨l, h1, h2⟩ := hl
      split at h2
      · rename_i hn
        simp only [Option.some.injEq, Prod.mk.injEq] at h2
        exact ⟨by simp, l, h1, hn, h2.1.symm, by rw [← h2.2, h2.1]⟩
      · cases h2
    | ret =>
      simp only [leave, Option.bind_eq_some_iff] at hl
      obtain ⟨l, h1, h2⟩ := hl
      split at h2
      · rename_i hn
        simp only [Option.some.injEq, Prod.mk.injEq] at h2
        exact ⟨by simp, l, h1, hn, h2.1.symm, by rw [← h2.2, h2.1]⟩
      · cases h2
  obtain ⟨hx, l, hrd, hnt, hd, hσ'⟩ := hx
  refine ⟨hx, ?_⟩
  obtain ⟨vs, hvs, hrl, hul, htm⟩ := results_list (N := N + 1) (ntmps := ntmps) (σ0 := σ0) (g0 := g0) (w0 := w0) hres h.env h.st (fun he' => ⟨he', h.st, h.ch, h.lb, h.defers, h.tsize⟩) hrd
  have hvl := RepL_len hrl
  let ψ := retTo (N + 1) N s fd.res
  have hvar : ∀ id i, ψ (.var id i) = some (.var id i) := fun _ _ => rfl
  -- what is handed back, before and after the room is moved
  have hpack : ∃ v, (results fn a.tmps).run P w = .ok v w ∧ Rep g w (packD l) v ∧ (packD l).under σ.length = true ∧ Own (g.sel ψ) w (fun i => .slot N s i) (packD l) v := by
    have hown : ∀ (i : Nat) xs u, l[i]? = some (.slice true xs) → vs[i]? = some u → OwnAt (g.sel ψ) w (.slot N s i) xs u := by
      intro i xs u hli hui
      obtain ⟨t, h1, h2, h3⟩ := resD_own hrd hli
      obtain ⟨v, hv, hr, ho, _⟩ := h.env t _ h2
      have := htm i t u h1 hui
      rw [hv] at this
      injection this with this
      subst this
      simp only [Own] at ho
      exact ho.sel ψ (by simp [ψ, retTo, h3])
    have hrun : (results fn a.tmps).run P w = .ok (if h : vs.toArray.size = 1 then vs.toArray[0] else .tuple vs.toArray) w := by
      unfold results
      have := run_array_mapM (P := P) (w := w) (fun (r : ResultVar) => match r with
        | .tmp t => pure (a.tmps.getD t undef)
        | .cell b t => do loadVar t (← asAddr (a.tmps.getD b undef)) : ResultVar → Sem Value) fn.results hvs
      rw [Sem.run_bind]
      exact congrArg (fun r => Result.andThen r fun (a : Array Value) w' => Sem.run P (pure (if h : a.size = 1 then a[0] else Value.tuple a)) w') this
    refine ⟨_, hrun, ?_⟩
    match l, vs, hvl, hrl, hul, hown, hnt with
    | [d], [v], _, hrl, hul, hown, hnt =>
      simp only [RepL] at hrl
      obtain ⟨v', vr, hv', hr, _⟩ := hrl
      injection hv' with hv1 hv2
      subst hv1
      refine ⟨by simpa [packD] using hr, by simpa [packD, Dat.underL] using hul, ?_⟩
      simp only [packD]
      have hnt' : d.noTup = true := by simpa using hnt
      cases d with
      | slice own xs =>
        cases own
        · trivial
        · exact hown 0 xs _ rfl rfl
      | tup cs => simp [Dat.noTup] at hnt'
      | _ => trivial
    | [], [], _, hrl, hul, hown, hnt =>
      refine ⟨by simp only [packD, Rep]; exact ⟨[], rfl, hrl, rfl⟩, rfl, ?_⟩
      simp only [packD, Own]
      intro vs' _ i xs u hi
      simp at hi
    | d1 :: d2 :: r, v1 :: v2 :: vr, _, hrl, hul, hown, hnt =>
      have hp : packD (d1 :: d2 :: r) = .tup (d1 :: d2 :: r) := rfl
      rw [hp]
      have hsz : ¬ (v1 :: v2 :: vr).toArray.size = 1 := by simp
      rw [dif_neg hsz]
      refine ⟨?_, by simpa [Dat.under] using hul, ?_⟩
      · simp only [Rep]
        exact ⟨_, rfl, hrl, hnt⟩
      · simp only [Own]
        intro vs' hvs' i xs u hi hu
        injection hvs' with hvs'
        have : vs' = v1 :: v2 :: vr := by simpa using (congrArg Array.toList hvs').symm
        subst this
        exact hown i xs u hi hu
  obtain ⟨v, hrun, hrep, hund, hownp⟩ := hpack
  have hext : ∀ n, Ext n g w (g.sel ψ) w := fun n => Ext.sel ψ
  have hstψ : StOk (g.sel ψ) w σ := by
    refine ⟨fun id c hc => ?_, h.st.under, h.st.inj, fun id hid => ⟨(h.st.free id hid).1, by simp [Gh.sel, (h.st.free id hid).2]⟩, fun b hb => ⟨(h.st.fresh b hb).1, by simp [Gh.sel, (h.st.fresh b hb).2]⟩⟩
    obtain ⟨us, T, hh, hl', ho⟩ := h.st.var id c hc
    refine ⟨us, T, hh, RepL_ext (hext σ.length) c us (h.st.under id c hc) hl', fun i di vi hdi hvi => ?_⟩
    obtain ⟨k1, k2⟩ := ho i di vi hdi hvi
    exact ⟨k1, k2.sel ψ fun _ => hvar id i⟩
  have hchψ : Ch σ0 g0 w0 σ (g.sel ψ) w := by
    refine ⟨h.ch.os, h.ch.tape, h.ch.output, h.ch.size, ⟨h.ch.ext.cell, h.ch.ext.prot, h.ch.ext.rho⟩, h.ch.len, fun b hb => ?_, h.ch.new, h.ch.low⟩
    obtain ⟨k1, k2, k3⟩ := h.ch.keep b hb
    refine ⟨k1, k2, ?_⟩
    show (g.lock b).bind ψ = g0.lock b
    rw [k3]
    cases hl0 : g0.lock b with
    | none => rfl
    | some π =>
      have hlow := h0 b π hl0
      cases π with
      | slot m t j =>
        simp only [Place.low] at hlow
        simp only [Option.bind_some, ψ, retTo]
        rw [if_neg (by omega)]
      | var id i => exact absurd hl0 (hb.2.2 id i)
      | away m id i =>
        simp only [Place.low] at hlow
        simp only [Option.bind_some, ψ, retTo]
        rw [if_neg (by omega)]
  have hlbψ : LB N (g.sel ψ) := by
    intro b π hb
    obtain ⟨π', hπ', hf⟩ := Option.bind_eq_some_iff.1 (show (g.lock b).bind ψ = some π from hb)
    have hlow := h.lb b π' hπ'
    cases π' with
    | slot m t j =>
      simp only [ψ, retTo] at hf
      split at hf
      · split at hf
        · obtain ⟨i, _, rfl⟩ := Option.map_eq_some_iff.1 hf
          exact Nat.le_refl _
        · cases hf
      · rename_i hm
        injection hf with hf
        subst hf
        simp only [Place.low] at hlow ⊢
        omega
    | var id i => simp only [ψ, retTo, Option.some.injEq] at hf; subst hf; trivial
    | away m id i =>
      simp only [ψ, retTo] at hf
      split at hf
      · cases hf
      · rename_i hm
        injection hf with hf
        subst hf
        simp only [Place.low] at hlow ⊢
        omega
  have hud : d.under σ.length = true := by
    rw [hd]
    split
    · exact hund
    · rw [under_strip]; exact hund
  obtain ⟨k1, k2, k3⟩ := gc_ok (live := [d]) hu0 hstψ hchψ (by simp [Dat.underL, hud])
  refine ⟨v, g.sel ψ, hrun, ⟨?_, ?_, ?_⟩, by rw [hσ']; exact k1, by rw [hσ']; exact k2, hlbψ⟩
  · rw [hd]
    split
    · exact Rep_ext (hext σ.length) _ _ hund hrep
    · exact Rep_ext (hext σ.length) _ _ (by rw [under_strip]; exact hund) (Rep_strip hrep)
  · rw [hd]
    split
    · exact hownp
    · exact Own_strip
  · rw [hσ']
    simpa [Dat.underL] using k3

theorem get_some {α : Type} {l : List α} {i : Nat} {x : α} (h : l[i]? = some x) : i < l.length := (List.getElem?_eq_some_iff.1 h).1

/-- What a whole call does. -/
theorem runF_ok {tab : Tab} (htab : TabOk P tab) : ∀ k, CallsOk P (runF tab k)
  | 0 => fun f args σ d σ' h => by simp [runF] at h
  | k + 1 => fun f args σ d σ' hrun N g w vs s hlb hst hra hua hno => by
    simp only [runF, Option.bind_eq_some_iff] at hrun
    obtain ⟨fd, hfd, ⟨x, e1, σ1⟩, hex, hlv⟩ := hrun
    obtain ⟨fd', hcomp, hbody, hres⟩ := htab f fd hfd
    simp only [compile, Option.bind_eq_some_iff] at hcomp
    obtain ⟨fn, hfn, hcomp⟩ := hcomp
    simp only [funcOf, Option.bind_eq_bind] at hcomp
    split at hcomp
    · cases hcomp
    · rename_i hname
      simp only [Option.bind_eq_some_iff] at hcomp
      obtain ⟨c, hc, m0, hm0, res, hres0, hcomp⟩ := hcomp
      split at hcomp
      · rename_i hdraw
        simp only [Option.pure_def, Option.some.injEq] at hcomp
        have hfd' := hcomp
        refine ⟨⟨fn, hfn, by simpa using hname, by rw [hc]; rfl⟩, ?_⟩
        have hb : fd.body.bare = m0.bare := by rw [hbody, ← hfd']; exact live_bare _ _ _ _
        have hr : fn.results.toList.mapM (resOf P) = some fd.res := by rw [hres, ← hfd', hres0]
        refine calls_of_wp hfn hc ?_
        have hu0 : ∀ id c, St.get σ id = some c → Dat.underL σ.length c = true := hst.under
        have hvl := RepL_len hra
        have hfr : Fr (N + 1) fn.ntmps σ g w (bindArgs 0 args) σ { tmps := vs.toArray ++ Array.replicate (fn.ntmps - vs.toArray.size) undef, defers := [] } w g := by
          refine ⟨fun t d hd => ?_, hst, Ch.refl _ _ _, fun b π hb => ?_, rfl, by simp; omega⟩
          · obtain ⟨_, hd⟩ := get_bindArgs hd
            rw [Nat.sub_zero] at hd
            obtain ⟨v, hv, hrd⟩ := RepL_get hra hd
            refine ⟨v, ?_, hrd, hno d (List.mem_of_getElem? hd) _ _, underL_get hua hd⟩
            rw [Array.getElem?_append_left (by simpa using get_some hv)]
            simpa using hv
          · have := hlb b π hb
            cases π <;> simp only [Place.low] at this ⊢ <;> omega
        refine exec_ok (N := N + 1) (runF_ok htab k) (by simpa using hlb) (by omega) hu0 c hm0 hb (by rw [hbody, ← hfd']; exact hdraw) hfr hex fun a' w' g' h' => ?_
        obtain ⟨hx, v, g2, hrs, hslot, hst2, hch2, hlb2⟩ := leave_ok (N := N) hr h' hlb hu0 s hlv
        cases x with
        | exit i => exact absurd rfl (hx i)
        | normal => exact ⟨h'.defers, v, hrs, v, g2, rfl, hslot, hst2, hch2, hlb2⟩
        | ret => exact ⟨h'.defers, v, hrs, v, g2, rfl, hslot, hst2, hch2, hlb2⟩
      · cases hcomp
theorem run_ok {tab : Tab} (htab : TabOk P tab) : CallsOk P (run tab) := by
  intro f args σ d σ' h
  obtain ⟨k, hk⟩ := runF_of_run h
  exact runF_ok htab k f args σ d σ' hk
end
end Go.Mir
