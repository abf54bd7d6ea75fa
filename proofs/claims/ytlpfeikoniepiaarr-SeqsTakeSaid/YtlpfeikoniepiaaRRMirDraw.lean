/- Regions whose order is open: operations look at their operands alone. -/
import Derived.Test.YtlpfeikoniepiaaRRMirStep
import Derived.Test.YtlpfeikoniepiaaRRMirLim
set_option linter.all false
namespace Go.Mir
set_option linter.unusedVariables false
set_option linter.unusedSectionVars false
set_option linter.unusedSimpArgs false

section
variable {run : Run} {esc : Nat → Bool} {base : Nat} {e e' : Env} {σ σ1 : St} {d : Dat} {e1 : Env}

theorem ev_congr {x : MArg} (h : ∀ t ∈ argR x, Env.get e' t = Env.get e t) : x.ev e' = x.ev e := by
  cases x with
  | tmp t => exact h t (by simp [argR])
  | lit d => rfl
theorem evs_congr : ∀ {l : List MArg}, (∀ t ∈ l.flatMap argR, Env.get e' t = Env.get e t) → MArg.evs e' l = MArg.evs e l
  | [], _ => rfl
  | x :: l, h => by
    simp only [MArg.evs]
    rw [ev_congr (x := x) fun t ht => h t (by simp [ht]), evs_congr (l := l) fun t ht => h t (by simp only [List.flatMap_cons, List.mem_append]; exact .inr ht)]
theorem bound_congr {n : Nat} {x : Option MArg} (h : ∀ t ∈ optR x, Env.get e' t = Env.get e t) : bound e' n x = bound e n x := by
  cases x with
  | none => rfl
  | some x => simp only [bound, ev_congr (x := x) fun t ht => h t (by simpa [optR] using ht)]
theorem fillD_congr : ∀ {ps : List (Nat × Nat × MArg)} {cs : List Dat}, (∀ t ∈ ps.flatMap (fun (_, _, x) => argR x), Env.get e' t = Env.get e t) → fillD e' cs ps = fillD e cs ps
  | [], _, _ => rfl
  | (off, n, x) :: r, cs, h => by
    simp only [fillD]
    rw [ev_congr (x := x) fun t ht => h t (by simp [ht])]
    congr 1
    funext d
    congr 1
    funext l
    split
    · exact fillD_congr fun t ht => h t (by simp only [List.flatMap_cons, List.mem_append]; exact .inr ht)
    · rfl
theorem elemsD_congr {esz : Nat} : ∀ {ps : List MArg}, (∀ t ∈ ps.flatMap argR, Env.get e' t = Env.get e t) → elemsD e' esz ps = elemsD e esz ps
  | [], _ => rfl
  | x :: r, h => by
    simp only [elemsD]
    rw [ev_congr (x := x) fun t ht => h t (by simp [ht]), elemsD_congr (ps := r) fun t ht => h t (by simp only [List.flatMap_cons, List.mem_append]; exact .inr ht)]

theorem get_take {x : MArg} {t : Nat} (h : t ∉ argR x) : Env.get (x.take e) t = Env.get e t := by
  cases x with
  | lit d => rfl
  | tmp n =>
    simp only [MArg.take]
    split
    · exact Env.get_put_other _ _ (by simpa [argR] using h)
    · rfl

/-- What an operation does hangs on its operands alone. -/
theorem evalOp_env {op : MOp} (hd : drawable op = true) (agree : ∀ t ∈ opR op, Env.get e' t = Env.get e t) (h : evalOp run esc base e σ op = some (d, e1, σ1)) :
    ∃ e1', evalOp run esc base e' σ op = some (d, e1', σ1) ∧ (∀ t, t ∉ takesOf op → Env.get e1' t = Env.get e' t) ∧ (∀ t, t ∉ takesOf op → Env.get e1 t = Env.get e t) := by
  have hx : ∀ x : MArg, (∀ t ∈ argR x, t ∈ opR op) → x.ev e' = x.ev e := fun x hx => ev_congr fun t ht => agree t (hx t ht)
  have plain : e1 = e → evalOp run esc base e' σ op = some (d, e', σ1) → ∃ e1', evalOp run esc base e' σ op = some (d, e1', σ1) ∧ (∀ t, t ∉ takesOf op → Env.get e1' t = Env.get e' t) ∧ (∀ t, t ∉ takesOf op → Env.get e1 t = Env.get e t) := by
    rintro rfl h
    exact ⟨e', h, fun _ _ => rfl, fun _ _ => rfl⟩
  cases op with
  | mov mv x =>
    have e1 := hx x (by simp [opR])
    cases mv with
    | true =>
      simp only [evalOp, Option.bind_eq_some_iff, Option.some.injEq, Prod.mk.injEq] at h
      obtain ⟨c, hc, rfl, rfl, rfl⟩ := h
      exact ⟨_, by simp only [evalOp, e1, hc, Option.bind_some], fun t ht => get_take ht, fun t ht => get_take ht⟩
    | false =>
      simp only [evalOp, Option.bind_eq_some_iff, Option.some.injEq, Prod.mk.injEq] at h
      obtain ⟨c, hc, rfl, rfl, rfl⟩ := h
      exact ⟨_, by simp only [evalOp, e1, hc, Option.bind_some], fun t ht => rfl, fun t ht => rfl⟩
  | box n x =>
    have e1 := hx x (by simp [opR])
    simp only [evalOp, Option.bind_eq_some_iff] at h
    obtain ⟨c, hc, l, hl, h⟩ := h
    split at h
    · rename_i hn
      simp only [Option.some.injEq, Prod.mk.injEq] at h
      obtain ⟨rfl, rfl, rfl⟩ := h
      exact ⟨_, by simp only [evalOp, e1, hc, hl, Option.bind_some, if_pos hn], fun t ht => get_take ht, fun t ht => get_take ht⟩
    · cases h
  | store n a v =>
    have e1 := hx a (by simp only [opR, List.mem_append]; exact fun t ht => .inl ht)
    have e2 := hx v (by simp only [opR, List.mem_append]; exact fun t ht => .inr ht)
    simp only [evalOp, Option.bind_eq_some_iff] at h
    obtain ⟨p, hp, h⟩ := h
    cases p <;> simp only [reduceCtorEq, Option.bind_eq_some_iff] at h
    obtain ⟨c, hc, l, hl, cs, hcs, h⟩ := h
    split at h
    · rename_i hn
      simp only [Option.some.injEq, Prod.mk.injEq] at h
      obtain ⟨rfl, rfl, rfl⟩ := h
      exact ⟨_, by simp only [evalOp, e1, e2, hp, hc, hl, hcs, Option.bind_some, if_pos hn], fun t ht => get_take ht, fun t ht => get_take ht⟩
    · cases h
  | append st esz bytes x y =>
    have e1 := hx x (by simp only [opR, List.mem_append]; exact fun t ht => .inl ht)
    have e2 := hx y (by simp only [opR, List.mem_append]; exact fun t ht => .inr ht)
    simp only [evalOp, Option.bind_eq_some_iff] at h
    obtain ⟨p, hp, q, hq, h⟩ := h
    cases p <;> simp only [reduceCtorEq, Option.bind_eq_some_iff] at h
    obtain ⟨ys, hys, h⟩ := h
    split at h
    · rename_i hn
      simp only [Option.some.injEq, Prod.mk.injEq] at h
      obtain ⟨rfl, rfl, rfl⟩ := h
      exact ⟨_, by simp only [evalOp, e1, e2, hp, hq, hys, Option.bind_some, if_pos hn], fun t ht => get_take ht, fun t ht => get_take ht⟩
    · rename_i hn
      split at h
      · rename_i hn2
        simp only [Option.some.injEq, Prod.mk.injEq] at h
        obtain ⟨rfl, rfl, rfl⟩ := h
        exact ⟨_, by simp only [evalOp, e1, e2, hp, hq, hys, Option.bind_some, if_neg hn, if_pos hn2], fun t ht => get_take ht, fun t ht => get_take ht⟩
      · cases h
  | call f l => simp [drawable] at hd
  | extract i x => simp [drawable] at hd
  | load mv g n x =>
    cases mv with
    | true => simp [drawable] at hd
    | false =>
      have e1 := hx x (by simp [opR])
      simp only [evalOp, Option.bind_eq_some_iff, Bool.false_eq_true, if_false, Option.some.injEq, Prod.mk.injEq] at h
      obtain ⟨p, hp, c, hc, rfl, rfl, rfl⟩ := h
      exact ⟨_, by simp only [evalOp, e1, hp, hc, Option.bind_some, Bool.false_eq_true, if_false], fun t ht => rfl, fun t ht => rfl⟩
  | nilCheck x =>
    have q1 := hx x (by simp [opR])
    simp only [evalOp, Option.bind_eq_some_iff] at h
    obtain ⟨p, hp, h⟩ := h
    cases p <;> simp only [reduceCtorEq] at h
    all_goals
      simp only [Option.some.injEq, Prod.mk.injEq] at h
      obtain ⟨rfl, rfl, rfl⟩ := h
      exact plain rfl (by simp only [evalOp, q1, hp, Option.bind_some])
  | un o x =>
    have q1 := hx x (by simp [opR])
    simp only [evalOp, Option.bind_eq_some_iff] at h
    obtain ⟨p, hp, h⟩ := h
    cases o <;> cases p <;> simp only [reduceCtorEq] at h
    all_goals
      simp only [Option.some.injEq, Prod.mk.injEq] at h
      obtain ⟨rfl, rfl, rfl⟩ := h
      exact plain rfl (by simp only [evalOp, q1, hp, Option.bind_some])
  | conv k x =>
    have q1 := hx x (by simp [opR])
    simp only [evalOp, Option.bind_eq_some_iff] at h
    obtain ⟨p, hp, h⟩ := h
    cases p <;> simp only [reduceCtorEq] at h
    simp only [Option.some.injEq, Prod.mk.injEq] at h
    obtain ⟨rfl, rfl, rfl⟩ := h
    exact plain rfl (by simp only [evalOp, q1, hp, Option.bind_some])
  | fieldAddr off x =>
    have q1 := hx x (by simp [opR])
    simp only [evalOp, Option.bind_eq_some_iff] at h
    obtain ⟨p, hp, h⟩ := h
    cases p <;> simp only [reduceCtorEq] at h
    · simp only [Option.some.injEq, Prod.mk.injEq] at h
      obtain ⟨rfl, rfl, rfl⟩ := h
      exact plain rfl (by simp only [evalOp, q1, hp, Option.bind_some])
    · split at h
      · rename_i hc
        simp only [Option.some.injEq, Prod.mk.injEq] at h
        obtain ⟨rfl, rfl, rfl⟩ := h
        exact plain rfl (by simp only [evalOp, q1, hp, if_pos hc, Option.bind_some])
      · cases h
  | field g off n x =>
    have q1 := hx x (by simp [opR])
    simp only [evalOp, Option.bind_eq_some_iff] at h
    obtain ⟨p, hp, h⟩ := h
    cases p <;> simp only [reduceCtorEq] at h
    split at h
    · rename_i hc
      simp only [Option.bind_eq_some_iff] at h
      obtain ⟨r, hr, h⟩ := h
      simp only [Option.some.injEq, Prod.mk.injEq] at h
      obtain ⟨rfl, rfl, rfl⟩ := h
      exact plain rfl (by simp only [evalOp, q1, hp, if_pos hc, hr, Option.bind_some])
    · cases h
  | extractn i x =>
    have q1 := hx x (by simp [opR])
    simp only [evalOp, Option.bind_eq_some_iff] at h
    obtain ⟨p, hp, h⟩ := h
    cases p <;> simp only [reduceCtorEq, Option.bind_eq_some_iff] at h
    obtain ⟨r, hr, h⟩ := h
    simp only [Option.some.injEq, Prod.mk.injEq] at h
    obtain ⟨rfl, rfl, rfl⟩ := h
    exact plain rfl (by simp only [evalOp, q1, hp, hr, Option.bind_some])
  | len st x =>
    have q1 := hx x (by simp [opR])
    simp only [evalOp, Option.bind_eq_some_iff] at h
    obtain ⟨p, hp, h⟩ := h
    cases st <;> cases p <;> simp only [reduceCtorEq] at h
    all_goals
      simp only [Option.some.injEq, Prod.mk.injEq] at h
      obtain ⟨rfl, rfl, rfl⟩ := h
      exact plain rfl (by simp only [evalOp, q1, hp, Option.bind_some])
  | loadr g n x =>
    have q1 := hx x (by simp [opR])
    simp only [evalOp, Option.bind_eq_some_iff] at h
    obtain ⟨p, hp, h⟩ := h
    cases p <;> simp only [reduceCtorEq] at h
    split at h
    · rename_i hc
      simp only [Option.bind_eq_some_iff] at h
      obtain ⟨r, hr, h⟩ := h
      simp only [Option.some.injEq, Prod.mk.injEq] at h
      obtain ⟨rfl, rfl, rfl⟩ := h
      exact plain rfl (by simp only [evalOp, q1, hp, if_pos hc, hr, Option.bind_some])
    · cases h
  | bin bo x y =>
    have q1 := hx x (by simp only [opR, List.mem_append]; exact fun t ht => by simp [ht])
    have q2 := hx y (by simp only [opR, List.mem_append]; exact fun t ht => by simp [ht])
    simp only [evalOp, Option.bind_eq_some_iff] at h
    obtain ⟨p, hp, q, hq, r, hr, h⟩ := h
    simp only [Option.some.injEq, Prod.mk.injEq] at h
    obtain ⟨rfl, rfl, rfl⟩ := h
    exact plain rfl (by simp only [evalOp, q1, q2, hp, hq, hr, Option.bind_some])
  | eqs ne ks x y =>
    have q1 := hx x (by simp only [opR, List.mem_append]; exact fun t ht => by simp [ht])
    have q2 := hx y (by simp only [opR, List.mem_append]; exact fun t ht => by simp [ht])
    simp only [evalOp, Option.bind_eq_some_iff] at h
    obtain ⟨p, hp, q, hq, h⟩ := h
    cases p <;> cases q <;> simp only [reduceCtorEq, Option.bind_eq_some_iff] at h
    obtain ⟨r, hr, h⟩ := h
    simp only [Option.some.injEq, Prod.mk.injEq] at h
    obtain ⟨rfl, rfl, rfl⟩ := h
    exact plain rfl (by simp only [evalOp, q1, q2, hp, hq, hr, Option.bind_some])
  | eqb ne x y =>
    have q1 := hx x (by simp only [opR, List.mem_append]; exact fun t ht => by simp [ht])
    have q2 := hx y (by simp only [opR, List.mem_append]; exact fun t ht => by simp [ht])
    simp only [evalOp, Option.bind_eq_some_iff] at h
    obtain ⟨p, hp, q, hq, h⟩ := h
    cases p <;> cases q <;> simp only [reduceCtorEq] at h
    simp only [Option.some.injEq, Prod.mk.injEq] at h
    obtain ⟨rfl, rfl, rfl⟩ := h
    exact plain rfl (by simp only [evalOp, q1, q2, hp, hq, Option.bind_some])
  | index esz x y =>
    have q1 := hx x (by simp only [opR, List.mem_append]; exact fun t ht => by simp [ht])
    have q2 := hx y (by simp only [opR, List.mem_append]; exact fun t ht => by simp [ht])
    simp only [evalOp, Option.bind_eq_some_iff] at h
    obtain ⟨p, hp, q, hq, h⟩ := h
    cases p <;> cases q <;> simp only [reduceCtorEq] at h
    split at h
    · rename_i hc
      simp only [Option.bind_eq_some_iff] at h
      obtain ⟨r, hr, h⟩ := h
      split at h
      · rename_i hc2
        simp only [Option.some.injEq, Prod.mk.injEq] at h
        obtain ⟨rfl, rfl, rfl⟩ := h
        exact plain rfl (by simp only [evalOp, q1, q2, hp, hq, if_pos hc, hr, if_pos hc2, Option.bind_some])
      · cases h
    · cases h
  | indexArr len esz x y =>
    have q1 := hx x (by simp only [opR, List.mem_append]; exact fun t ht => by simp [ht])
    have q2 := hx y (by simp only [opR, List.mem_append]; exact fun t ht => by simp [ht])
    simp only [evalOp, Option.bind_eq_some_iff] at h
    obtain ⟨p, hp, q, hq, h⟩ := h
    cases p <;> cases q <;> simp only [reduceCtorEq] at h
    all_goals
      split at h
      · rename_i hc
        simp only [Option.some.injEq, Prod.mk.injEq] at h
        obtain ⟨rfl, rfl, rfl⟩ := h
        exact plain rfl (by simp only [evalOp, q1, q2, hp, hq, if_pos hc, Option.bind_some])
      · cases h
  | «at» x y =>
    have q1 := hx x (by simp only [opR, List.mem_append]; exact fun t ht => by simp [ht])
    have q2 := hx y (by simp only [opR, List.mem_append]; exact fun t ht => by simp [ht])
    simp only [evalOp, Option.bind_eq_some_iff] at h
    obtain ⟨p, hp, q, hq, h⟩ := h
    cases p <;> cases q <;> simp only [reduceCtorEq] at h
    split at h
    · rename_i hc
      simp only [Option.bind_eq_some_iff] at h
      obtain ⟨r, hr, h⟩ := h
      simp only [Option.some.injEq, Prod.mk.injEq] at h
      obtain ⟨rfl, rfl, rfl⟩ := h
      exact plain rfl (by simp only [evalOp, q1, q2, hp, hq, if_pos hc, hr, Option.bind_some])
    · cases h
  | min2 x y =>
    have q1 := hx x (by simp only [opR, List.mem_append]; exact fun t ht => by simp [ht])
    have q2 := hx y (by simp only [opR, List.mem_append]; exact fun t ht => by simp [ht])
    simp only [evalOp, Option.bind_eq_some_iff] at h
    obtain ⟨p, hp, q, hq, h⟩ := h
    cases p <;> cases q <;> simp only [reduceCtorEq] at h
    split at h
    · rename_i hc
      simp only [Option.some.injEq, Prod.mk.injEq] at h
      obtain ⟨rfl, rfl, rfl⟩ := h
      exact plain rfl (by simp only [evalOp, q1, q2, hp, hq, if_pos hc, Option.bind_some])
    · cases h
  | max2 x y =>
    have q1 := hx x (by simp only [opR, List.mem_append]; exact fun t ht => by simp [ht])
    have q2 := hx y (by simp only [opR, List.mem_append]; exact fun t ht => by simp [ht])
    simp only [evalOp, Option.bind_eq_some_iff] at h
    obtain ⟨p, hp, q, hq, h⟩ := h
    cases p <;> cases q <;> simp only [reduceCtorEq] at h
    split at h
    · rename_i hc
      simp only [Option.some.injEq, Prod.mk.injEq] at h
      obtain ⟨rfl, rfl, rfl⟩ := h
      exact plain rfl (by simp only [evalOp, q1, q2, hp, hq, if_pos hc, Option.bind_some])
    · cases h
  | pick c x y =>
    have q0 := hx c (by simp only [opR, List.mem_append]; exact fun t ht => by simp [ht])
    have q1 := hx x (by simp only [opR, List.mem_append]; exact fun t ht => by simp [ht])
    have q2 := hx y (by simp only [opR, List.mem_append]; exact fun t ht => by simp [ht])
    simp only [evalOp, Option.bind_eq_some_iff] at h
    obtain ⟨p, hp, h⟩ := h
    cases p <;> simp only [reduceCtorEq, Option.bind_eq_some_iff] at h
    rename_i b
    obtain ⟨r, hr, h⟩ := h
    simp only [Option.some.injEq, Prod.mk.injEq] at h
    obtain ⟨rfl, rfl, rfl⟩ := h
    refine plain rfl ?_
    simp only [evalOp, q0, q1, q2, hp, Option.bind_some]
    rw [hr]
    rfl
  | alloc z =>
    simp only [evalOp, Option.some.injEq, Prod.mk.injEq] at h
    obtain ⟨rfl, rfl, rfl⟩ := h
    exact plain rfl rfl
  | build z ps =>
    simp only [evalOp, Option.bind_eq_some_iff, Option.some.injEq, Prod.mk.injEq] at h
    obtain ⟨cs, hcs, rfl, rfl, rfl⟩ := h
    exact plain rfl (by simp only [evalOp]; rw [fillD_congr (e := e) agree, hcs]; rfl)
  | buildSlice n ps =>
    simp only [evalOp, Option.bind_eq_some_iff, Option.some.injEq, Prod.mk.injEq] at h
    obtain ⟨cs, hcs, rfl, rfl, rfl⟩ := h
    exact plain rfl (by simp only [evalOp]; rw [elemsD_congr (e := e) agree, hcs]; rfl)
  | mkfn f l =>
    simp only [evalOp, Option.bind_eq_some_iff, Option.some.injEq, Prod.mk.injEq] at h
    obtain ⟨cs, hcs, rfl, rfl, rfl⟩ := h
    exact plain rfl (by simp only [evalOp]; rw [evs_congr (e := e) agree, hcs]; rfl)
  | callc f l =>
    have q1 := hx f (by simp only [opR, List.mem_append]; exact fun t ht => by simp [ht])
    have q2 := evs_congr (e := e) (e' := e') (l := l) (fun t ht => agree t (by simp only [opR, List.mem_append]; exact .inr ht))
    simp only [evalOp, Option.bind_eq_some_iff] at h
    obtain ⟨p, hp, h⟩ := h
    cases p <;> simp only [reduceCtorEq, Option.bind_eq_some_iff] at h
    obtain ⟨q, hq, r, hr, h⟩ := h
    simp only [Option.some.injEq, Prod.mk.injEq] at h
    obtain ⟨rfl, rfl, rfl⟩ := h
    exact plain rfl (by simp only [evalOp, q1, q2, hp, hq, hr, Option.bind_some])
  | slice esz x lo hi mx =>
    have q1 := hx x (by simp only [opR, List.mem_append]; exact fun t ht => by simp [ht])
    have b1 : ∀ n, bound e' n lo = bound e n lo := fun n => bound_congr fun t ht => agree t (by simp [opR, ht])
    have b2 : ∀ n, bound e' n hi = bound e n hi := fun n => bound_congr fun t ht => agree t (by simp [opR, ht])
    have b3 : ∀ n, bound e' n mx = bound e n mx := fun n => bound_congr fun t ht => agree t (by simp [opR, ht])
    simp only [evalOp, Option.bind_eq_some_iff] at h
    obtain ⟨p, hp, h⟩ := h
    cases p <;> simp only [reduceCtorEq, Option.bind_eq_some_iff] at h
    obtain ⟨l, hl, hh, hhh, m, hm, h⟩ := h
    split at h
    · rename_i hc
      simp only [Option.some.injEq, Prod.mk.injEq] at h
      obtain ⟨rfl, rfl, rfl⟩ := h
      exact plain rfl (by simp only [evalOp, q1, hp, b1, b2, b3, hl, hhh, hm, Option.bind_some]; rw [if_pos hc])
    · cases h
  | substr x lo hi =>
    have q1 := hx x (by simp only [opR, List.mem_append]; exact fun t ht => by simp [ht])
    have b1 : ∀ n, bound e' n lo = bound e n lo := fun n => bound_congr fun t ht => agree t (by simp [opR, ht])
    have b2 : ∀ n, bound e' n hi = bound e n hi := fun n => bound_congr fun t ht => agree t (by simp [opR, ht])
    simp only [evalOp, Option.bind_eq_some_iff] at h
    obtain ⟨p, hp, h⟩ := h
    cases p <;> simp only [reduceCtorEq, Option.bind_eq_some_iff] at h
    obtain ⟨l, hl, hh, hhh, h⟩ := h
    split at h
    · rename_i hc
      simp only [Option.some.injEq, Prod.mk.injEq] at h
      obtain ⟨rfl, rfl, rfl⟩ := h
      exact plain rfl (by simp only [evalOp, q1, hp, b1, b2, hl, hhh, Option.bind_some]; rw [if_pos hc])
    · cases h

/-- What looks at no variable. -/
theorem evalOp_free {op : MOp} (hd : drawable op = true) (hw : isW op = false) (hr : isR op = false) (ha : isAlloc op = false) (h : evalOp run esc base e σ op = some (d, e1, σ1)) : σ1 = σ ∧ ∀ base' σ', evalOp run esc base' e σ' op = some (d, e1, σ') := by
  cases op with
  | mov mv x =>
    cases mv <;>
    · simp only [evalOp, Option.bind_eq_some_iff, Option.some.injEq, Prod.mk.injEq] at h
      obtain ⟨c, hc, rfl, rfl, rfl⟩ := h
      exact ⟨rfl, fun _ _ => by simp only [evalOp, hc, Option.bind_some]⟩
  | box n x => simp [isW] at hw
  | store n a v => simp [isW] at hw
  | load mv g n x => simp [isR] at hr
  | alloc z => simp [isAlloc] at ha
  | call f l => simp [drawable] at hd
  | extract i x => simp [drawable] at hd
  | build z ps | buildSlice n ps | mkfn f l =>
    simp only [evalOp, Option.bind_eq_some_iff, Option.some.injEq, Prod.mk.injEq] at h
    obtain ⟨c, hc, rfl, rfl, rfl⟩ := h
    exact ⟨rfl, fun _ _ => by simp only [evalOp, hc, Option.bind_some]⟩
  | bin bo x y =>
    simp only [evalOp, Option.bind_eq_some_iff, Option.some.injEq, Prod.mk.injEq] at h
    obtain ⟨p, hp, q, hq, c, hc, rfl, rfl, rfl⟩ := h
    exact ⟨rfl, fun _ _ => by simp only [evalOp, hp, hq, hc, Option.bind_some]⟩
  | append st esz bytes x y =>
    simp only [evalOp, Option.bind_eq_some_iff] at h
    obtain ⟨p, hp, q, hq, h⟩ := h
    cases p <;> simp only [reduceCtorEq, Option.bind_eq_some_iff] at h
    obtain ⟨ys, hys, h⟩ := h
    split at h
    · rename_i hn
      simp only [Option.some.injEq, Prod.mk.injEq] at h
      obtain ⟨rfl, rfl, rfl⟩ := h
      exact ⟨rfl, fun _ _ => by simp only [evalOp, hp, hq, hys, Option.bind_some, if_pos hn]⟩
    · rename_i hn
      split at h
      · rename_i hn2
        simp only [Option.some.injEq, Prod.mk.injEq] at h
        obtain ⟨rfl, rfl, rfl⟩ := h
        exact ⟨rfl, fun _ _ => by simp only [evalOp, hp, hq, hys, Option.bind_some, if_neg hn, if_pos hn2]⟩
      · cases h
  | pick c x y =>
    simp only [evalOp, Option.bind_eq_some_iff] at h
    obtain ⟨p, hp, h⟩ := h
    cases p <;> simp only [reduceCtorEq, Option.bind_eq_some_iff] at h
    obtain ⟨r, hr, h⟩ := h
    simp only [Option.some.injEq, Prod.mk.injEq] at h
    obtain ⟨rfl, rfl, rfl⟩ := h
    refine ⟨rfl, fun _ _ => ?_⟩
    simp only [evalOp, hp, Option.bind_some]
    rw [hr]
    rfl
  | callc f l =>
    simp only [evalOp, Option.bind_eq_some_iff] at h
    obtain ⟨p, hp, h⟩ := h
    cases p <;> simp only [reduceCtorEq, Option.bind_eq_some_iff] at h
    obtain ⟨q, hq, r, hr, h⟩ := h
    simp only [Option.some.injEq, Prod.mk.injEq] at h
    obtain ⟨rfl, rfl, rfl⟩ := h
    exact ⟨rfl, fun _ _ => by simp only [evalOp, hp, hq, hr, Option.bind_some]⟩
  | slice esz x lo hi mx =>
    simp only [evalOp, Option.bind_eq_some_iff] at h
    obtain ⟨p, hp, h⟩ := h
    cases p <;> simp only [reduceCtorEq, Option.bind_eq_some_iff] at h
    obtain ⟨l, hl, hh, hhh, m, hm, h⟩ := h
    split at h
    · rename_i hc
      simp only [Option.some.injEq, Prod.mk.injEq] at h
      obtain ⟨rfl, rfl, rfl⟩ := h
      exact ⟨rfl, fun _ _ => by simp only [evalOp, hp, hl, hhh, hm, Option.bind_some]; rw [if_pos hc]⟩
    · cases h
  | substr x lo hi =>
    simp only [evalOp, Option.bind_eq_some_iff] at h
    obtain ⟨p, hp, h⟩ := h
    cases p <;> simp only [reduceCtorEq, Option.bind_eq_some_iff] at h
    obtain ⟨l, hl, hh, hhh, h⟩ := h
    split at h
    · rename_i hc
      simp only [Option.some.injEq, Prod.mk.injEq] at h
      obtain ⟨rfl, rfl, rfl⟩ := h
      exact ⟨rfl, fun _ _ => by simp only [evalOp, hp, hl, hhh, Option.bind_some]; rw [if_pos hc]⟩
    · cases h
  | nilCheck x =>
    simp only [evalOp, Option.bind_eq_some_iff] at h
    obtain ⟨p, hp, h⟩ := h
    cases p <;> simp only [reduceCtorEq] at h
    all_goals
      simp only [Option.some.injEq, Prod.mk.injEq] at h
      obtain ⟨rfl, rfl, rfl⟩ := h
      exact ⟨rfl, fun _ _ => by simp only [evalOp, hp, Option.bind_some]⟩
  | un o x =>
    simp only [evalOp, Option.bind_eq_some_iff] at h
    obtain ⟨p, hp, h⟩ := h
    cases o <;> cases p <;> simp only [reduceCtorEq] at h
    all_goals
      simp only [Option.some.injEq, Prod.mk.injEq] at h
      obtain ⟨rfl, rfl, rfl⟩ := h
      exact ⟨rfl, fun _ _ => by simp only [evalOp, hp, Option.bind_some]⟩
  | conv k x =>
    simp only [evalOp, Option.bind_eq_some_iff] at h
    obtain ⟨p, hp, h⟩ := h
    cases p <;> simp only [reduceCtorEq] at h
    simp only [Option.some.injEq, Prod.mk.injEq] at h
    obtain ⟨rfl, rfl, rfl⟩ := h
    exact ⟨rfl, fun _ _ => by simp only [evalOp, hp, Option.bind_some]⟩
  | fieldAddr off x =>
    simp only [evalOp, Option.bind_eq_some_iff] at h
    obtain ⟨p, hp, h⟩ := h
    cases p <;> simp only [reduceCtorEq] at h
    · simp only [Option.some.injEq, Prod.mk.injEq] at h
      obtain ⟨rfl, rfl, rfl⟩ := h
      exact ⟨rfl, fun _ _ => by simp only [evalOp, hp, Option.bind_some]⟩
    · split at h
      · rename_i hc
        simp only [Option.some.injEq, Prod.mk.injEq] at h
        obtain ⟨rfl, rfl, rfl⟩ := h
        exact ⟨rfl, fun _ _ => by simp only [evalOp, hp, if_pos hc, Option.bind_some]⟩
      · cases h
  | field g off n x =>
    simp only [evalOp, Option.bind_eq_some_iff] at h
    obtain ⟨p, hp, h⟩ := h
    cases p <;> simp only [reduceCtorEq] at h
    split at h
    · rename_i hc
      simp only [Option.bind_eq_some_iff] at h
      obtain ⟨r, hr, h⟩ := h
      simp only [Option.some.injEq, Prod.mk.injEq] at h
      obtain ⟨rfl, rfl, rfl⟩ := h
      exact ⟨rfl, fun _ _ => by simp only [evalOp, hp, if_pos hc, hr, Option.bind_some]⟩
    · cases h
  | extractn i x =>
    simp only [evalOp, Option.bind_eq_some_iff] at h
    obtain ⟨p, hp, h⟩ := h
    cases p <;> simp only [reduceCtorEq, Option.bind_eq_some_iff] at h
    obtain ⟨r, hr, h⟩ := h
    simp only [Option.some.injEq, Prod.mk.injEq] at h
    obtain ⟨rfl, rfl, rfl⟩ := h
    exact ⟨rfl, fun _ _ => by simp only [evalOp, hp, hr, Option.bind_some]⟩
  | len st x =>
    simp only [evalOp, Option.bind_eq_some_iff] at h
    obtain ⟨p, hp, h⟩ := h
    cases st <;> cases p <;> simp only [reduceCtorEq] at h
    all_goals
      simp only [Option.some.injEq, Prod.mk.injEq] at h
      obtain ⟨rfl, rfl, rfl⟩ := h
      exact ⟨rfl, fun _ _ => by simp only [evalOp, hp, Option.bind_some]⟩
  | loadr g n x =>
    simp only [evalOp, Option.bind_eq_some_iff] at h
    obtain ⟨p, hp, h⟩ := h
    cases p <;> simp only [reduceCtorEq] at h
    split at h
    · rename_i hc
      simp only [Option.bind_eq_some_iff] at h
      obtain ⟨r, hr, h⟩ := h
      simp only [Option.some.injEq, Prod.mk.injEq] at h
      obtain ⟨rfl, rfl, rfl⟩ := h
      exact ⟨rfl, fun _ _ => by simp only [evalOp, hp, if_pos hc, hr, Option.bind_some]⟩
    · cases h
  | eqs ne ks x y =>
    simp only [evalOp, Option.bind_eq_some_iff] at h
    obtain ⟨p, hp, q, hq, h⟩ := h
    cases p <;> cases q <;> simp only [reduceCtorEq, Option.bind_eq_some_iff] at h
    obtain ⟨r, hr, h⟩ := h
    simp only [Option.some.injEq, Prod.mk.injEq] at h
    obtain ⟨rfl, rfl, rfl⟩ := h
    exact ⟨rfl, fun _ _ => by simp only [evalOp, hp, hq, hr, Option.bind_some]⟩
  | eqb ne x y =>
    simp only [evalOp, Option.bind_eq_some_iff] at h
    obtain ⟨p, hp, q, hq, h⟩ := h
    cases p <;> cases q <;> simp only [reduceCtorEq] at h
    simp only [Option.some.injEq, Prod.mk.injEq] at h
    obtain ⟨rfl, rfl, rfl⟩ := h
    exact ⟨rfl, fun _ _ => by simp only [evalOp, hp, hq, Option.bind_some]⟩
  | index esz x y =>
    simp only [evalOp, Option.bind_eq_some_iff] at h
    obtain ⟨p, hp, q, hq, h⟩ := h
    cases p <;> cases q <;> simp only [reduceCtorEq] at h
    split at h
    · rename_i hc
      simp only [Option.bind_eq_some_iff] at h
      obtain ⟨r, hr, h⟩ := h
      split at h
      · rename_i hc2
        simp only [Option.some.injEq, Prod.mk.injEq] at h
        obtain ⟨rfl, rfl, rfl⟩ := h
        exact ⟨rfl, fun _ _ => by simp only [evalOp, hp, hq, if_pos hc, hr, if_pos hc2, Option.bind_some]⟩
      · cases h
    · cases h
  | indexArr len esz x y =>
    simp only [evalOp, Option.bind_eq_some_iff] at h
    obtain ⟨p, hp, q, hq, h⟩ := h
    cases p <;> cases q <;> simp only [reduceCtorEq] at h
    all_goals
      split at h
      · rename_i hc
        simp only [Option.some.injEq, Prod.mk.injEq] at h
        obtain ⟨rfl, rfl, rfl⟩ := h
        exact ⟨rfl, fun _ _ => by simp only [evalOp, hp, hq, if_pos hc, Option.bind_some]⟩
      · cases h
  | «at» x y =>
    simp only [evalOp, Option.bind_eq_some_iff] at h
    obtain ⟨p, hp, q, hq, h⟩ := h
    cases p <;> cases q <;> simp only [reduceCtorEq] at h
    split at h
    · rename_i hc
      simp only [Option.bind_eq_some_iff] at h
      obtain ⟨r, hr, h⟩ := h
      simp only [Option.some.injEq, Prod.mk.injEq] at h
      obtain ⟨rfl, rfl, rfl⟩ := h
      exact ⟨rfl, fun _ _ => by simp only [evalOp, hp, hq, if_pos hc, hr, Option.bind_some]⟩
    · cases h
  | min2 x y =>
    simp only [evalOp, Option.bind_eq_some_iff] at h
    obtain ⟨p, hp, q, hq, h⟩ := h
    cases p <;> cases q <;> simp only [reduceCtorEq] at h
    split at h
    · rename_i hc
      simp only [Option.some.injEq, Prod.mk.injEq] at h
      obtain ⟨rfl, rfl, rfl⟩ := h
      exact ⟨rfl, fun _ _ => by simp only [evalOp, hp, hq, if_pos hc, Option.bind_some]⟩
    · cases h
  | max2 x y =>
    simp only [evalOp, Option.bind_eq_some_iff] at h
    obtain ⟨p, hp, q, hq, h⟩ := h
    cases p <;> cases q <;> simp only [reduceCtorEq] at h
    split at h
    · rename_i hc
      simp only [Option.some.injEq, Prod.mk.injEq] at h
      obtain ⟨rfl, rfl, rfl⟩ := h
      exact ⟨rfl, fun _ _ => by simp only [evalOp, hp, hq, if_pos hc, Option.bind_some]⟩
    · cases h
end
end Go.Mir
