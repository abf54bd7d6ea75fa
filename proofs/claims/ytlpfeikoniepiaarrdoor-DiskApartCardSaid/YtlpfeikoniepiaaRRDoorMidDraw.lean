/- Regions whose order is open: operations look at their operands alone. -/
import Derived.Test.YtlpfeikoniepiaaRRDoorMidStep
import Derived.Test.YtlpfeikoniepiaaRRDoorMidLim
import Derived.Test.YtlpfeikoniepiaaRRDoorMidSound0
import Derived.Orders
set_option linter.all false
namespace Go.Mir
set_option linter.unusedVariables false
set_option linter.unusedSectionVars false
set_option linter.unusedSimpArgs false

section
variable {run : Run} {esc : Nat → Bool} {base : Nat} {e e' : Env} {σ σ1 : St} {d : Dat} {e1 : Env}

theorem ev_congr {x : MArg} (h : ∀ t ∈ argR x, Env.get e' t = Env.get e t) : x.ev e' = x.ev e := by
  cases x with
  | tmp t => exact h t (by simp [argR])
  | lit d => rfl
theorem evs_congr : ∀ {l : List MArg}, (∀ t ∈ l.flatMap argR, Env.get e' t = Env.get e t) → MArg.evs e' l = MArg.evs e l
  | [], _ => rfl
  | x :: l, h => by
    simp only [MArg.evs]
    rw [ev_congr (x := x) fun t ht => h t (by simp [ht]), evs_congr (l := l) fun t ht => h t (by simp only [List.flatMap_cons, List.mem_append]; exact .inr ht)]
theorem bound_congr {n : Nat} {x : Option MArg} (h : ∀ t ∈ optR x, Env.get e' t = Env.get e t) : bound e' n x = bound e n x := by
  cases x with
  | none => rfl
  | some x => simp only [bound, ev_congr (x := x) fun t ht => h t (by simpa [optR] using ht)]
theorem fillD_congr : ∀ {ps : List (Nat × Nat × MArg)} {cs : List Dat}, (∀ t ∈ ps.flatMap (fun (_, _, x) => argR x), Env.get e' t = Env.get e t) → fillD e' cs ps = fillD e cs ps
  | [], _, _ => rfl
  | (off, n, x) :: r, cs, h => by
    simp only [fillD]
    rw [ev_congr (x := x) fun t ht => h t (by simp [ht])]
    congr 1
    funext d
    congr 1
    funext l
    split
    · exact fillD_congr fun t ht => h t (by simp only [List.flatMap_cons, List.mem_append]; exact .inr ht)
    · rfl
theorem elemsD_congr {esz : Nat} : ∀ {ps : List MArg}, (∀ t ∈ ps.flatMap argR, Env.get e' t = Env.get e t) → elemsD e' esz ps = elemsD e esz ps
  | [], _ => rfl
  | x :: r, h => by
    simp only [elemsD]
    rw [ev_congr (x := x) fun t ht => h t (by simp [ht]), elemsD_congr (ps := r) fun t ht => h t (by simp only [List.flatMap_cons, List.mem_append]; exact .inr ht)]

theorem get_take {x : MArg} {t : Nat} (h : t ∉ argR x) : Env.get (x.take e) t = Env.get e t := by
  cases x with
  | lit d => rfl
  | tmp n =>
    simp only [MArg.take]
    split
    · exact Env.get_put_other _ _ (by simpa [argR] using h)
    · rfl

/-- What an operation does hangs on its operands alone. -/
theorem evalOp_env {op : MOp} (hd : drawable op = true) (agree : ∀ t ∈ opR op, Env.get e' t = Env.get e t) (h : evalOp run esc base e σ op = some (d, e1, σ1)) :
    ∃ e1', evalOp run esc base e' σ op = some (d, e1', σ1) ∧ (∀ t, t ∉ takesOf op → Env.get e1' t = Env.get e' t) ∧ (∀ t, t ∉ takesOf op → Env.get e1 t = Env.get e t) := by
  have hx : ∀ x : MArg, (∀ t ∈ argR x, t ∈ opR op) → x.ev e' = x.ev e := fun x hx => ev_congr fun t ht => agree t (hx t ht)
  have plain : e1 = e → evalOp run esc base e' σ op = some (d, e', σ1) → ∃ e1', evalOp run esc base e' σ op = some (d, e1', σ1) ∧ (∀ t, t ∉ takesOf op → Env.get e1' t = Env.get e' t) ∧ (∀ t, t ∉ takesOf op → Env.get e1 t = Env.get e t) := by
    rintro rfl h
    exact ⟨e', h, fun _ _ => rfl, fun _ _ => rfl⟩
  cases op with
  | mov mv x =>
    have e1 := hx x (by simp [opR])
    cases mv with
    | true =>
      simp only [evalOp, Option.bind_eq_some_iff, Option.some.injEq, Prod.mk.injEq] at h
      obtain ⟨c, hc, rfl, rfl, rfl⟩ := h
      exact ⟨_, by simp only [evalOp, e1, hc, Option.bind_some], fun t ht => get_take ht, fun t ht => get_take ht⟩
    | false =>
      simp only [evalOp, Option.bind_eq_some_iff, Option.some.injEq, Prod.mk.injEq] at h
      obtain ⟨c, hc, rfl, rfl, rfl⟩ := h
      exact ⟨_, by simp only [evalOp, e1, hc, Option.bind_some], fun t ht => rfl, fun t ht => rfl⟩
  | box n x =>
    have e1 := hx x (by simp [opR])
    simp only [evalOp, Option.bind_eq_some_iff] at h
    obtain ⟨c, hc, l, hl, h⟩ := h
    split at h
    · rename_i hn
      simp only [Option.some.injEq, Prod.mk.injEq] at h
      obtain ⟨rfl, rfl, rfl⟩ := h
      exact ⟨_, by simp only [evalOp, e1, hc, hl, Option.bind_some, if_pos hn], fun t ht => get_take ht, fun t ht => get_take ht⟩
    · cases h
  | store n a v =>
    have e1 := hx a (by simp only [opR, List.mem_append]; exact fun t ht => .inl ht)
    have e2 := hx v (by simp only [opR, List.mem_append]; exact fun t ht => .inr ht)
    simp only [evalOp, Option.bind_eq_some_iff] at h
    obtain ⟨p, hp, h⟩ := h
    cases p <;> simp only [reduceCtorEq, Option.bind_eq_some_iff] at h
    obtain ⟨c, hc, l, hl, cs, hcs, h⟩ := h
    split at h
    · rename_i hn
      simp only [Option.some.injEq, Prod.mk.injEq] at h
      obtain ⟨rfl, rfl, rfl⟩ := h
      exact ⟨_, by simp only [evalOp, e1, e2, hp, hc, hl, hcs, Option.bind_some, if_pos hn], fun t ht => get_take ht, fun t ht => get_take ht⟩
    · cases h
  | append st esz bytes x y =>
    have e1 := hx x (by simp only [opR, List.mem_append]; exact fun t ht => .inl ht)
    have e2 := hx y (by simp only [opR, List.mem_append]; exact fun t ht => .inr ht)
    simp only [evalOp, Option.bind_eq_some_iff] at h
    obtain ⟨p, hp, q, hq, h⟩ := h
    cases p <;> simp only [reduceCtorEq, Option.bind_eq_some_iff] at h
    obtain ⟨ys, hys, h⟩ := h
    split at h
    · rename_i hn
      simp only [Option.some.injEq, Prod.mk.injEq] at h
      obtain ⟨rfl, rfl, rfl⟩ := h
      exact ⟨_, by simp only [evalOp, e1, e2, hp, hq, hys, Option.bind_some, if_pos hn], fun t ht => get_take ht, fun t ht => get_take ht⟩
    · rename_i hn
      split at h
      · rename_i hn2
        simp only [Option.some.injEq, Prod.mk.injEq] at h
        obtain ⟨rfl, rfl, rfl⟩ := h
        exact ⟨_, by simp only [evalOp, e1, e2, hp, hq, hys, Option.bind_some, if_neg hn, if_pos hn2], fun t ht => get_take ht, fun t ht => get_take ht⟩
      · cases h
  | storef n a v rs => simp [drawable] at hd
  | call f l => simp [drawable] at hd
  | nat k l => simp [drawable] at hd
  | s2b x => simp [drawable] at hd
  | b2s x => simp [drawable] at hd
  | extract i x => simp [drawable] at hd
  | load mv g n x =>
    cases mv with
    | true => simp [drawable] at hd
    | false =>
      have e1 := hx x (by simp [opR])
      simp only [evalOp, Option.bind_eq_some_iff, Bool.false_eq_true, if_false, Option.some.injEq, Prod.mk.injEq] at h
      obtain ⟨p, hp, c, hc, rfl, rfl, rfl⟩ := h
      exact ⟨_, by simp only [evalOp, e1, hp, hc, Option.bind_some, Bool.false_eq_true, if_false], fun t ht => rfl, fun t ht => rfl⟩
  | nilCheck x =>
    have q1 := hx x (by simp [opR])
    simp only [evalOp, Option.bind_eq_some_iff] at h
    obtain ⟨p, hp, h⟩ := h
    cases p <;> simp only [reduceCtorEq] at h
    all_goals
      simp only [Option.some.injEq, Prod.mk.injEq] at h
      obtain ⟨rfl, rfl, rfl⟩ := h
      exact plain rfl (by simp only [evalOp, q1, hp, Option.bind_some])
  | un o x =>
    have q1 := hx x (by simp [opR])
    simp only [evalOp, Option.bind_eq_some_iff] at h
    obtain ⟨p, hp, h⟩ := h
    cases o <;> cases p <;> simp only [reduceCtorEq] at h
    all_goals
      simp only [Option.some.injEq, Prod.mk.injEq] at h
      obtain ⟨rfl, rfl, rfl⟩ := h
      exact plain rfl (by simp only [evalOp, q1, hp, Option.bind_some])
  | conv k x =>
    have q1 := hx x (by simp [opR])
    simp only [evalOp, Option.bind_eq_some_iff] at h
    obtain ⟨p, hp, h⟩ := h
    cases p <;> simp only [reduceCtorEq] at h
    simp only [Option.some.injEq, Prod.mk.injEq] at h
    obtain ⟨rfl, rfl, rfl⟩ := h
    exact plain rfl (by simp only [evalOp, q1, hp, Option.bind_some])
  | fieldAddr off x =>
    have q1 := hx x (by simp [opR])
    simp only [evalOp, Option.bind_eq_some_iff] at h
    obtain ⟨p, hp, h⟩ := h
    cases p <;> simp only [reduceCtorEq] at h
    · simp only [Option.some.injEq, Prod.mk.injEq] at h
      obtain ⟨rfl, rfl, rfl⟩ := h
      exact plain rfl (by simp only [evalOp, q1, hp, Option.bind_some])
    · split at h
      · rename_i hc
        simp only [Option.some.injEq, Prod.mk.injEq] at h
        obtain ⟨rfl, rfl, rfl⟩ := h
        exact plain rfl (by simp only [evalOp, q1, hp, if_pos hc, Option.bind_some])
      · cases h
  | field g off n x =>
    have q1 := hx x (by simp [opR])
    simp only [evalOp, Option.bind_eq_some_iff] at h
    obtain ⟨p, hp, h⟩ := h
    cases p <;> simp only [reduceCtorEq] at h
    split at h
    · rename_i hc
      simp only [Option.bind_eq_some_iff] at h
      obtain ⟨r, hr, h⟩ := h
      simp only [Option.some.injEq, Prod.mk.injEq] at h
      obtain ⟨rfl, rfl, rfl⟩ := h
      exact plain rfl (by simp only [evalOp, q1, hp, if_pos hc, hr, Option.bind_some])
    · cases h
  | extractn i x =>
    have q1 := hx x (by simp [opR])
    simp only [evalOp, Option.bind_eq_some_iff] at h
    obtain ⟨p, hp, h⟩ := h
    cases p <;> simp only [reduceCtorEq, Option.bind_eq_some_iff] at h
    obtain ⟨r, hr, h⟩ := h
    simp only [Option.some.injEq, Prod.mk.injEq] at h
    obtain ⟨rfl, rfl, rfl⟩ := h
    exact plain rfl (by simp only [evalOp, q1, hp, hr, Option.bind_some])
  | len st x =>
    have q1 := hx x (by simp [opR])
    simp only [evalOp, Option.bind_eq_some_iff] at h
    obtain ⟨p, hp, h⟩ := h
    cases st <;> cases p <;> simp only [reduceCtorEq] at h
    all_goals
      simp only [Option.some.injEq, Prod.mk.injEq] at h
      obtain ⟨rfl, rfl, rfl⟩ := h
      exact plain rfl (by simp only [evalOp, q1, hp, Option.bind_some])
  | loadr g n x =>
    have q1 := hx x (by simp [opR])
    simp only [evalOp, Option.bind_eq_some_iff] at h
    obtain ⟨p, hp, h⟩ := h
    cases p <;> simp only [reduceCtorEq] at h
    split at h
    · rename_i hc
      simp only [Option.bind_eq_some_iff] at h
      obtain ⟨r, hr, h⟩ := h
      simp only [Option.some.injEq, Prod.mk.injEq] at h
      obtain ⟨rfl, rfl, rfl⟩ := h
      exact plain rfl (by simp only [evalOp, q1, hp, if_pos hc, hr, Option.bind_some])
    · cases h
  | bin bo x y =>
    have q1 := hx x (by simp only [opR, List.mem_append]; exact fun t ht => by simp [ht])
    have q2 := hx y (by simp only [opR, List.mem_append]; exact fun t ht => by simp [ht])
    simp only [evalOp, Option.bind_eq_some_iff] at h
    obtain ⟨p, hp, q, hq, r, hr, h⟩ := h
    simp only [Option.some.injEq, Prod.mk.injEq] at h
    obtain ⟨rfl, rfl, rfl⟩ := h
    exact plain rfl (by simp only [evalOp, q1, q2, hp, hq, hr, Option.bind_some])
  | eqs ne ks x y =>
    have q1 := hx x (by simp only [opR, List.mem_append]; exact fun t ht => by simp [ht])
    have q2 := hx y (by simp only [opR, List.mem_append]; exact fun t ht => by simp [ht])
    simp only [evalOp, Option.bind_eq_some_iff] at h
    obtain ⟨p, hp, q, hq, h⟩ := h
    cases p <;> cases q <;> simp only [reduceCtorEq, Option.bind_eq_some_iff] at h
    obtain ⟨r, hr, h⟩ := h
    simp only [Option.some.injEq, Prod.mk.injEq] at h
    obtain ⟨rfl, rfl, rfl⟩ := h
    exact plain rfl (by simp only [evalOp, q1, q2, hp, hq, hr, Option.bind_some])
  | eqb ne x y =>
    have q1 := hx x (by simp only [opR, List.mem_append]; exact fun t ht => by simp [ht])
    have q2 := hx y (by simp only [opR, List.mem_append]; exact fun t ht => by simp [ht])
    simp only [evalOp, Option.bind_eq_some_iff] at h
    obtain ⟨p, hp, q, hq, h⟩ := h
    cases p <;> cases q <;> simp only [reduceCtorEq] at h
    simp only [Option.some.injEq, Prod.mk.injEq] at h
    obtain ⟨rfl, rfl, rfl⟩ := h
    exact plain rfl (by simp only [evalOp, q1, q2, hp, hq, Option.bind_some])
  | index esz x y =>
    have q1 := hx x (by simp only [opR, List.mem_append]; exact fun t ht => by simp [ht])
    have q2 := hx y (by simp only [opR, List.mem_append]; exact fun t ht => by simp [ht])
    simp only [evalOp, Option.bind_eq_some_iff] at h
    obtain ⟨p, hp, q, hq, h⟩ := h
    cases p <;> cases q <;> simp only [reduceCtorEq] at h
    split at h
    · rename_i hc
      simp only [Option.bind_eq_some_iff] at h
      obtain ⟨r, hr, h⟩ := h
      split at h
      · rename_i hc2
        simp only [Option.some.injEq, Prod.mk.injEq] at h
        obtain ⟨rfl, rfl, rfl⟩ := h
        exact plain rfl (by simp only [evalOp, q1, q2, hp, hq, if_pos hc, hr, if_pos hc2, Option.bind_some])
      · cases h
    · cases h
  | indexArr len esz x y =>
    have q1 := hx x (by simp only [opR, List.mem_append]; exact fun t ht => by simp [ht])
    have q2 := hx y (by simp only [opR, List.mem_append]; exact fun t ht => by simp [ht])
    simp only [evalOp, Option.bind_eq_some_iff] at h
    obtain ⟨p, hp, q, hq, h⟩ := h
    cases p <;> cases q <;> simp only [reduceCtorEq] at h
    all_goals
      split at h
      · rename_i hc
        simp only [Option.some.injEq, Prod.mk.injEq] at h
        obtain ⟨rfl, rfl, rfl⟩ := h
        exact plain rfl (by simp only [evalOp, q1, q2, hp, hq, if_pos hc, Option.bind_some])
      · cases h
  | «at» x y =>
    have q1 := hx x (by simp only [opR, List.mem_append]; exact fun t ht => by simp [ht])
    have q2 := hx y (by simp only [opR, List.mem_append]; exact fun t ht => by simp [ht])
    simp only [evalOp, Option.bind_eq_some_iff] at h
    obtain ⟨p, hp, q, hq, h⟩ := h
    cases p <;> cases q <;> simp only [reduceCtorEq] at h
    split at h
    · rename_i hc
      simp only [Option.bind_eq_some_iff] at h
      obtain ⟨r, hr, h⟩ := h
      simp only [Option.some.injEq, Prod.mk.injEq] at h
      obtain ⟨rfl, rfl, rfl⟩ := h
      exact plain rfl (by simp only [evalOp, q1, q2, hp, hq, if_pos hc, hr, Option.bind_some])
    · cases h
  | min2 x y =>
    have q1 := hx x (by simp only [opR, List.mem_append]; exact fun t ht => by simp [ht])
    have q2 := hx y (by simp only [opR, List.mem_append]; exact fun t ht => by simp [ht])
    simp only [evalOp, Option.bind_eq_some_iff] at h
    obtain ⟨p, hp, q, hq, h⟩ := h
    cases p <;> cases q <;> simp only [reduceCtorEq] at h
    split at h
    · rename_i hc
      simp only [Option.some.injEq, Prod.mk.injEq] at h
      obtain ⟨rfl, rfl, rfl⟩ := h
      exact plain rfl (by simp only [evalOp, q1, q2, hp, hq, if_pos hc, Option.bind_some])
    · cases h
  | max2 x y =>
    have q1 := hx x (by simp only [opR, List.mem_append]; exact fun t ht => by simp [ht])
    have q2 := hx y (by simp only [opR, List.mem_append]; exact fun t ht => by simp [ht])
    simp only [evalOp, Option.bind_eq_some_iff] at h
    obtain ⟨p, hp, q, hq, h⟩ := h
    cases p <;> cases q <;> simp only [reduceCtorEq] at h
    split at h
    · rename_i hc
      simp only [Option.some.injEq, Prod.mk.injEq] at h
      obtain ⟨rfl, rfl, rfl⟩ := h
      exact plain rfl (by simp only [evalOp, q1, q2, hp, hq, if_pos hc, Option.bind_some])
    · cases h
  | pick c x y =>
    have q0 := hx c (by simp only [opR, List.mem_append]; exact fun t ht => by simp [ht])
    have q1 := hx x (by simp only [opR, List.mem_append]; exact fun t ht => by simp [ht])
    have q2 := hx y (by simp only [opR, List.mem_append]; exact fun t ht => by simp [ht])
    simp only [evalOp, Option.bind_eq_some_iff] at h
    obtain ⟨p, hp, h⟩ := h
    cases p <;> simp only [reduceCtorEq, Option.bind_eq_some_iff] at h
    rename_i b
    obtain ⟨r, hr, h⟩ := h
    simp only [Option.some.injEq, Prod.mk.injEq] at h
    obtain ⟨rfl, rfl, rfl⟩ := h
    refine plain rfl ?_
    simp only [evalOp, q0, q1, q2, hp, Option.bind_some]
    rw [hr]
    rfl
  | alloc z =>
    simp only [evalOp, Option.some.injEq, Prod.mk.injEq] at h
    obtain ⟨rfl, rfl, rfl⟩ := h
    exact plain rfl rfl
  | build z ps =>
    simp only [evalOp, Option.bind_eq_some_iff, Option.some.injEq, Prod.mk.injEq] at h
    obtain ⟨cs, hcs, rfl, rfl, rfl⟩ := h
    exact plain rfl (by simp only [evalOp]; rw [fillD_congr (e := e) agree, hcs]; rfl)
  | buildSlice n ps =>
    simp only [evalOp, Option.bind_eq_some_iff, Option.some.injEq, Prod.mk.injEq] at h
    obtain ⟨cs, hcs, rfl, rfl, rfl⟩ := h
    exact plain rfl (by simp only [evalOp]; rw [elemsD_congr (e := e) agree, hcs]; rfl)
  | mkfn f l =>
    simp only [evalOp, Option.bind_eq_some_iff, Option.some.injEq, Prod.mk.injEq] at h
    obtain ⟨cs, hcs, rfl, rfl, rfl⟩ := h
    exact plain rfl (by simp only [evalOp]; rw [evs_congr (e := e) agree, hcs]; rfl)
  | callc f l =>
    have q1 := hx f (by simp only [opR, List.mem_append]; exact fun t ht => by simp [ht])
    have q2 := evs_congr (e := e) (e' := e') (l := l) (fun t ht => agree t (by simp only [opR, List.mem_append]; exact .inr ht))
    simp only [evalOp, Option.bind_eq_some_iff] at h
    obtain ⟨p, hp, h⟩ := h
    cases p <;> simp only [reduceCtorEq, Option.bind_eq_some_iff] at h
    obtain ⟨q, hq, r, hr, h⟩ := h
    simp only [Option.some.injEq, Prod.mk.injEq] at h
    obtain ⟨rfl, rfl, rfl⟩ := h
    exact plain rfl (by simp only [evalOp, q1, q2, hp, hq, hr, Option.bind_some])
  | callr f l =>
    have q1 := hx f (by simp only [opR, List.mem_append]; exact fun t ht => by simp [ht])
    have q2 := evs_congr (e := e) (e' := e') (l := l) (fun t ht => agree t (by simp only [opR, List.mem_append]; exact .inr ht))
    simp only [evalOp, Option.bind_eq_some_iff] at h
    obtain ⟨p, hp, h⟩ := h
    cases p <;> simp only [reduceCtorEq, Option.bind_eq_some_iff] at h
    obtain ⟨q, hq, r, hr, h⟩ := h
    simp only [Option.some.injEq, Prod.mk.injEq] at h
    obtain ⟨rfl, rfl, rfl⟩ := h
    exact plain rfl (by simp only [evalOp, q1, q2, hp, hq, hr, Option.bind_some])
  | slice esz x lo hi mx =>
    have q1 := hx x (by simp only [opR, List.mem_append]; exact fun t ht => by simp [ht])
    have b1 : ∀ n, bound e' n lo = bound e n lo := fun n => bound_congr fun t ht => agree t (by simp [opR, ht])
    have b2 : ∀ n, bound e' n hi = bound e n hi := fun n => bound_congr fun t ht => agree t (by simp [opR, ht])
    have b3 : ∀ n, bound e' n mx = bound e n mx := fun n => bound_congr fun t ht => agree t (by simp [opR, ht])
    simp only [evalOp, Option.bind_eq_some_iff] at h
    obtain ⟨p, hp, h⟩ := h
    cases p <;> simp only [reduceCtorEq, Option.bind_eq_some_iff] at h
    obtain ⟨l, hl, hh, hhh, m, hm, h⟩ := h
    split at h
    · rename_i hc
      simp only [Option.some.injEq, Prod.mk.injEq] at h
      obtain ⟨rfl, rfl, rfl⟩ := h
      exact plain rfl (by simp only [evalOp, q1, hp, b1, b2, b3, hl, hhh, hm, Option.bind_some]; rw [if_pos hc])
    · cases h
  | substr x lo hi =>
    have q1 := hx x (by simp only [opR, List.mem_append]; exact fun t ht => by simp [ht])
    have b1 : ∀ n, bound e' n lo = bound e n lo := fun n => bound_congr fun t ht => agree t (by simp [opR, ht])
    have b2 : ∀ n, bound e' n hi = bound e n hi := fun n => bound_congr fun t ht => agree t (by simp [opR, ht])
    simp only [evalOp, Option.bind_eq_some_iff] at h
    obtain ⟨p, hp, h⟩ := h
    cases p <;> simp only [reduceCtorEq, Option.bind_eq_some_iff] at h
    obtain ⟨l, hl, hh, hhh, h⟩ := h
    split at h
    · rename_i hc
      simp only [Option.some.injEq, Prod.mk.injEq] at h
      obtain ⟨rfl, rfl, rfl⟩ := h
      exact plain rfl (by simp only [evalOp, q1, hp, b1, b2, hl, hhh, Option.bind_some]; rw [if_pos hc])
    · cases h

/-- What looks at no variable. -/
theorem evalOp_free {op : MOp} (hd : drawable op = true) (hw : isW op = false) (hr : isR op = false) (ha : isAlloc op = false) (hc : isC op = false) (h : evalOp run esc base e σ op = some (d, e1, σ1)) : σ1 = σ ∧ ∀ base' σ', evalOp run esc base' e σ' op = some (d, e1, σ') := by
  cases op with
  | mov mv x =>
    cases mv <;>
    · simp only [evalOp, Option.bind_eq_some_iff, Option.some.injEq, Prod.mk.injEq] at h
      obtain ⟨c, hc, rfl, rfl, rfl⟩ := h
      exact ⟨rfl, fun _ _ => by simp only [evalOp, hc, Option.bind_some]⟩
  | box n x => simp [isW] at hw
  | store n a v => simp [isW] at hw
  | load mv g n x => simp [isR] at hr
  | alloc z => simp [isAlloc] at ha
  | call f l => simp [drawable] at hd
  | nat k l => simp [drawable] at hd
  | s2b x => simp [drawable] at hd
  | b2s x => simp [drawable] at hd
  | storef n a v rs => simp [drawable] at hd
  | callr f l => simp [isC] at hc
  | extract i x => simp [drawable] at hd
  | build z ps | buildSlice n ps | mkfn f l =>
    simp only [evalOp, Option.bind_eq_some_iff, Option.some.injEq, Prod.mk.injEq] at h
    obtain ⟨c, hc, rfl, rfl, rfl⟩ := h
    exact ⟨rfl, fun _ _ => by simp only [evalOp, hc, Option.bind_some]⟩
  | bin bo x y =>
    simp only [evalOp, Option.bind_eq_some_iff, Option.some.injEq, Prod.mk.injEq] at h
    obtain ⟨p, hp, q, hq, c, hc, rfl, rfl, rfl⟩ := h
    exact ⟨rfl, fun _ _ => by simp only [evalOp, hp, hq, hc, Option.bind_some]⟩
  | append st esz bytes x y =>
    simp only [evalOp, Option.bind_eq_some_iff] at h
    obtain ⟨p, hp, q, hq, h⟩ := h
    cases p <;> simp only [reduceCtorEq, Option.bind_eq_some_iff] at h
    obtain ⟨ys, hys, h⟩ := h
    split at h
    · rename_i hn
      simp only [Option.some.injEq, Prod.mk.injEq] at h
      obtain ⟨rfl, rfl, rfl⟩ := h
      exact ⟨rfl, fun _ _ => by simp only [evalOp, hp, hq, hys, Option.bind_some, if_pos hn]⟩
    · rename_i hn
      split at h
      · rename_i hn2
        simp only [Option.some.injEq, Prod.mk.injEq] at h
        obtain ⟨rfl, rfl, rfl⟩ := h
        exact ⟨rfl, fun _ _ => by simp only [evalOp, hp, hq, hys, Option.bind_some, if_neg hn, if_pos hn2]⟩
      · cases h
  | pick c x y =>
    simp only [evalOp, Option.bind_eq_some_iff] at h
    obtain ⟨p, hp, h⟩ := h
    cases p <;> simp only [reduceCtorEq, Option.bind_eq_some_iff] at h
    obtain ⟨r, hr, h⟩ := h
    simp only [Option.some.injEq, Prod.mk.injEq] at h
    obtain ⟨rfl, rfl, rfl⟩ := h
    refine ⟨rfl, fun _ _ => ?_⟩
    simp only [evalOp, hp, Option.bind_some]
    rw [hr]
    rfl
  | callc f l =>
    simp only [evalOp, Option.bind_eq_some_iff] at h
    obtain ⟨p, hp, h⟩ := h
    cases p <;> simp only [reduceCtorEq, Option.bind_eq_some_iff] at h
    obtain ⟨q, hq, r, hr, h⟩ := h
    simp only [Option.some.injEq, Prod.mk.injEq] at h
    obtain ⟨rfl, rfl, rfl⟩ := h
    exact ⟨rfl, fun _ _ => by simp only [evalOp, hp, hq, hr, Option.bind_some]⟩
  | slice esz x lo hi mx =>
    simp only [evalOp, Option.bind_eq_some_iff] at h
    obtain ⟨p, hp, h⟩ := h
    cases p <;> simp only [reduceCtorEq, Option.bind_eq_some_iff] at h
    obtain ⟨l, hl, hh, hhh, m, hm, h⟩ := h
    split at h
    · rename_i hc
      simp only [Option.some.injEq, Prod.mk.injEq] at h
      obtain ⟨rfl, rfl, rfl⟩ := h
      exact ⟨rfl, fun _ _ => by simp only [evalOp, hp, hl, hhh, hm, Option.bind_some]; rw [if_pos hc]⟩
    · cases h
  | substr x lo hi =>
    simp only [evalOp, Option.bind_eq_some_iff] at h
    obtain ⟨p, hp, h⟩ := h
    cases p <;> simp only [reduceCtorEq, Option.bind_eq_some_iff] at h
    obtain ⟨l, hl, hh, hhh, h⟩ := h
    split at h
    · rename_i hc
      simp only [Option.some.injEq, Prod.mk.injEq] at h
      obtain ⟨rfl, rfl, rfl⟩ := h
      exact ⟨rfl, fun _ _ => by simp only [evalOp, hp, hl, hhh, Option.bind_some]; rw [if_pos hc]⟩
    · cases h
  | nilCheck x =>
    simp only [evalOp, Option.bind_eq_some_iff] at h
    obtain ⟨p, hp, h⟩ := h
    cases p <;> simp only [reduceCtorEq] at h
    all_goals
      simp only [Option.some.injEq, Prod.mk.injEq] at h
      obtain ⟨rfl, rfl, rfl⟩ := h
      exact ⟨rfl, fun _ _ => by simp only [evalOp, hp, Option.bind_some]⟩
  | un o x =>
    simp only [evalOp, Option.bind_eq_some_iff] at h
    obtain ⟨p, hp, h⟩ := h
    cases o <;> cases p <;> simp only [reduceCtorEq] at h
    all_goals
      simp only [Option.some.injEq, Prod.mk.injEq] at h
      obtain ⟨rfl, rfl, rfl⟩ := h
      exact ⟨rfl, fun _ _ => by simp only [evalOp, hp, Option.bind_some]⟩
  | conv k x =>
    simp only [evalOp, Option.bind_eq_some_iff] at h
    obtain ⟨p, hp, h⟩ := h
    cases p <;> simp only [reduceCtorEq] at h
    simp only [Option.some.injEq, Prod.mk.injEq] at h
    obtain ⟨rfl, rfl, rfl⟩ := h
    exact ⟨rfl, fun _ _ => by simp only [evalOp, hp, Option.bind_some]⟩
  | fieldAddr off x =>
    simp only [evalOp, Option.bind_eq_some_iff] at h
    obtain ⟨p, hp, h⟩ := h
    cases p <;> simp only [reduceCtorEq] at h
    · simp only [Option.some.injEq, Prod.mk.injEq] at h
      obtain ⟨rfl, rfl, rfl⟩ := h
      exact ⟨rfl, fun _ _ => by simp only [evalOp, hp, Option.bind_some]⟩
    · split at h
      · rename_i hc
        simp only [Option.some.injEq, Prod.mk.injEq] at h
        obtain ⟨rfl, rfl, rfl⟩ := h
        exact ⟨rfl, fun _ _ => by simp only [evalOp, hp, if_pos hc, Option.bind_some]⟩
      · cases h
  | field g off n x =>
    simp only [evalOp, Option.bind_eq_some_iff] at h
    obtain ⟨p, hp, h⟩ := h
    cases p <;> simp only [reduceCtorEq] at h
    split at h
    · rename_i hc
      simp only [Option.bind_eq_some_iff] at h
      obtain ⟨r, hr, h⟩ := h
      simp only [Option.some.injEq, Prod.mk.injEq] at h
      obtain ⟨rfl, rfl, rfl⟩ := h
      exact ⟨rfl, fun _ _ => by simp only [evalOp, hp, if_pos hc, hr, Option.bind_some]⟩
    · cases h
  | extractn i x =>
    simp only [evalOp, Option.bind_eq_some_iff] at h
    obtain ⟨p, hp, h⟩ := h
    cases p <;> simp only [reduceCtorEq, Option.bind_eq_some_iff] at h
    obtain ⟨r, hr, h⟩ := h
    simp only [Option.some.injEq, Prod.mk.injEq] at h
    obtain ⟨rfl, rfl, rfl⟩ := h
    exact ⟨rfl, fun _ _ => by simp only [evalOp, hp, hr, Option.bind_some]⟩
  | len st x =>
    simp only [evalOp, Option.bind_eq_some_iff] at h
    obtain ⟨p, hp, h⟩ := h
    cases st <;> cases p <;> simp only [reduceCtorEq] at h
    all_goals
      simp only [Option.some.injEq, Prod.mk.injEq] at h
      obtain ⟨rfl, rfl, rfl⟩ := h
      exact ⟨rfl, fun _ _ => by simp only [evalOp, hp, Option.bind_some]⟩
  | loadr g n x =>
    simp only [evalOp, Option.bind_eq_some_iff] at h
    obtain ⟨p, hp, h⟩ := h
    cases p <;> simp only [reduceCtorEq] at h
    split at h
    · rename_i hc
      simp only [Option.bind_eq_some_iff] at h
      obtain ⟨r, hr, h⟩ := h
      simp only [Option.some.injEq, Prod.mk.injEq] at h
      obtain ⟨rfl, rfl, rfl⟩ := h
      exact ⟨rfl, fun _ _ => by simp only [evalOp, hp, if_pos hc, hr, Option.bind_some]⟩
    · cases h
  | eqs ne ks x y =>
    simp only [evalOp, Option.bind_eq_some_iff] at h
    obtain ⟨p, hp, q, hq, h⟩ := h
    cases p <;> cases q <;> simp only [reduceCtorEq, Option.bind_eq_some_iff] at h
    obtain ⟨r, hr, h⟩ := h
    simp only [Option.some.injEq, Prod.mk.injEq] at h
    obtain ⟨rfl, rfl, rfl⟩ := h
    exact ⟨rfl, fun _ _ => by simp only [evalOp, hp, hq, hr, Option.bind_some]⟩
  | eqb ne x y =>
    simp only [evalOp, Option.bind_eq_some_iff] at h
    obtain ⟨p, hp, q, hq, h⟩ := h
    cases p <;> cases q <;> simp only [reduceCtorEq] at h
    simp only [Option.some.injEq, Prod.mk.injEq] at h
    obtain ⟨rfl, rfl, rfl⟩ := h
    exact ⟨rfl, fun _ _ => by simp only [evalOp, hp, hq, Option.bind_some]⟩
  | index esz x y =>
    simp only [evalOp, Option.bind_eq_some_iff] at h
    obtain ⟨p, hp, q, hq, h⟩ := h
    cases p <;> cases q <;> simp only [reduceCtorEq] at h
    split at h
    · rename_i hc
      simp only [Option.bind_eq_some_iff] at h
      obtain ⟨r, hr, h⟩ := h
      split at h
      · rename_i hc2
        simp only [Option.some.injEq, Prod.mk.injEq] at h
        obtain ⟨rfl, rfl, rfl⟩ := h
        exact ⟨rfl, fun _ _ => by simp only [evalOp, hp, hq, if_pos hc, hr, if_pos hc2, Option.bind_some]⟩
      · cases h
    · cases h
  | indexArr len esz x y =>
    simp only [evalOp, Option.bind_eq_some_iff] at h
    obtain ⟨p, hp, q, hq, h⟩ := h
    cases p <;> cases q <;> simp only [reduceCtorEq] at h
    all_goals
      split at h
      · rename_i hc
        simp only [Option.some.injEq, Prod.mk.injEq] at h
        obtain ⟨rfl, rfl, rfl⟩ := h
        exact ⟨rfl, fun _ _ => by simp only [evalOp, hp, hq, if_pos hc, Option.bind_some]⟩
      · cases h
  | «at» x y =>
    simp only [evalOp, Option.bind_eq_some_iff] at h
    obtain ⟨p, hp, q, hq, h⟩ := h
    cases p <;> cases q <;> simp only [reduceCtorEq] at h
    split at h
    · rename_i hc
      simp only [Option.bind_eq_some_iff] at h
      obtain ⟨r, hr, h⟩ := h
      simp only [Option.some.injEq, Prod.mk.injEq] at h
      obtain ⟨rfl, rfl, rfl⟩ := h
      exact ⟨rfl, fun _ _ => by simp only [evalOp, hp, hq, if_pos hc, hr, Option.bind_some]⟩
    · cases h
  | min2 x y =>
    simp only [evalOp, Option.bind_eq_some_iff] at h
    obtain ⟨p, hp, q, hq, h⟩ := h
    cases p <;> cases q <;> simp only [reduceCtorEq] at h
    split at h
    · rename_i hc
      simp only [Option.some.injEq, Prod.mk.injEq] at h
      obtain ⟨rfl, rfl, rfl⟩ := h
      exact ⟨rfl, fun _ _ => by simp only [evalOp, hp, hq, if_pos hc, Option.bind_some]⟩
    · cases h
  | max2 x y =>
    simp only [evalOp, Option.bind_eq_some_iff] at h
    obtain ⟨p, hp, q, hq, h⟩ := h
    cases p <;> cases q <;> simp only [reduceCtorEq] at h
    split at h
    · rename_i hc
      simp only [Option.some.injEq, Prod.mk.injEq] at h
      obtain ⟨rfl, rfl, rfl⟩ := h
      exact ⟨rfl, fun _ _ => by simp only [evalOp, hp, hq, if_pos hc, Option.bind_some]⟩
    · cases h
/-- A call that leaves the variables. -/
theorem evalOp_c {op : MOp} (hc : isC op = true) (h : evalOp run esc base e σ op = some (d, e1, σ1)) : σ1 = σ ∧ ∀ base', evalOp run esc base' e σ op = some (d, e1, σ) := by
  cases op <;> simp only [isC, Bool.false_eq_true] at hc
  rename_i f l
  simp only [evalOp, Option.bind_eq_some_iff] at h
  obtain ⟨p, hp, h⟩ := h
  cases p <;> simp only [reduceCtorEq, Option.bind_eq_some_iff] at h
  obtain ⟨q, hq, r, hr, h⟩ := h
  simp only [Option.some.injEq, Prod.mk.injEq] at h
  obtain ⟨rfl, rfl, rfl⟩ := h
  exact ⟨rfl, fun _ => by simp only [evalOp, hp, hq, hr, Option.bind_some]⟩
end
end Go.Mir
/- Regions whose order is open: one operation of them. -/
namespace Go.Mir
set_option linter.unusedVariables false
set_option linter.unusedSectionVars false
set_option linter.unusedSimpArgs false

section
variable {P : Program} {N ntmps : Nat} {σ0 : St} {g0 : Gh} {w0 : World} {e : Env} {σ : St} {a : Act} {w : World} {g : Gh} {run : Run} {esc : Nat → Bool} {base : Nat} {dst : Option Nat} {d : Dat} {e1 : Env} {σ1 : St}

theorem op_extractn (h : Fr N ntmps σ0 g0 w0 e σ a w g) {x : Operand} {mx : MArg} (hx : argOf x = some mx) {i : Nat} (he : evalOp run esc base e σ (.extractn i mx) = some (d, e1, σ1)) :
    ∃ v, (Instr.extract (a.eval x) i).run P w = .ok v w ∧ Left N σ0 g0 w0 dst d v e1 σ1 a.tmps w g := by
  simp only [evalOp, Option.bind_eq_some_iff] at he
  obtain ⟨dx, hdx, he⟩ := he
  have ha := h.arg hx hdx
  cases dx <;> simp only [reduceCtorEq, Option.bind_eq_some_iff, Option.some.injEq, Prod.mk.injEq] at he
  rename_i cs
  obtain ⟨c, hc, rfl, rfl, rfl⟩ := he
  have hr := ha.rep
  simp only [Rep] at hr
  obtain ⟨vs, hvs, hl, hnt⟩ := hr
  obtain ⟨u, hu, hur⟩ := RepL_get hl hc
  have hcn : ∀ cs, c ≠ .tup cs := by
    rintro cs rfl
    have := List.all_eq_true.1 hnt _ (List.mem_of_getElem? hc)
    simp [Dat.noTup] at this
  refine ⟨u, ?_, h.left (Rep_strip1 hur) (fun _ _ => Own_strip1 hcn) (by rw [under_strip1]; exact underL_get (by simpa [Dat.under] using ha.under) hc)⟩
  rw [hvs]
  simp [Instr.extract, hu]

/-- An operation of an open region, the machine's and the mirror's. -/
theorem opd_ok (hk : CallsOk P run) (h : Fr N ntmps σ0 g0 w0 e σ a w g) (h0 : LB (N - 1) g0) (hN : 0 < N) (hbase : base = σ0.length) {o : Oper} {op : MOp} {quiet cmp : Bool} (hop : opOfD P quiet cmp o = some op)
    (he : evalOp run esc base e σ op = some (d, e1, σ1)) {K : Act → World → Prop} {Q : Exit → Act → World → Prop} (hK : ∀ v w' g', Left N σ0 g0 w0 o.dst d v e1 σ1 a.tmps w' g' → K (a.put o.dst v) w') : o.wp P a w K Q := by
  unfold opOfD at hop
  split at hop
  · rename_i f args ts ho
    simp only [Option.bind_eq_some_iff, Option.map_eq_some_iff] at hop
    obtain ⟨mf, hf, l, hl, rfl⟩ := hop
    refine op_call hk h h0 hN ho hf hl (e1 := e1) (σ1 := σ1) (d := d) (esc := esc) (base := base) ?_ hK
    have viaC : ∀ {f : Nat} {as : List Dat} {r : Dat}, callC run esc f as = some r → callD run esc f as σ = some (r, σ) := by
      intro f as r hr
      unfold callC at hr
      split at hr
      · rename_i hc
        simp only [Option.bind_eq_some_iff] at hr
        obtain ⟨⟨d2, σ2⟩, hrun, hr⟩ := hr
        split at hr
        · rename_i hc2
          injection hr with hr
          subst hr
          simp only [callD, if_pos hc, hrun, Option.bind_some, if_pos hc2]
        · cases hr
      · cases hr
    cases quiet with
    | false =>
      simp only [Bool.false_eq_true, if_false, evalOp, Option.bind_eq_some_iff] at he
      obtain ⟨p, hp, he⟩ := he
      cases p <;> simp only [reduceCtorEq, Option.bind_eq_some_iff] at he
      obtain ⟨q, hq, r, hr, he⟩ := he
      simp only [Option.some.injEq, Prod.mk.injEq] at he
      obtain ⟨rfl, rfl, rfl⟩ := he
      simp only [evalOp, hp, hq, Option.bind_some, viaC hr]
    | true =>
      simp only [if_true, evalOp, Option.bind_eq_some_iff] at he
      obtain ⟨p, hp, he⟩ := he
      cases p <;> simp only [reduceCtorEq, Option.bind_eq_some_iff] at he
      obtain ⟨q, hq, r, hr, he⟩ := he
      simp only [Option.some.injEq, Prod.mk.injEq] at he
      obtain ⟨rfl, rfl, rfl⟩ := he
      unfold callR at hr
      split at hr
      · simp only [evalOp, hp, hq, Option.bind_some, viaC hr]
      · rename_i hc
        simp only [Option.bind_eq_some_iff] at hr
        obtain ⟨⟨d2, σ2⟩, hrun, hr⟩ := hr
        split at hr
        · rename_i hb
          injection hr with hr
          subst hr
          obtain rfl := Dat.beqLL_eq hb
          simp only [evalOp, hp, hq, Option.bind_some, callD, if_neg hc, hrun]
        · cases hr
  · rename_i x i ho
    simp only [Option.map_eq_some_iff] at hop
    obtain ⟨mx, hx, rfl⟩ := hop
    obtain ⟨v, hr, hl⟩ := op_extractn (P := P) (dst := o.dst) h hx he
    have hrun : (execOp a.eval o).run P w = .ok (.value v) w := by
      simp only [execOp, ho, Sem.run_bind, hr, Result.andThen_ok, Sem.run_pure]
    unfold Oper.wp
    rw [hrun, Oper.upon_value]
    exact hK v w g hl
  · rename_i t x ho
    simp only [Option.bind_eq_some_iff] at hop
    obtain ⟨ag, ha, n, hn, s, hs, mx, hx, hop⟩ := hop
    split at hop
    · rename_i hone
      injection hop with hop
      have he' : evalOp run esc base e σ (.load false ag n mx) = some (d, e1, σ1) := by
        cases cmp with
        | true => exact (by simpa using hop : MOp.load false ag n mx = op) ▸ he
        | false =>
          have hop' : MOp.loadr ag n mx = op := by simpa using hop
          subst hop'
          simp only [evalOp, Option.bind_eq_some_iff] at he
          obtain ⟨p, hp, he⟩ := he
          cases p <;> simp only [reduceCtorEq] at he
          split at he
          · rename_i hc
            simp only [Option.bind_eq_some_iff, Option.some.injEq, Prod.mk.injEq] at he
            obtain ⟨r, hr, rfl, rfl, rfl⟩ := he
            simp only [evalOp, hp, Option.bind_some, loadD, if_pos hc, hr, Bool.false_eq_true, if_false]
          · cases he
      obtain ⟨v, g', hr, hl⟩ := op_load (s := s) h h0 hN hx ha hn (fun e => by simpa [oneOk, e] using hone) (fun e => by cases e) he'
      have hrun : (execOp a.eval o).run P w = .ok (.value v) w := by
        simp only [execOp, ho, Sem.run_bind, hr, Result.andThen_ok, Sem.run_pure]
      unfold Oper.wp
      rw [hrun, Oper.upon_value]
      exact hK v w g' (hs ▸ hl)
    · cases hop
  · exact op_ok hk h h0 hN hbase hop he hK

/-! ### from one state to the next -/
/-- the caller's own rows, told apart -/
def hide (N : Nat) : Place → Place
  | .slot m s i => if N ≤ m then .var 0 0 else .slot m s i
  | .away m s i => if N ≤ m then .var 0 0 else .away m s i
  | .var id i => .var id i
theorem Fr.here (h : Fr N ntmps σ0 g0 w0 e σ a w g) : Fr N ntmps σ (g.map (hide N)) w e σ a w g := by
  refine ⟨h.env, h.st, ⟨rfl, rfl, rfl, Nat.le_refl _, ⟨fun _ _ _ _ h => h, fun _ => Nat.le_refl _, fun _ _ => rfl⟩, Nat.le_refl _, fun b hb => ⟨rfl, rfl, ?_⟩, fun _ h1 h2 => by omega, fun _ _ hh => hh⟩, h.lb, h.defers, h.tsize⟩
  have h3 := hb.2.2
  show g.lock b = (g.lock b).map (hide N)
  cases hl : g.lock b with
  | none => rfl
  | some π =>
    have h3 : ∀ id i, hide N π ≠ .var id i := fun id i e => h3 id i (by simp [Gh.map, hl, e])
    cases π with
    | var id i => rfl
    | slot m s i =>
      simp only [hide] at h3 ⊢
      split at h3
      · exact absurd rfl (h3 0 0)
      · rename_i hc; rw [Option.map_some, hide, if_neg hc]
    | away m s i =>
      simp only [hide] at h3 ⊢
      split at h3
      · exact absurd rfl (h3 0 0)
      · rename_i hc; rw [Option.map_some, hide, if_neg hc]
theorem LB.hide (hN : 0 < N) : LB (N - 1) (g.map (Go.Mir.hide N)) := by
  intro b π hb
  simp only [Gh.map, Option.map_eq_some_iff] at hb
  obtain ⟨π', _, rfl⟩ := hb
  cases π' with
  | var id i => trivial
  | slot m s i =>
    simp only [Go.Mir.hide]
    split
    · trivial
    · simp only [Place.low]; omega
  | away m s i =>
    simp only [Go.Mir.hide]
    split
    · trivial
    · simp only [Place.low]; omega

theorem Left.from_here {tmps : Array Value} {w' : World} {g' : Gh} {v : Value} (hN : 0 < N) (h0 : LB (N - 1) g0) (h : Fr N ntmps σ0 g0 w0 e σ a w g) (hl : Left N σ (g.map (hide N)) w dst d v e1 σ1 tmps w' g') :
    Left N σ0 g0 w0 dst d v e1 σ1 tmps w' g' ∧ (∀ b, b < w.heap.size → g.lock b = none → (∀ id, id < σ.length → g.ρ id ≠ b) → Same g w g' w' b) ∧ Ext σ.length g w g' w' ∧ w.heap.size ≤ w'.heap.size ∧ ∀ id, σ.length ≤ id → id < σ1.length → w.heap.size ≤ g'.ρ id := by
  have hc := hl.ch
  refine ⟨⟨hl.env, hl.val, hl.st, ⟨hc.os.trans h.ch.os, hc.tape.trans h.ch.tape, hc.output.trans h.ch.output, Nat.le_trans h.ch.size hc.size, h.ch.ext.trans (Ext.mono ⟨hc.ext.cell, hc.ext.prot, hc.ext.rho⟩ h.ch.len), Nat.le_trans h.ch.len hc.len, fun b hb => ?_, fun id h1 h2 => ?_, fun n hn hh => hc.low n (Nat.le_trans hn h.ch.len) (h.ch.low n hn hh)⟩, hl.lb⟩, fun b hb hlk hρ => ?_, ⟨hc.ext.cell, hc.ext.prot, hc.ext.rho⟩, hc.size, hc.new⟩
  · obtain ⟨k1, k2, k3⟩ := h.ch.keep b hb
    have hbf := h.ch.foreign hb
    have hhide : (g.lock b).map (hide N) = g.lock b := by
      rw [k3]
      cases hl0 : g0.lock b with
      | none => rfl
      | some π =>
        have hlow := h0 b π hl0
        cases π with
        | var id i => rfl
        | slot m s i => simp only [Place.low] at hlow; rw [Option.map_some, hide, if_neg (by omega)]
        | away m s i => simp only [Place.low] at hlow; rw [Option.map_some, hide, if_neg (by omega)]
    obtain ⟨j1, j2, j3⟩ := hc.keep b ⟨hbf.1, hbf.2.1, fun id i e => hbf.2.2 id i (hhide ▸ e)⟩
    exact ⟨j1.trans k1, j2.trans k2, j3.trans (hhide.trans k3)⟩
  · rcases Nat.lt_or_ge id σ.length with hlt | hge
    · rw [hc.ext.rho id hlt]; exact h.ch.new id h1 hlt
    · exact Nat.le_trans h.ch.size (hc.new id hge h2)
  · obtain ⟨j1, j2, j3⟩ := hc.keep b ⟨hb, hρ, fun id i e => by simp [Gh.map, hlk] at e⟩
    exact ⟨j1, j2, by rw [j3]; simp [Gh.map, hlk]⟩
end
end Go.Mir
/- Regions whose order is open: whatever order, the same end. -/
namespace Go.Mir
set_option linter.unusedVariables false
set_option linter.unusedSectionVars false
set_option linter.unusedSimpArgs false

def Closed (ops : Array Oper) (S : Nat → Prop) : Prop := ∀ k o, ops[k]? = some o → S k → ∀ e ∈ o.after, Region.binds .any e = true → S e.on

/-- the store of number i looks that the load of number j, ahead of it in the text, is of another variable -/
def FreeS (ms0 ms : List MOper) (i j : Nat) : Prop := ∃ (b : MOper) (g : Bool) (n t : Nat) (m : MOper), ms[j]? = some b ∧ b.op = .load false g n (.tmp t) ∧ j < i ∧ ms0[i]? = some m ∧ freeRs m t = true ∧ ∀ (k : Nat) (m' : MOper), ms[k]? = some m' → j ≤ k → k < i → m'.dst ≠ some t
/-- What the check gives. -/
structure Chk (ops : Array Oper) (ms0 ms : List MOper) (keep : List Nat) : Prop where
  len : ms.length = ops.size
  edge : ∀ k o, ops[k]? = some o → ∀ e ∈ o.after, Region.binds .any e = true → e.on < k
  rw : ∀ S, Closed ops S → ∀ (i j : Nat) (a b : MOper) (d : Nat), i ≠ j → ms[i]? = some a → ms[j]? = some b → a.dst = some d → d ∈ readsOf b → (i < j → S j → S i) ∧ (j < i → S i → S j)
  ww : ∀ (i j : Nat) (a b : MOper) (d : Nat), i ≠ j → ms[i]? = some a → ms[j]? = some b → a.dst = some d → b.dst ≠ some d
  tk : ∀ (i j : Nat) (a b : MOper) (t : Nat), i ≠ j → ms[i]? = some a → ms[j]? = some b → t ∈ takesOf a.op → t ∉ readsOf b
  st : ∀ S, Closed ops S → ∀ (i j : Nat) (a b : MOper), i ≠ j → ms[i]? = some a → ms[j]? = some b → isW a.op = true → (isW b.op = true ∨ isAlloc b.op = true) → (i < j → S j → S i) ∧ (j < i → S i → S j)
  str : ∀ S, Closed ops S → ∀ (i j : Nat) (a b : MOper), i ≠ j → ms[i]? = some a → ms[j]? = some b → isW a.op = true → isR b.op = true → ((i < j → S j → S i) ∧ (j < i → S i → S j)) ∨ FreeS ms0 ms i j
  al : ∀ (i j : Nat) (a b : MOper) (d : Nat), i ≠ j → ms[i]? = some a → ms[j]? = some b → isAlloc a.op = true → isW b.op = false → a.dst = some d → d ∉ readsOf b
  drw : ∀ (i : Nat) (a : MOper), ms[i]? = some a → drawable a.op = true
  alo : ∀ (i : Nat) (a : MOper), ms[i]? = some a → isAlloc a.op = true → a.guard = none ∧ (∃ t, a.dst = some t) ∧ ∃ z, a.op = .alloc z ∧ z.all Dat.safe = true ∧ Dat.underL 0 z = true
  tkk : ∀ (i : Nat) (a : MOper) (t : Nat), ms[i]? = some a → t ∈ takesOf a.op → t ∉ keep
  quiet : ∀ (i : Nat) (a : MOper), ms[i]? = some a → isC a.op = true → ∀ (j : Nat) (b : MOper), ms[j]? = some b → isW b.op = false ∧ isAlloc b.op = false

theorem mem_union {a b : List Nat} {i : Nat} (h : i ∈ union a b) : i ∈ a ∨ i ∈ b := by
  simp only [union, List.mem_append, List.mem_filter] at h
  exact h.imp id And.left
theorem precStep_mem {ps : List (List Nat)} {o : Oper} {i : Nat} (h : i ∈ precStep ps o) : ∃ e ∈ o.after, Region.binds .any e = true ∧ (i = e.on ∨ ∃ l, ps[e.on]? = some l ∧ i ∈ l) := by
  unfold precStep at h
  have key : ∀ (l : List Edge) (acc : List Nat), (∀ e ∈ l, e ∈ o.after) → i ∈ l.foldl (fun acc e => if Region.binds .any e then union acc (union [e.on] (ps.getD e.on [])) else acc) acc →
      i ∈ acc ∨ ∃ e ∈ o.after, Region.binds .any e = true ∧ (i = e.on ∨ ∃ l, ps[e.on]? = some l ∧ i ∈ l) := by
    intro l
    induction l with
    | nil => exact fun acc _ h => .inl h
    | cons e l ih =>
      intro acc hl h
      simp only [List.foldl_cons] at h
      rcases ih _ (fun e he => hl e (by simp [he])) h with h | h
      · split at h
        · rename_i hb
          rcases mem_union h with h | h
          · exact .inl h
          · refine .inr ⟨e, hl e (by simp), hb, ?_⟩
            rcases mem_union h with h | h
            · exact .inl (by simpa using h)
            · refine .inr ?_
              rw [List.getD_eq_getElem?_getD] at h
              cases hg : ps[e.on]? with
              | none => rw [hg] at h; simp at h
              | some l' => rw [hg] at h; exact ⟨l', rfl, by simpa using h⟩
        · exact .inl h
      · exact .inr h
  rcases key o.after.toList [] (fun e he => by simpa using he) h with h | h
  · simp at h
  · exact h

/-- lists of what must come before -/
def PrecOk (ops : Array Oper) (ps : List (List Nat)) : Prop := ∀ k l, ps[k]? = some l → ∀ i ∈ l, ∃ o, ops[k]? = some o ∧ ∃ e ∈ o.after, Region.binds .any e = true ∧ (i = e.on ∨ (e.on < k ∧ ∃ l', ps[e.on]? = some l' ∧ i ∈ l'))
theorem precs_ok {ops : Array Oper} : ∀ {l : List Oper} {ps : List (List Nat)}, ops.toList.drop ps.length = l → PrecOk ops ps → PrecOk ops (precs l ps)
  | [], ps, _, h => h
  | o :: r, ps, hd, h => by
    have ho : ops[ps.length]? = some o := by
      have : (ops.toList.drop ps.length)[0]? = some o := by rw [hd]; rfl
      rw [List.getElem?_drop] at this
      simpa using this
    simp only [precs]
    refine precs_ok ?_ fun k l hk i hi => ?_
    · have : ops.toList.drop (ps.length + 1) = (ops.toList.drop ps.length).drop 1 := by rw [List.drop_drop]
      simp only [List.length_append, List.length_cons, List.length_nil]
      rw [Nat.zero_add, this, hd]
      rfl
    · rcases Nat.lt_trichotomy k ps.length with hlt | rfl | hgt
      · rw [List.getElem?_append_left hlt] at hk
        obtain ⟨o', ho', e, he, hb, hor⟩ := h k l hk i hi
        refine ⟨o', ho', e, he, hb, hor.imp id fun ⟨h1, l', h2, h3⟩ => ⟨h1, l', ?_, h3⟩⟩
        rw [List.getElem?_append_left (by omega)]
        exact h2
      · rw [List.getElem?_append_right (Nat.le_refl _)] at hk
        simp only [Nat.sub_self, List.getElem?_cons_zero, Option.some.injEq] at hk
        subst hk
        obtain ⟨e, he, hb, hor⟩ := precStep_mem hi
        refine ⟨o, ho, e, he, hb, hor.imp id fun ⟨l', h2, h3⟩ => ?_⟩
        have hlt := (List.getElem?_eq_some_iff.1 h2).1
        exact ⟨hlt, l', by rw [List.getElem?_append_left hlt]; exact h2, h3⟩
      · rw [List.getElem?_append_right (by omega)] at hk
        rw [List.getElem?_eq_none (by simp; omega)] at hk
        cases hk
theorem precs_closed {ops : Array Oper} {S : Nat → Prop} (hS : Closed ops S) {ps : List (List Nat)} (h : PrecOk ops ps) : ∀ k l, ps[k]? = some l → ∀ i ∈ l, S k → S i := by
  intro k
  induction k using Nat.strongRecOn with
  | _ k ih =>
    intro l hk i hi hs
    obtain ⟨o, ho, e, he, hb, hor⟩ := h k l hk i hi
    have hse := hS k o ho hs e he hb
    rcases hor with rfl | ⟨hlt, l', hl', hi'⟩
    · exact hse
    · exact ih e.on hlt l' hl' i hi' hse

theorem precs_length : ∀ (l : List Oper) (ps : List (List Nat)), (precs l ps).length = ps.length + l.length
  | [], ps => rfl
  | o :: r, ps => by
    simp only [precs, precs_length r]
    simp
    omega
theorem chk_of {ops : Array Oper} {ms0 ms : List MOper} {keep : List Nat} (hms : ms0.map plainO = ms) (hlen : ms.length = ops.size) (h : drawOk ops.toList ms0 keep = true) : Chk ops ms0 ms keep := by
  simp only [drawOk, Bool.and_eq_true, hms] at h
  obtain ⟨⟨⟨h1, h2⟩, h3⟩, h4⟩ := h
  have hps : PrecOk ops (precs ops.toList []) := precs_ok (l := ops.toList) (ps := []) rfl fun k l hk => by simp at hk
  have hpl : (precs ops.toList []).length = ops.size := by rw [precs_length]; simp
  have item : ∀ (i : Nat) (a : MOper), ms[i]? = some a → ∃ p, (precs ops.toList [])[i]? = some p ∧ ((a, p), i) ∈ (ms.zip (precs ops.toList [])).zipIdx := by
    intro i a ha
    have hlt := (List.getElem?_eq_some_iff.1 ha).1
    have hp : (precs ops.toList [])[i]? = some (precs ops.toList [])[i] := List.getElem?_eq_getElem (by omega)
    refine ⟨_, hp, List.mem_of_getElem? (i := i) ?_⟩
    rw [List.getElem?_zipIdx, (List.getElem?_zip_eq_some (z := (a, (precs ops.toList [])[i]))).2 ⟨ha, hp⟩]
    simp
  have pair : ∀ (i j : Nat) (a b : MOper), i ≠ j → ms[i]? = some a → ms[j]? = some b → ∃ p q, (precs ops.toList [])[i]? = some p ∧ (precs ops.toList [])[j]? = some q ∧ pairOk (freeOk ms0) ((a, p), i) ((b, q), j) = true := by
    intro i j a b hij ha hb
    obtain ⟨p, hp, hip⟩ := item i a ha
    obtain ⟨q, hq, hjq⟩ := item j b hb
    exact ⟨p, q, hp, hq, List.all_eq_true.1 (List.all_eq_true.1 h3 _ hip) _ hjq⟩
  have bef : ∀ S, Closed ops S → ∀ (i j : Nat) (p q : List Nat), i ≠ j → (precs ops.toList [])[i]? = some p → (precs ops.toList [])[j]? = some q → before i j p q = true → (i < j → S j → S i) ∧ (j < i → S i → S j) := by
    intro S hS i j p q hij hp hq hb
    unfold before at hb
    refine ⟨fun hlt hs => ?_, fun hlt hs => ?_⟩
    · rw [if_pos hlt] at hb
      exact precs_closed hS hps j q hq i (by simpa using hb) hs
    · rw [if_neg (by omega)] at hb
      exact precs_closed hS hps i p hp j (by simpa using hb) hs
  refine ⟨hlen, fun k o ho e he hb => ?_, fun S hS i j a b d hij ha hb hd hr => ?_, fun i j a b d hij ha hb hd hd2 => ?_, fun i j a b t hij ha hb ht hr => ?_, fun S hS i j a b hij ha hb hw hor => ?_, fun S hS i j a b hij ha hb hw hor => ?_, fun i j a b d hij ha hb hal hw hd hr => ?_, fun i a ha => ?_, fun i a ha hal => ?_, fun i a t ha ht hk => ?_, fun i a ha hc j b hb => ?_⟩
  · have : (o, k) ∈ ops.toList.zipIdx := List.mem_of_getElem? (i := k) (by rw [List.getElem?_zipIdx]; simp [ho])
    have := List.all_eq_true.1 (List.all_eq_true.1 h1 _ this) e (by simpa using he)
    simpa [hb] using this
  · obtain ⟨p, q, hp, hq, hpr⟩ := pair i j a b hij ha hb
    refine bef S hS i j p q hij hp hq ?_
    simp only [pairOk, Bool.or_eq_true, beq_iff_eq, hij, false_or, Bool.and_eq_true, hd] at hpr
    have := hpr.1.1.1.2
    simpa [hr] using this
  · obtain ⟨p, q, hp, hq, hpr⟩ := pair i j a b hij ha hb
    simp only [pairOk, Bool.or_eq_true, beq_iff_eq, hij, false_or, Bool.and_eq_true, hd] at hpr
    have := hpr.1.1.1.1
    simp [hd2] at this
  · obtain ⟨p, q, hp, hq, hpr⟩ := pair i j a b hij ha hb
    simp only [pairOk, Bool.or_eq_true, beq_iff_eq, hij, false_or, Bool.and_eq_true] at hpr
    have := List.all_eq_true.1 hpr.1.1.2 t ht
    simp [hr] at this
  · obtain ⟨p, q, hp, hq, hpr⟩ := pair i j a b hij ha hb
    refine bef S hS i j p q hij hp hq ?_
    simp only [pairOk, Bool.or_eq_true, beq_iff_eq, hij, false_or, Bool.and_eq_true] at hpr
    have := hpr.1.2
    have nof : freeOk ms0 ((a, p), i) ((b, q), j) = false := by
      cases hbo : b.op <;> rw [hbo] at hor <;> simp only [isW, isAlloc, Bool.false_eq_true, or_self, or_false, false_or] at hor <;> simp only [freeOk, hbo]
    rw [nof] at this
    rcases hor with hor | hor <;> simpa [hw, hor] using this
  · obtain ⟨p, q, hp, hq, hpr⟩ := pair i j a b hij ha hb
    simp only [pairOk, Bool.or_eq_true, beq_iff_eq, hij, false_or, Bool.and_eq_true] at hpr
    have := hpr.1.2
    rcases this with this | this
    · exact .inl (bef S hS i j p q hij hp hq (by simpa [hw, hor] using this))
    · refine .inr ?_
      cases hbo : b.op <;> rw [hbo] at hor <;> simp only [isR, Bool.false_eq_true] at hor
      rename_i mv g n x
      simp only [freeOk, hbo] at this
      cases mv with
      | true => simp at this
      | false =>
        cases x with
        | lit d => simp at this
        | tmp t =>
          simp only [Bool.and_eq_true, decide_eq_true_eq] at this
          obtain ⟨⟨k1, k2⟩, k3⟩ := this
          cases hmi : ms0[i]? with
          | none => rw [hmi] at k2; cases k2
          | some m =>
            rw [hmi] at k2
            refine ⟨b, g, n, t, m, hb, hbo, k1, hmi, k2, fun k m' hk h1 h2 he => ?_⟩
            rw [← hms, List.getElem?_map, Option.map_eq_some_iff] at hk
            obtain ⟨m0, hm0, rfl⟩ := hk
            have hin : (m0, k) ∈ ms0.zipIdx := List.mem_of_getElem? (i := k) (by rw [List.getElem?_zipIdx]; simp [hm0])
            have := List.all_eq_true.1 k3 _ hin
            have hd : m0.dst = some t := by
              rw [← he]
              unfold plainO
              split <;> rfl
            simp [h1, h2, hd] at this
  · obtain ⟨p, q, hp, hq, hpr⟩ := pair i j a b hij ha hb
    simp only [pairOk, Bool.or_eq_true, beq_iff_eq, hij, false_or, Bool.and_eq_true] at hpr
    have := hpr.2
    simp [hal, hw, hd, hr] at this
  · obtain ⟨p, hp, hip⟩ := item i a ha
    have := List.all_eq_true.1 h2 _ hip
    simp only [oneItemOk, Bool.and_eq_true] at this
    exact this.1.1.1
  · obtain ⟨p, hp, hip⟩ := item i a ha
    have := List.all_eq_true.1 h2 _ hip
    simp only [oneItemOk, Bool.and_eq_true, hal, Bool.not_true, Bool.false_or] at this
    refine ⟨by simpa using this.1.2.1, Option.isSome_iff_exists.1 this.1.2.2, ?_⟩
    have hz := this.1.1.2
    cases ho : a.op <;> rw [ho] at hal <;> simp only [isAlloc, Bool.false_eq_true] at hal
    rw [ho] at hz
    simp only [allocOk, Bool.and_eq_true] at hz
    exact ⟨_, rfl, hz.1, hz.2⟩
  · obtain ⟨p, hp, hip⟩ := item i a ha
    have := List.all_eq_true.1 h2 _ hip
    simp only [oneItemOk, Bool.and_eq_true] at this
    have := List.all_eq_true.1 this.2 t ht
    simp [hk] at this
  · rw [Bool.or_eq_true] at h4
    rcases h4 with h4 | h4
    · have := List.all_eq_true.1 h4 a (List.mem_of_getElem? ha)
      simp [hc] at this
    · have := List.all_eq_true.1 h4 b (List.mem_of_getElem? hb)
      simpa using this
end Go.Mir
/- Regions whose order is open: what holds after any part of them. -/
namespace Go.Mir
set_option linter.unusedVariables false
set_option linter.unusedSectionVars false
set_option linter.unusedSimpArgs false

theorem stepOp_env {run : Run} {esc : Nat → Bool} {base : Nat} {m : MOper} {e e1 : Env} {σ σ1 : St} (hd : drawable m.op = true) (h : stepOp run esc base m e σ = some (e1, σ1)) {t : Nat} (h1 : m.dst ≠ some t) (h2 : t ∉ takesOf m.op) : Env.get e1 t = Env.get e t := by
  have put : ∀ (e : Env) d, Env.get (putD e m.dst d) t = Env.get e t := fun e d => by
    unfold putD
    cases hm : m.dst with
    | none => rfl
    | some s => exact Env.get_put_other _ _ fun e => h1 (by rw [hm, e])
  simp only [stepOp, Option.bind_eq_some_iff] at h
  obtain ⟨b, hb, h⟩ := h
  cases b with
  | false =>
    simp only [Bool.false_eq_true, if_false, Option.some.injEq, Prod.mk.injEq] at h
    rw [← h.1, put]
  | true =>
    simp only [if_true, Option.bind_eq_some_iff, Option.some.injEq, Prod.mk.injEq] at h
    obtain ⟨⟨d, e2, σ2⟩, he, rfl, rfl⟩ := h
    obtain ⟨_, _, _, h3⟩ := evalOp_env hd (fun _ _ => rfl) he
    rw [put, h3 t h2]

/-- the states, one after the other -/
theorem steps_states {run : Run} {esc : Nat → Bool} {base : Nat} : ∀ {ms : List MOper} {e e1 : Env} {σ σ1 : St}, stepOps run esc base ms e σ = some (e1, σ1) →
    ∃ (E : Nat → Env) (Z : Nat → St), E 0 = e ∧ Z 0 = σ ∧ E ms.length = e1 ∧ Z ms.length = σ1 ∧ ∀ (k : Nat) (m : MOper), ms[k]? = some m → stepOp run esc base m (E k) (Z k) = some (E (k + 1), Z (k + 1))
  | [], e, e1, σ, σ1, h => by
    simp only [stepOps, Option.some.injEq, Prod.mk.injEq] at h
    obtain ⟨rfl, rfl⟩ := h
    exact ⟨fun _ => e, fun _ => σ, rfl, rfl, rfl, rfl, by simp⟩
  | m :: ms, e, e1, σ, σ1, h => by
    simp only [stepOps, Option.bind_eq_some_iff] at h
    obtain ⟨⟨e2, σ2⟩, h1, h2⟩ := h
    obtain ⟨E, Z, a1, a2, a3, a4, a5⟩ := steps_states h2
    refine ⟨fun k => match k with | 0 => e | k + 1 => E k, fun k => match k with | 0 => σ | k + 1 => Z k, rfl, rfl, a3, a4, fun k m' hk => ?_⟩
    cases k with
    | zero =>
      simp only [List.getElem?_cons_zero, Option.some.injEq] at hk
      subst hk
      simp only [a1, a2]
      exact h1
    | succ k => exact a5 k m' (by simpa using hk)

def rd (ms : List MOper) (keep : List Nat) (j : Nat) : List Nat := match ms[j]? with
  | some m => readsOf m
  | none => keep

section
variable {P : Program} {N ntmps : Nat} {σ0 : St} {g0 : Gh} {w0 : World} {run : Run} {esc : Nat → Bool} {ops : Array Oper} {ms0 ms : List MOper} {keep : List Nat} {E : Nat → Env} {Z : Nat → St}

/-- a variable that is laid already, but not told -/
def Pend (w0 : World) (Z : St) (m : MOper) (a : Act) (w : World) (g : Gh) (b : Nat) : Prop :=
  ∃ zero vs T t, m.op = .alloc zero ∧ m.dst = some t ∧ a.tmps[t]? = some (.pointer (some ⟨b, 0, none⟩)) ∧ w.heap[b]? = some (.cells (vs : List Value).toArray T (0, 0)) ∧ RepL g w zero vs ∧ w0.heap.size ≤ b ∧ g.prot b = 0 ∧ g.lock b = none ∧
    ∀ id, id < Z.length → g.ρ id ≠ b

structure Inv (N ntmps : Nat) (σ0 : St) (g0 : Gh) (w0 : World) (ms : List MOper) (keep : List Nat) (E : Nat → Env) (Z : Nat → St) (S : Nat → Prop) (c : Nat) (e : Env) (a : Act) (w : World) (g : Gh) (β : Nat → Nat) : Prop where
  fr : Fr N ntmps σ0 g0 w0 e (Z c) a w g
  cle : c ≤ ms.length
  cutW : ∀ (k : Nat) (m : MOper), ms[k]? = some m → isW m.op = true → (S k ↔ k < c)
  cutA : ∀ (k : Nat) (m : MOper), ms[k]? = some m → isAlloc m.op = true → k < c → S k
  agree : ∀ j, (j < ms.length → ¬ S j) → j ≤ ms.length → ∀ t ∈ rd ms keep j, (∀ (i : Nat) (m : MOper), i < j → ms[i]? = some m → m.dst = some t → S i ∧ (isAlloc m.op = true → i < c)) → Env.get e t = Env.get (E j) t
  pend : ∀ (i : Nat) (m : MOper), ms[i]? = some m → isAlloc m.op = true → S i → c ≤ i → Pend w0 (Z c) m a w g (β i)
  pinj : ∀ (i j : Nat) (m m' : MOper), ms[i]? = some m → ms[j]? = some m' → isAlloc m.op = true → isAlloc m'.op = true → S i → S j → c ≤ i → c ≤ j → i ≠ j → β i ≠ β j

section
variable (chk : Chk ops ms0 ms keep) (hst : ∀ (k : Nat) (m : MOper), ms[k]? = some m → stepOp run esc σ0.length m (E k) (Z k) = some (E (k + 1), Z (k + 1)))
include chk hst

theorem E_keep {t i : Nat} : ∀ {j : Nat}, i ≤ j → j ≤ ms.length → (∀ (k : Nat) (m : MOper), i ≤ k → k < j → ms[k]? = some m → m.dst ≠ some t ∧ t ∉ takesOf m.op) → Env.get (E j) t = Env.get (E i) t := by
  intro j
  induction j with
  | zero => intro h _ _; rw [show i = 0 by omega]
  | succ j ih =>
    intro hij hj h
    by_cases he : i = j + 1
    · rw [he]
    · have hjl : j < ms.length := by omega
      have hm : ms[j]? = some ms[j] := List.getElem?_eq_getElem hjl
      obtain ⟨h1, h2⟩ := h j _ (by omega) (by omega) hm
      rw [stepOp_env (chk.drw j _ hm) (hst j _ hm) h1 h2]
      exact ih (by omega) (by omega) fun k m hk1 hk2 => h k m hk1 (by omega)

/-- one more is done: what the others read -/
theorem agree_step {S : Nat → Prop} {c c' i : Nat} {m : MOper} {e e2 : Env} (hS' : Closed ops fun k => k = i ∨ S k) (hm : ms[i]? = some m) (hna : isAlloc m.op = false)
    (h : ∀ j, (j < ms.length → ¬ S j) → j ≤ ms.length → ∀ t ∈ rd ms keep j, (∀ (i : Nat) (m : MOper), i < j → ms[i]? = some m → m.dst = some t → S i ∧ (isAlloc m.op = true → i < c)) → Env.get e t = Env.get (E j) t)
    (h1 : ∀ t, m.dst ≠ some t → t ∉ takesOf m.op → Env.get e2 t = Env.get e t) (h2 : ∀ t, m.dst = some t → Env.get e2 t = Env.get (E (i + 1)) t)
    (hc : ∀ (k : Nat) (m' : MOper), ms[k]? = some m' → isAlloc m'.op = true → k < c' → k < c) :
    ∀ j, (j < ms.length → ¬ (j = i ∨ S j)) → j ≤ ms.length → ∀ t ∈ rd ms keep j, (∀ (k : Nat) (m : MOper), k < j → ms[k]? = some m → m.dst = some t → (k = i ∨ S k) ∧ (isAlloc m.op = true → k < c')) → Env.get e2 t = Env.get (E j) t := by
  intro j hj hjl t ht hw
  have hil : i < ms.length := (List.getElem?_eq_some_iff.1 hm).1
  have hji : j ≠ i := by
    rintro rfl
    exact hj hil (.inl rfl)
  -- nobody takes what j reads
  have notake : ∀ (k : Nat) (m' : MOper), k ≠ j → ms[k]? = some m' → t ∉ takesOf m'.op := by
    intro k m' hkj hm' htk
    unfold rd at ht
    cases hmj : ms[j]? with
    | none => rw [hmj] at ht; exact chk.tkk k m' t hm' htk ht
    | some mj => rw [hmj] at ht; exact chk.tk k j m' mj t hkj hm' hmj htk ht
  by_cases hd : m.dst = some t
  · by_cases hlt : i < j
    · rw [h2 t hd]
      refine (E_keep chk hst (i := i + 1) hlt hjl fun k m' hk1 hk2 hm' => ⟨chk.ww i k m m' t (by omega) hm hm' hd, notake k m' (by omega) hm'⟩).symm
    · exfalso
      have hjlt : j < ms.length := by omega
      have hmj : ms[j]? = some ms[j] := List.getElem?_eq_getElem hjlt
      unfold rd at ht
      rw [hmj] at ht
      exact hj hjlt ((chk.rw _ hS' i j m _ t (Ne.symm hji) hm hmj hd ht).2 (by omega) (.inl rfl))
  · rw [h1 t hd (notake i m (Ne.symm hji) hm)]
    refine h j (fun hl hs => hj hl (.inr hs)) hjl t ht fun k m' hk hm' hd' => ?_
    obtain ⟨h3, h4⟩ := hw k m' hk hm' hd'
    refine ⟨h3.resolve_left ?_, fun ha => hc k m' hm' ha (h4 ha)⟩
    rintro rfl
    rw [hm] at hm'
    injection hm' with hm'
    subst hm'
    exact hd hd'

/-- what an operation reads, when its turn has come -/
theorem agree_now {S : Nat → Prop} {c i : Nat} {m : MOper} {e : Env} (hS' : Closed ops fun k => k = i ∨ S k) (hm : ms[i]? = some m) (hns : ¬ S i)
    (h : ∀ j, (j < ms.length → ¬ S j) → j ≤ ms.length → ∀ t ∈ rd ms keep j, (∀ (i : Nat) (m : MOper), i < j → ms[i]? = some m → m.dst = some t → S i ∧ (isAlloc m.op = true → i < c)) → Env.get e t = Env.get (E j) t)
    (hW : isW m.op = true → i ≤ c) : ∀ t ∈ readsOf m, Env.get e t = Env.get (E i) t := by
  intro t ht
  have hil : i < ms.length := (List.getElem?_eq_some_iff.1 hm).1
  refine h i (fun _ => hns) (by omega) t (by unfold rd; rw [hm]; exact ht) fun k m' hk hm' hd => ⟨?_, fun ha => ?_⟩
  · exact ((chk.rw _ hS' k i m' m t (by omega) hm' hm hd ht).1 hk (.inl rfl)).resolve_left (by omega)
  · by_cases hw : isW m.op = true
    · have := hW hw; omega
    · exact absurd ht (chk.al k i m' m t (by omega) hm' hm ha (by simpa using hw) hd)

theorem Z_same {i : Nat} {m : MOper} (hm : ms[i]? = some m) (hw : isW m.op = false) (ha : isAlloc m.op = false) : Z (i + 1) = Z i := by
  have h := hst i m hm
  simp only [stepOp, Option.bind_eq_some_iff] at h
  obtain ⟨b, hb, h⟩ := h
  cases b with
  | false =>
    simp only [Bool.false_eq_true, if_false, Option.some.injEq, Prod.mk.injEq] at h
    exact h.2.symm
  | true =>
    simp only [if_true, Option.bind_eq_some_iff, Option.some.injEq, Prod.mk.injEq] at h
    obtain ⟨⟨d, e2, σ2⟩, he, _, hz⟩ := h
    rw [← hz]
    by_cases hr : isR m.op = true
    · have hd := chk.drw i m hm
      cases ho : m.op <;> rw [ho] at hr <;> simp only [isR, Bool.false_eq_true] at hr
      rename_i mv g n x
      rw [ho] at hd he
      cases mv with
      | true => simp [drawable] at hd
      | false =>
        simp only [evalOp, Option.bind_eq_some_iff, Bool.false_eq_true, if_false, Option.some.injEq, Prod.mk.injEq] at he
        obtain ⟨_, _, _, _, _, _, h⟩ := he
        exact h.symm
    · by_cases hc : isC m.op = true
      · exact (evalOp_c hc he).1
      · exact (evalOp_free (chk.drw i m hm) hw (by simpa using hr) ha (by simpa using hc) he).1

/-- One step of what is told. -/
theorem adopt1 {S : Nat → Prop} {c : Nat} {e : Env} {a : Act} {w : World} {g : Gh} {β : Nat → Nat} (hS : Closed ops S) (h : Inv N ntmps σ0 g0 w0 ms keep E Z S c e a w g β) {m : MOper} (hm : ms[c]? = some m) (hw : isW m.op = false) (ha : isAlloc m.op = true → S c) :
    ∃ e' g', Inv N ntmps σ0 g0 w0 ms keep E Z S (c + 1) e' a w g' β := by
  have hcl : c < ms.length := (List.getElem?_eq_some_iff.1 hm).1
  have cutW' : ∀ (k : Nat) (m : MOper), ms[k]? = some m → isW m.op = true → (S k ↔ k < c + 1) := fun k m' hm' hw' => by
    rw [h.cutW k m' hm' hw']
    have : k ≠ c := by rintro rfl; rw [hm] at hm'; injection hm' with e; subst e; rw [hw] at hw'; cases hw'
    omega
  by_cases hal : isAlloc m.op = true
  · have hsc := ha hal
    obtain ⟨hg, ⟨t, ht⟩, z, hz, hsafe, hun⟩ := chk.alo c m hm hal
    obtain ⟨zero, vs, T, t', p1, p2, p3, p4, p5, p6, p7, p8, p9⟩ := h.pend c m hm hal hsc (Nat.le_refl _)
    rw [ht] at p2
    injection p2 with p2
    subst p2
    rw [hz] at p1
    injection p1 with p1
    subst p1
    -- the mirror's step
    have hstep := hst c m hm
    have hZ : Z (c + 1) = z :: Z c ∧ E (c + 1) = Env.put (E c) t (.ptr (Z c).length 0) := by
      simp only [stepOp, hg, wantedD, Option.bind_some, if_true, hz, evalOp, Option.some.injEq, Prod.mk.injEq] at hstep
      exact ⟨hstep.2.symm, by rw [← hstep.1, ht]; rfl⟩
    have hlen : (Z (c + 1)).length = (Z c).length + 1 := by rw [hZ.1]; rfl
    have hbl : β c < w.heap.size := by
      rcases Nat.lt_or_ge (β c) w.heap.size with h' | h'
      · exact h'
      · simp [Array.getElem?_eq_none h'] at p4
    let g' : Gh := { g with ρ := fun id => if id = (Z c).length then β c else g.ρ id }
    have hρ : ∀ id, id < (Z c).length → g'.ρ id = g.ρ id := fun id hid => if_neg (by omega)
    have hρn : g'.ρ (Z c).length = β c := if_pos rfl
    have hext : Ext (Z c).length g w g' w := ⟨fun _ _ _ _ h => h, fun _ => Nat.le_refl _, hρ⟩
    have own : ∀ π d v, Own g w π d v → Own g' w π d v := fun π d v ho => ho.same fun b i hb => ⟨rfl, rfl, rfl⟩
    refine ⟨Env.put e t (.ptr (Z c).length 0), g', ⟨⟨fun s d hd => ?_, ?_, ?_, h.fr.lb, h.fr.defers, h.fr.tsize⟩, by omega, cutW', fun k m' hm' ha' hk => ?_, ?_, ?_, ?_⟩⟩
    · rw [hlen]
      by_cases hst' : s = t
      · subst hst'
        rw [Env.get_put_same] at hd
        injection hd with hd
        subst hd
        exact ⟨_, p3, by simp only [Rep, hρn], trivial, by simp [Dat.under]⟩
      · rw [Env.get_put_other _ _ hst'] at hd
        obtain ⟨v, hv, hr, ho, hu⟩ := h.fr.env s d hd
        exact ⟨v, hv, Rep_ext hext _ _ hu hr, own _ _ _ ho, under_mono (by omega) _ hu⟩
    · rw [hZ.1]
      refine ⟨fun id cc hcc => ?_, fun id cc hcc => ?_, fun i j hi hj hij => ?_, fun id hid => ?_, h.fr.st.fresh⟩
      · simp only [St.get_nil, St.get_cons] at hcc
        split at hcc
        · rename_i hid
          injection hcc with hcc
          subst hcc
          refine ⟨vs, T, by rw [hid, hρn]; exact p4, RepL_ext (hext.mono (Nat.zero_le _)) _ _ hun p5, fun i d v hd hv => ?_⟩
          have hs := List.all_eq_true.1 hsafe d (List.mem_of_getElem? hd)
          obtain ⟨v', hv', hr'⟩ := RepL_get (RepL_ext (hext.mono (Nat.zero_le _)) _ _ hun p5) hd
          rw [hv] at hv'
          injection hv' with hv'
          subst hv'
          exact ⟨safe_cell hs, Own_safe hr' hs⟩
        · have hlt := St.get_lt hcc
          obtain ⟨us, T', q1, q2, q3⟩ := h.fr.st.var id cc hcc
          refine ⟨us, T', by rw [hρ id hlt]; exact q1, RepL_ext hext _ _ (h.fr.st.under id cc hcc) q2, fun i d v hd hv => ?_⟩
          obtain ⟨r1, r2⟩ := q3 i d v hd hv
          exact ⟨r1, own _ _ _ r2⟩
      · simp only [St.get_nil, St.get_cons] at hcc
        split at hcc
        · injection hcc with hcc
          subst hcc
          exact underL_mono (Nat.zero_le _) _ hun
        · exact underL_mono (by simp) _ (h.fr.st.under id cc hcc)
      · simp only [List.length_cons] at hi hj
        by_cases h1 : i = (Z c).length <;> by_cases h2 : j = (Z c).length
        · omega
        · exfalso
          rw [h1, hρn, hρ j (by omega)] at hij
          exact p9 j (by omega) hij.symm
        · exfalso
          rw [h2, hρn, hρ i (by omega)] at hij
          exact p9 i (by omega) hij
        · rw [hρ i (by omega), hρ j (by omega)] at hij
          exact h.fr.st.inj i j (by omega) (by omega) hij
      · simp only [List.length_cons] at hid
        by_cases h1 : id = (Z c).length
        · rw [h1, hρn]; exact ⟨p7, p8⟩
        · rw [hρ id (by omega)]; exact h.fr.st.free id (by omega)
    · have hch := h.fr.ch
      refine ⟨hch.os, hch.tape, hch.output, hch.size, hch.ext.trans (hext.mono hch.len), by rw [hlen]; have := hch.len; omega, fun b hb => hch.keep b hb, fun id h1 h2 => ?_, fun n hn hh id cc hid hcc => ?_⟩
      · rw [hlen] at h2
        by_cases h3 : id = (Z c).length
        · rw [h3, hρn]; exact p6
        · rw [hρ id (by omega)]; exact hch.new id h1 (by omega)
      · rw [hZ.1, St.get_cons_old (by have := hch.len; omega)] at hcc
        exact hch.low n hn hh id cc hid hcc
    · by_cases hkc : k = c
      · rw [hkc]; exact hsc
      · exact h.cutA k m' hm' ha' (by omega)
    · -- what is read
      intro j hj hjl s hs hwr
      by_cases hst' : s = t
      · subst hst'
        rw [Env.get_put_same]
        by_cases hlt : c < j
        · have h3 : Env.get (E j) s = Env.get (E (c + 1)) s := by
            refine E_keep chk hst (i := c + 1) hlt hjl fun k m' hk1 hk2 hm' => ⟨chk.ww c k m m' s (by omega) hm hm' ht, fun htk => ?_⟩
            unfold rd at hs
            cases hmj : ms[j]? with
            | none => rw [hmj] at hs; exact chk.tkk k m' s hm' htk hs
            | some mj => rw [hmj] at hs; exact chk.tk k j m' mj s (by omega) hm' hmj htk hs
          rw [h3, hZ.2, Env.get_put_same]
        · exfalso
          by_cases hjc : j = c
          · subst hjc
            unfold rd at hs
            rw [hm] at hs
            simp [readsOf, hz, opR, hg] at hs
          · have hjlt : j < ms.length := by omega
            have hmj : ms[j]? = some ms[j] := List.getElem?_eq_getElem hjlt
            unfold rd at hs
            rw [hmj] at hs
            exact hj hjlt ((chk.rw _ hS c j m _ s (Ne.symm hjc) hm hmj ht hs).2 (by omega) hsc)
      · rw [Env.get_put_other _ _ hst']
        refine h.agree j hj hjl s hs fun k m' hk hm' hd' => ?_
        obtain ⟨h3, h4⟩ := hwr k m' hk hm' hd'
        refine ⟨h3, fun ha' => ?_⟩
        have := h4 ha'
        have hkc : k ≠ c := by
          rintro rfl
          rw [hm] at hm'
          injection hm' with e
          subst e
          rw [ht] at hd'
          injection hd' with hd'
          exact hst' hd'.symm
        omega
    · intro i m' hm' ha' hsi hci
      obtain ⟨zero, vs', T', t', q1, q2, q3, q4, q5, q6, q7, q8, q9⟩ := h.pend i m' hm' ha' hsi (by omega)
      obtain ⟨_, _, z', hz', _, hun'⟩ := chk.alo i m' hm' ha'
      rw [hz'] at q1
      injection q1 with q1
      subst q1
      refine ⟨z', vs', T', t', hz', q2, q3, q4, RepL_ext (hext.mono (Nat.zero_le _)) _ _ hun' q5, q6, q7, q8, fun id hid => ?_⟩
      rw [hlen] at hid
      by_cases h1 : id = (Z c).length
      · rw [h1, hρn]; exact h.pinj c i m m' hm hm' hal ha' hsc hsi (Nat.le_refl _) (by omega) (by omega)
      · rw [hρ id (by omega)]; exact q9 id (by omega)
    · exact fun i j m1 m2 h1 h2 h3 h4 h5 h6 h7 h8 => h.pinj i j m1 m2 h1 h2 h3 h4 h5 h6 (by omega) (by omega)
  · have hal' : isAlloc m.op = false := by simpa using hal
    have hZ := Z_same chk hst hm hw hal'
    have nota : ∀ (k : Nat) (m' : MOper), ms[k]? = some m' → isAlloc m'.op = true → k ≠ c := fun k m' hm' ha' e => by
      subst e
      rw [hm] at hm'
      injection hm' with e
      subst e
      exact hal ha'
    refine ⟨e, g, ⟨by rw [hZ]; exact h.fr, by omega, cutW', fun k m' hm' ha' hk => h.cutA k m' hm' ha' (by have := nota k m' hm' ha'; omega), fun j hj hjl t ht hwr => h.agree j hj hjl t ht fun k m' hk hm' hd' => ?_, fun i m' hm' ha' hsi hci => ?_, fun i j m1 m2 h1 h2 h3 h4 h5 h6 h7 h8 => h.pinj i j m1 m2 h1 h2 h3 h4 h5 h6 (by omega) (by omega)⟩⟩
    · obtain ⟨h3, h4⟩ := hwr k m' hk hm' hd'
      exact ⟨h3, fun ha' => by have := nota k m' hm' ha'; have := h4 ha'; omega⟩
    · rw [hZ]; exact h.pend i m' hm' ha' hsi (by omega)

theorem adopt {S : Nat → Prop} (hS : Closed ops S) {a : Act} {w : World} {β : Nat → Nat} : ∀ {k c : Nat} {e : Env} {g : Gh}, Inv N ntmps σ0 g0 w0 ms keep E Z S c e a w g β → c ≤ k → k ≤ ms.length →
    (∀ (i : Nat) (m : MOper), c ≤ i → i < k → ms[i]? = some m → isW m.op = false ∧ (isAlloc m.op = true → S i)) → ∃ e' g', Inv N ntmps σ0 g0 w0 ms keep E Z S k e' a w g' β := by
  intro k
  induction k with
  | zero => intro c e g h hc _ _; rw [show c = 0 by omega] at h; exact ⟨e, g, h⟩
  | succ k ih =>
    intro c e g h hc hk hh
    by_cases hck : c = k + 1
    · rw [hck] at h; exact ⟨e, g, h⟩
    · obtain ⟨e1, g1, h1⟩ := ih h (by omega) (by omega) fun i m h1 h2 => hh i m h1 (by omega)
      have hm : ms[k]? = some ms[k] := List.getElem?_eq_getElem (by omega)
      obtain ⟨h2, h3⟩ := hh k _ (by omega) (by omega) hm
      exact adopt1 chk hst hS h1 hm h2 h3
end
end
end Go.Mir
/- Regions whose order is open: each operation as it comes; the region. -/
namespace Go.Mir
set_option linter.unusedVariables false
set_option linter.unusedSectionVars false
set_option linter.unusedSimpArgs false

theorem get_app : ∀ {cs : St} {σ : St} {id : Nat}, id < σ.length → St.get (cs ++ σ) id = St.get σ id
  | [], σ, id, _ => rfl
  | c :: cs, σ, id, h => by
    rw [List.cons_append, St.get_cons_old (by simp; omega)]
    exact get_app h
theorem evalOp_load {run : Run} {esc : Nat → Bool} {base base' : Nat} {e e1 : Env} {cs σ σ1 : St} {d : Dat} {g : Bool} {n : Nat} {x : MArg} (hu : ∀ p, x.ev e = some p → p.under σ.length = true) (h : evalOp run esc base e (cs ++ σ) (.load false g n x) = some (d, e1, σ1)) :
    evalOp run esc base' e σ (.load false g n x) = some (d, e1, σ) := by
  simp only [evalOp, Option.bind_eq_some_iff, Bool.false_eq_true, if_false, Option.some.injEq, Prod.mk.injEq] at h
  obtain ⟨p, hp, c, hc, rfl, rfl, rfl⟩ := h
  have := hu p hp
  have hl : loadD g n σ p = some c := by
    cases p <;> simp only [loadD, reduceCtorEq] at hc ⊢
    · rename_i id off
      simp only [Dat.under, decide_eq_true_eq] at this
      rw [get_app this] at hc
      exact hc
    · exact hc
  simp only [evalOp, hp, Option.bind_some, hl, Bool.false_eq_true, if_false]

def Env.del : Env → Nat → Env
  | [], _ => []
  | (m, c) :: r, n => if m = n then Env.del r n else (m, c) :: Env.del r n
theorem Env.get_del : ∀ (e : Env) (n s : Nat), Env.get (Env.del e n) s = if s = n then none else Env.get e s
  | [], n, s => by simp [Env.del, Env.get_nil, Env.get_cons]
  | (m, c) :: r, n, s => by
    by_cases h : m = n
    · subst h
      simp only [Env.del, if_true, Env.get_del r m s, Env.get_nil, Env.get_cons]
      by_cases h2 : s = m
      · simp [h2]
      · simp [h2, Ne.symm h2]
    · simp only [Env.del, h, if_false, Env.get_nil, Env.get_cons, Env.get_del r n s]
      by_cases h2 : s = n
      · subst h2; simp [h]
      · simp [h2]

section
variable {P : Program} {N ntmps : Nat} {σ0 : St} {g0 : Gh} {w0 : World} {run : Run} {esc : Nat → Bool} {ops : Array Oper} {ms0 ms : List MOper} {keep : List Nat} {E : Nat → Env} {Z : Nat → St}

/-- what the stores have looked for, state by state -/
def FreeD (ms0 : List MOper) (E : Nat → Env) : Prop := ∀ (i : Nat) (m0 : MOper), ms0[i]? = some m0 → ∀ t, freeRs m0 t = true → wantedD (E i) m0.guard = some true → ∀ (n : Nat) (A v : MArg), (plainO m0).op = .store n A v →
    ∀ p off q off', A.ev (E i) = some (.ptr p off) → Env.get (E i) t = some (.ptr q off') → q ≠ p
def OpsOk (P : Program) (ntmps : Nat) (ops : Array Oper) (ms : List MOper) : Prop :=
  ∀ (k : Nat) (o : Oper), ops[k]? = some o → ∃ (op : MOp) (mg : Option (Nat × Bool)) (quiet cmp : Bool), opOfD P quiet cmp o = some op ∧ guardOf ops o = some mg ∧ dstOk ntmps o = true ∧ ms[k]? = some ({ dst := o.dst, op := op, guard := mg } : MOper)

section
variable (hk : CallsOk P run) (h0 : LB (N - 1) g0) (hN : 0 < N) (chk : Chk ops ms0 ms keep) (hst : ∀ (k : Nat) (m : MOper), ms[k]? = some m → stepOp run esc σ0.length m (E k) (Z k) = some (E (k + 1), Z (k + 1))) (hops : OpsOk P ntmps ops ms) (hpl : ms0.map plainO = ms) (hfree : FreeD ms0 E)
include hk h0 hN chk hst hops hpl hfree

/-- no variable is written between: only new ones -/
theorem Z_app {c : Nat} : ∀ {i : Nat}, c ≤ i → i ≤ ms.length → (∀ (k : Nat) (m : MOper), c ≤ k → k < i → ms[k]? = some m → isW m.op = false) → ∃ cs, Z i = cs ++ Z c := by
  intro i
  induction i with
  | zero => intro h _ _; exact ⟨[], by rw [show c = 0 by omega]; rfl⟩
  | succ i ih =>
    intro hc hi h
    by_cases he : c = i + 1
    · exact ⟨[], by rw [he]; rfl⟩
    · obtain ⟨cs, hcs⟩ := ih (by omega) (by omega) fun k m h1 h2 => h k m h1 (by omega)
      have hm : ms[i]? = some ms[i] := List.getElem?_eq_getElem (by omega)
      have hw := h i _ (by omega) (by omega) hm
      by_cases ha : isAlloc (ms[i]).op = true
      · obtain ⟨hg, ⟨t, ht⟩, z, hz, _⟩ := chk.alo i _ hm ha
        have hstep := hst i _ hm
        simp only [stepOp, hg, wantedD, Option.bind_some, if_true, hz, evalOp, Option.some.injEq, Prod.mk.injEq] at hstep
        exact ⟨z :: cs, by rw [← hstep.2, hcs]; rfl⟩
      · exact ⟨cs, by rw [Z_same chk hst hm hw (by simpa using ha)]; exact hcs⟩

/-- a variable that a free load looks at, in the states behind it -/
theorem load_later {S : Nat → Prop} {c i : Nat} {e : Env} {a : Act} {w : World} {g : Gh} {β : Nat → Nat} {m : MOper} {gg : Bool} {n t : Nat} (hS : Closed ops S) (hns : ¬ S i) (hm : ms[i]? = some m) (hmo : m.op = .load false gg n (.tmp t)) (h : Inv N ntmps σ0 g0 w0 ms keep E Z S c e a w g β)
    {q off : Nat} (hq : Env.get (E i) t = some (.ptr q off)) (hql : q < (Z i).length) : ∀ k, i ≤ k → k ≤ c → St.get (Z k) q = St.get (Z i) q ∧ q < (Z k).length := by
  intro k
  induction k with
  | zero => intro h1 _; rw [show i = 0 by omega] at hql ⊢; exact ⟨rfl, hql⟩
  | succ k ih =>
    intro h1 h2
    by_cases he : i = k + 1
    · rw [← he]; exact ⟨rfl, hql⟩
    · obtain ⟨g1, g2⟩ := ih (by omega) (by omega)
      have hcl := h.cle
      have hmk : ms[k]? = some ms[k] := List.getElem?_eq_getElem (by omega)
      have hstep := hst k _ hmk
      by_cases hw : isW (ms[k]).op = true
      · have hki : k ≠ i := by
          rintro rfl
          rw [hmk] at hm
          injection hm with hm
          rw [hm, hmo] at hw
          cases hw
        have hsk : S k := (h.cutW k _ hmk hw).2 (by omega)
        rcases chk.str S hS k i _ m hki hmk hm hw (by rw [hmo]; rfl) with ⟨-, hord⟩ | ⟨b, g', n', t', m0, hb, hbo, hik, hm0, hrs, hno⟩
        · exact absurd (hord (by omega) hsk) hns
        · rw [hm] at hb
          injection hb with hb
          subst hb
          rw [hmo] at hbo
          injection hbo with _ _ _ hbo
          injection hbo with hbo
          subst hbo
          have hmk2 : ms[k] = plainO m0 := by
            have h9 : ms[k]? = (ms0[k]?).map plainO := by rw [← hpl, List.getElem?_map]
            rw [hm0] at h9
            exact Option.some.inj (hmk.symm.trans h9)
          have hEk : Env.get (E k) t = Env.get (E i) t := E_keep chk hst (by omega) (by omega) fun j m' hj1 hj2 hm' => by
            refine ⟨hno j m' hm' hj1 (by omega), ?_⟩
            by_cases hji : j = i
            · subst hji
              rw [hm] at hm'
              injection hm' with hm'
              subst hm'
              rw [hmo]
              simp [takesOf]
            · intro htk
              exact chk.tk j i m' m t hji hm' hm htk (by simp [readsOf, hmo, opR, argR])
          have hop : ∃ n A v, (ms[k]).op = .store n A v ∧ (ms[k]).guard = m0.guard := by
            rw [hmk2]
            unfold freeRs at hrs
            unfold plainO
            split at hrs
            · rename_i n A v rs ho
              exact ⟨n, A, v, rfl, rfl⟩
            · cases hrs
          obtain ⟨n2, A, v, ho2, hg2⟩ := hop
          simp only [stepOp, Option.bind_eq_some_iff] at hstep
          obtain ⟨b, hb, hstep⟩ := hstep
          cases b with
          | false =>
            simp only [Bool.false_eq_true, if_false, Option.some.injEq, Prod.mk.injEq] at hstep
            rw [← hstep.2]; exact ⟨g1, g2⟩
          | true =>
            simp only [if_true, Option.bind_eq_some_iff, Option.some.injEq, Prod.mk.injEq] at hstep
            obtain ⟨⟨d, e2, σ2⟩, hev, _, hz⟩ := hstep
            rw [ho2] at hev
            simp only [evalOp, Option.bind_eq_some_iff] at hev
            obtain ⟨pp, hpp, hev⟩ := hev
            cases pp <;> simp only [reduceCtorEq, Option.bind_eq_some_iff] at hev
            rename_i p poff
            obtain ⟨dv, hdv, cc, hcc, cs, hcs, hev⟩ := hev
            split at hev
            · simp only [Option.some.injEq, Prod.mk.injEq] at hev
              have hne := hfree k m0 hm0 t hrs (by rw [← hg2]; exact hb) n2 A v (by rw [← hmk2]; exact ho2) p poff q off hpp (by rw [hEk]; exact hq)
              rw [← hz, ← hev.2.2]
              refine ⟨?_, by rw [St.set_length]; exact g2⟩
              rw [St.get_set_other _ hne]
              exact g1
            · cases hev
      · have hw' : isW (ms[k]).op = false := by simpa using hw
        by_cases ha : isAlloc (ms[k]).op = true
        · obtain ⟨hg, ⟨t2, ht2⟩, z, hz, _⟩ := chk.alo k _ hmk ha
          simp only [stepOp, hg, wantedD, Option.bind_some, if_true, hz, evalOp, Option.some.injEq, Prod.mk.injEq] at hstep
          rw [← hstep.2]
          exact ⟨by rw [St.get_cons_old g2]; exact g1, by simp; omega⟩
        · rw [Z_same chk hst hmk hw' (by simpa using ha)]
          exact ⟨g1, g2⟩

theorem step_free {S : Nat → Prop} {c i : Nat} {e : Env} {a : Act} {w : World} {g : Gh} {β : Nat → Nat} {o : Oper} {m : MOper} (hS : Closed ops S) (hS' : Closed ops fun k => k = i ∨ S k) (ho : ops[i]? = some o) (hns : ¬ S i) (hm : ms[i]? = some m) (hw : isW m.op = false) (hna : isAlloc m.op = false)
    (hcw : c = 0 ∨ ∃ m, ms[c - 1]? = some m ∧ isW m.op = true ∧ 0 < c) (h : Inv N ntmps σ0 g0 w0 ms keep E Z S c e a w g β) {K : Act → World → Prop} {Q : Exit → Act → World → Prop}
    (hK : ∀ a' w' e' g', Inv N ntmps σ0 g0 w0 ms keep E Z (fun k => k = i ∨ S k) c e' a' w' g' β → K a' w') : wpOp P ops Q i K a w := by
  have hil : i < ms.length := (List.getElem?_eq_some_iff.1 hm).1
  have hag := agree_now chk hst hS' hm hns h.agree (fun e => by rw [hw] at e; cases e)
  obtain ⟨op, mg, quiet, cmp, hop, hgd, hdk, hm2⟩ := hops i o ho
  rw [hm] at hm2
  injection hm2 with hm2
  subst hm2
  simp only at hw hna
  have hdr := chk.drw i _ hm
  simp only at hdr
  have hstep := hst i _ hm
  simp only [stepOp, Option.bind_eq_some_iff] at hstep
  obtain ⟨b, hb, hstep⟩ := hstep
  have hb' : wantedD e mg = some b := by
    rw [← hb]
    cases mg with
    | none => rfl
    | some gw =>
      obtain ⟨t, want⟩ := gw
      simp only [wantedD]
      rw [hag t (by simp [readsOf])]
  have hdlt : ∀ s, o.dst = some s → s < ntmps := fun s hs => by simpa [dstOk, hs] using hdk
  -- the new state, whatever was done
  have fin : ∀ (d : Dat) (v : Value) (e1 : Env) (w' : World) (g' : Gh), Fr N ntmps σ0 g0 w0 (putD e1 o.dst d) (Z c) (a.put o.dst v) w' g' → (∀ t, t ∉ takesOf op → Env.get e1 t = Env.get e t) → (∀ t, o.dst = some t → Env.get (E (i + 1)) t = some d) →
      (∀ b, b < w.heap.size → g.lock b = none → (∀ id, id < (Z c).length → g.ρ id ≠ b) → Same g w g' w' b) → Ext (Z c).length g w g' w' → w.heap.size ≤ w'.heap.size →
      Inv N ntmps σ0 g0 w0 ms keep E Z (fun k => k = i ∨ S k) c (putD e1 o.dst d) (a.put o.dst v) w' g' β := by
    intro d v e1 w' g' hfr he1 hEd hsame hext hsize
    have noti : ∀ (k : Nat) (m' : MOper), ms[k]? = some m' → (isW m'.op = true ∨ isAlloc m'.op = true) → k ≠ i := by
      intro k m' hm' hor e
      subst e
      rw [hm] at hm'
      injection hm' with e
      subst e
      simp only at hor
      rcases hor with h | h
      · rw [hw] at h; cases h
      · rw [hna] at h; cases h
    refine ⟨hfr, h.cle, fun k m' hm' hw' => ?_, fun k m' hm' ha' hkc => .inr (h.cutA k m' hm' ha' hkc), ?_, fun k m' hm' ha' hs hck => ?_, fun k j m1 m2 h1 h2 h3 h4 h5 h6 h7 h8 => ?_⟩
    · rw [← h.cutW k m' hm' hw']
      exact ⟨fun h => h.resolve_left (noti k m' hm' (.inl hw')), .inr⟩
    · refine agree_step chk hst hS' hm hna h.agree (fun t h1 h2 => ?_) (fun t h1 => ?_) fun k m' hm' ha' hkc => hkc
      · rw [← he1 t h2]
        unfold putD
        cases hd : o.dst with
        | none => rfl
        | some s => exact Env.get_put_other _ _ fun e => h1 (by simp only; rw [hd, e])
      · simp only at h1
        rw [hEd t h1]
        simp only [putD, h1]
        exact Env.get_put_same _ _ _
    · have hki := noti k m' hm' (.inr ha')
      obtain ⟨zero, vs, T, t, q1, q2, q3, q4, q5, q6, q7, q8, q9⟩ := h.pend k m' hm' ha' (hs.resolve_left hki) hck
      obtain ⟨_, _, z', hz', _, hun'⟩ := chk.alo k m' hm' ha'
      rw [hz'] at q1
      injection q1 with q1
      subst q1
      have hbl : β k < w.heap.size := by
        rcases Nat.lt_or_ge (β k) w.heap.size with h' | h'
        · exact h'
        · simp [Array.getElem?_eq_none h'] at q4
      obtain ⟨s1, s2, s3⟩ := hsame (β k) hbl q8 q9
      refine ⟨z', vs, T, t, hz', q2, ?_, by rw [s1]; exact q4, RepL_ext (hext.mono (Nat.zero_le _)) _ _ hun' q5, q6, by rw [s2]; exact q7, by rw [s3]; exact q8, fun id hid => by rw [hext.rho id hid]; exact q9 id hid⟩
      cases hd : o.dst with
      | none => exact q3
      | some s =>
        have hne : s ≠ t := by
          rintro rfl
          exact chk.ww k i m' _ s hki hm' hm q2 (by simp only; exact hd)
        simp only [Act.put]
        rw [Array.getElem?_setIfInBounds_ne hne]
        exact q3
    · exact h.pinj k j m1 m2 h1 h2 h3 h4 (h5.resolve_left (noti k m1 h1 (.inr h3))) (h6.resolve_left (noti j m2 h2 (.inr h4))) h7 h8
  unfold wpOp
  simp only [ho]
  have hwt := h.fr.wanted hgd hb'
  cases b with
  | false =>
    rw [if_neg (by simp [hwt])]
    simp only [Bool.false_eq_true, if_false, Option.some.injEq, Prod.mk.injEq] at hstep
    have hl := h.fr.left (dst := o.dst) (d := .undef) (v := undef) (by simp only [Rep]) (fun _ _ => trivial) rfl
    exact hK _ _ _ _ (fin .undef undef e w g (hl.fr h.fr.defers h.fr.tsize hdlt) (fun _ _ => rfl) (fun t ht => by rw [← hstep.1]; simp only [putD, ht]; exact Env.get_put_same _ _ _) (fun _ _ _ _ => ⟨rfl, rfl, rfl⟩) (Ext.refl _ _ _) (Nat.le_refl _))
  | true =>
    rw [if_pos hwt]
    refine .inl ?_
    simp only [if_true, Option.bind_eq_some_iff, Option.some.injEq, Prod.mk.injEq] at hstep
    obtain ⟨⟨d, e1, σ1⟩, he, hE1, hZ1⟩ := hstep
    have hEd : ∀ t, o.dst = some t → Env.get (E (i + 1)) t = some d := fun t ht => by
      rw [← hE1]
      simp only [putD, ht]
      exact Env.get_put_same _ _ _
    obtain ⟨e1', he', hk1, hk2⟩ := evalOp_env hdr (fun t ht => hag t (by simp [readsOf, ht])) he
    have he2 : evalOp run esc (Z c).length e (Z c) op = some (d, e1', Z c) := by
      by_cases hr : isR op = true
      · have hS1 : ∀ (k : Nat) (m' : MOper), c ≤ k → k < i → ms[k]? = some m' → isW m'.op = false := by
          intro k m' hck hki hm'
          cases hw' : isW m'.op with
          | false => rfl
          | true =>
            have := ((chk.str _ hS' k i m' _ (by omega) hm' hm hw' hr).resolve_right fun ⟨_, _, _, _, _, _, _, hlt, _⟩ => by omega).1 hki (.inl rfl)
            have := (h.cutW k m' hm' hw').1 (this.resolve_left (by omega))
            omega
        by_cases hci : c ≤ i
        · have hS2 := hS1
          obtain ⟨cs, hcs⟩ := Z_app hk h0 hN chk hst hops hpl hfree hci (by omega) hS1
          cases op <;> simp only [isR, Bool.false_eq_true] at hr
          rename_i mv gg n x
          cases mv with
          | true => simp [drawable] at hdr
          | false =>
            rw [hcs] at he'
            refine evalOp_load (fun p hp => ?_) he'
            cases x with
            | tmp t =>
              obtain ⟨_, _, _, _, hu⟩ := h.fr.env t p hp
              exact hu
            | lit dd => simp [drawable] at hdr
        · cases op <;> simp only [isR, Bool.false_eq_true] at hr
          rename_i mv gg n x
          cases mv with
          | true => simp [drawable] at hdr
          | false =>
            cases x with
            | lit dd => simp [drawable] at hdr
            | tmp t =>
              have hagt := hag t (by simp [readsOf, opR, argR])
              simp only [evalOp, MArg.ev, Option.bind_eq_some_iff, Bool.false_eq_true, if_false, Option.some.injEq, Prod.mk.injEq] at he'
              obtain ⟨p, hp, cc, hcc, rfl, rfl, _⟩ := he'
              have hl : loadD gg n (Z c) p = some cc := by
                cases p <;> simp only [loadD, reduceCtorEq] at hcc ⊢
                · rename_i q off
                  have hql : q < (Z i).length := by
                    simp only [Option.bind_eq_some_iff] at hcc
                    obtain ⟨_, hgq, _⟩ := hcc
                    exact St.get_lt hgq
                  have := (load_later hk h0 hN chk hst hops hpl hfree hS hns hm rfl h (by rw [← hagt]; exact hp) hql c (by omega) (Nat.le_refl _)).1
                  rw [this]
                  exact hcc
                · exact hcc
              simp only [evalOp, MArg.ev, hp, Option.bind_some, hl, Bool.false_eq_true, if_false]
      · by_cases hc : isC op = true
        · have const : ∀ k, k ≤ ms.length → Z k = Z 0 := by
            intro k
            induction k with
            | zero => exact fun _ => rfl
            | succ k ih =>
              intro hkl
              have hmk : ms[k]? = some ms[k] := List.getElem?_eq_getElem (by omega)
              obtain ⟨q1, q2⟩ := chk.quiet i _ hm hc k _ hmk
              rw [Z_same chk hst hmk q1 q2, ih (by omega)]
          rw [const i (by omega), ← const c h.cle] at he'
          exact (evalOp_c hc he').2 _
        · exact (evalOp_free hdr hw (by simpa using hr) hna (by simpa using hc) he').2 _ _
    refine opd_ok hk h.fr.here (LB.hide hN) hN rfl hop he2 fun v w' g' hl => ?_
    obtain ⟨hl2, hsame, hext, hsize, _⟩ := hl.from_here hN h0 h.fr
    exact hK _ _ _ _ (fin d v e1' w' g' (hl2.fr h.fr.defers h.fr.tsize hdlt) hk1 hEd hsame hext hsize)

theorem step_write {S : Nat → Prop} {c i : Nat} {e : Env} {a : Act} {w : World} {g : Gh} {β : Nat → Nat} {o : Oper} {m : MOper} (hS : Closed ops S) (hS' : Closed ops fun k => k = i ∨ S k) (ho : ops[i]? = some o) (hns : ¬ S i) (hm : ms[i]? = some m) (hw : isW m.op = true)
    (h : Inv N ntmps σ0 g0 w0 ms keep E Z S c e a w g β) {K : Act → World → Prop} {Q : Exit → Act → World → Prop}
    (hK : ∀ a' w' e' g', Inv N ntmps σ0 g0 w0 ms keep E Z (fun k => k = i ∨ S k) (i + 1) e' a' w' g' β → K a' w') : wpOp P ops Q i K a w := by
  have hil : i < ms.length := (List.getElem?_eq_some_iff.1 hm).1
  have hna : isAlloc m.op = false := by cases hmo : m.op <;> rw [hmo] at hw <;> simp only [isW, Bool.false_eq_true] at hw <;> rfl
  have hci : c ≤ i := by
    rcases Nat.lt_or_ge i c with hlt | hge
    · exact absurd ((h.cutW i m hm hw).2 hlt) hns
    · exact hge
  obtain ⟨e1, g1, h⟩ := adopt chk hst hS h hci (by omega) fun k m' hck hki hm' => by
    refine ⟨?_, fun ha' => ?_⟩
    · cases hw' : isW m'.op with
      | false => rfl
      | true =>
        have := (chk.st _ hS' i k m m' (by omega) hm hm' hw (.inl hw')).2 hki (.inl rfl)
        have := (h.cutW k m' hm' hw').1 (this.resolve_left (by omega))
        omega
    · exact ((chk.st _ hS' i k m m' (by omega) hm hm' hw (.inr ha')).2 hki (.inl rfl)).resolve_left (by omega)
  have hag := agree_now chk hst hS' hm hns h.agree (fun _ => Nat.le_refl _)
  obtain ⟨op, mg, quiet, cmp, hop, hgd, hdk, hm2⟩ := hops i o ho
  rw [hm] at hm2
  injection hm2 with hm2
  subst hm2
  simp only at hw hna
  have hdr := chk.drw i _ hm
  simp only at hdr
  have hstep := hst i _ hm
  simp only [stepOp, Option.bind_eq_some_iff] at hstep
  obtain ⟨b, hb, hstep⟩ := hstep
  have hb' : wantedD e1 mg = some b := by
    rw [← hb]
    cases mg with
    | none => rfl
    | some gw =>
      obtain ⟨t, want⟩ := gw
      simp only [wantedD]
      rw [hag t (by simp [readsOf])]
  have hdlt : ∀ s, o.dst = some s → s < ntmps := fun s hs => by simpa [dstOk, hs] using hdk
  have fin : ∀ (d : Dat) (v : Value) (e2 : Env) (w' : World) (g' : Gh), Fr N ntmps σ0 g0 w0 (putD e2 o.dst d) (Z (i + 1)) (a.put o.dst v) w' g' → (∀ t, t ∉ takesOf op → Env.get e2 t = Env.get e1 t) → (∀ t, o.dst = some t → Env.get (E (i + 1)) t = some d) →
      Inv N ntmps σ0 g0 w0 ms keep E Z (fun k => k = i ∨ S k) (i + 1) (putD e2 o.dst d) (a.put o.dst v) w' g' β := by
    intro d v e2 w' g' hfr he1 hEd
    have nopend : ∀ (k : Nat) (m' : MOper), ms[k]? = some m' → isAlloc m'.op = true → (k = i ∨ S k) → i + 1 ≤ k → False := by
      intro k m' hm' ha' hs hik
      exact hns ((chk.st S hS i k _ m' (by omega) hm hm' hw (.inr ha')).1 (by omega) (hs.resolve_left (by omega)))
    refine ⟨hfr, by omega, fun k m' hm' hw' => ?_, fun k m' hm' ha' hkc => ?_, ?_, fun k m' hm' ha' hs hck => (nopend k m' hm' ha' hs hck).elim, fun k j m1 m2 h1 h2 h3 h4 h5 h6 h7 h8 => (nopend k m1 h1 h3 h5 h7).elim⟩
    · refine ⟨fun hs => ?_, fun hlt => ?_⟩
      · rcases hs with rfl | hs
        · omega
        · have := (h.cutW k m' hm' hw').1 hs; omega
      · by_cases hki : k = i
        · exact .inl hki
        · exact .inr ((h.cutW k m' hm' hw').2 (by omega))
    · by_cases hki : k = i
      · exact .inl hki
      · exact .inr (h.cutA k m' hm' ha' (by omega))
    · refine agree_step chk hst hS' hm hna h.agree (fun t h1 h2 => ?_) (fun t h1 => ?_) fun k m' hm' ha' hkc => ?_
      · rw [← he1 t h2]
        unfold putD
        cases hd : o.dst with
        | none => rfl
        | some s => exact Env.get_put_other _ _ fun e => h1 (by simp only; rw [hd, e])
      · simp only at h1
        rw [hEd t h1]
        simp only [putD, h1]
        exact Env.get_put_same _ _ _
      · have : k ≠ i := by
          rintro rfl
          rw [hm] at hm'
          injection hm' with e
          subst e
          simp only at ha'
          rw [hna] at ha'
          cases ha'
        omega
  unfold wpOp
  simp only [ho]
  have hwt := h.fr.wanted hgd hb'
  cases b with
  | false =>
    rw [if_neg (by simp [hwt])]
    simp only [Bool.false_eq_true, if_false, Option.some.injEq, Prod.mk.injEq] at hstep
    have hl := h.fr.left (dst := o.dst) (d := .undef) (v := undef) (by simp only [Rep]) (fun _ _ => trivial) rfl
    exact hK _ _ _ _ (fin .undef undef e1 w g1 (by rw [← hstep.2]; exact hl.fr h.fr.defers h.fr.tsize hdlt) (fun _ _ => rfl) (fun t ht => by rw [← hstep.1]; simp only [putD, ht]; exact Env.get_put_same _ _ _))
  | true =>
    rw [if_pos hwt]
    refine .inl ?_
    simp only [if_true, Option.bind_eq_some_iff, Option.some.injEq, Prod.mk.injEq] at hstep
    obtain ⟨⟨d, e2, σ1⟩, he, hE1, hZ1⟩ := hstep
    have hEd : ∀ t, o.dst = some t → Env.get (E (i + 1)) t = some d := fun t ht => by
      rw [← hE1]
      simp only [putD, ht]
      exact Env.get_put_same _ _ _
    obtain ⟨e1', he', hk1, hk2⟩ := evalOp_env hdr (fun t ht => hag t (by simp [readsOf, ht])) he
    refine opd_ok hk h.fr h0 hN rfl hop he' fun v w' g' hl => ?_
    exact hK _ _ _ _ (fin d v e1' w' g' (by rw [← hZ1]; exact hl.fr h.fr.defers h.fr.tsize hdlt) hk1 hEd)

theorem step_alloc {S : Nat → Prop} {c i : Nat} {e : Env} {a : Act} {w : World} {g : Gh} {β : Nat → Nat} {o : Oper} {m : MOper} (hS : Closed ops S) (hS' : Closed ops fun k => k = i ∨ S k) (ho : ops[i]? = some o) (hns : ¬ S i) (hm : ms[i]? = some m) (hal : isAlloc m.op = true)
    (h : Inv N ntmps σ0 g0 w0 ms keep E Z S c e a w g β) {K : Act → World → Prop} {Q : Exit → Act → World → Prop}
    (hK : ∀ a' w' e' g' β', Inv N ntmps σ0 g0 w0 ms keep E Z (fun k => k = i ∨ S k) c e' a' w' g' β' → K a' w') : wpOp P ops Q i K a w := by
  have hil : i < ms.length := (List.getElem?_eq_some_iff.1 hm).1
  have hci : c ≤ i := by
    rcases Nat.lt_or_ge i c with hlt | hge
    · exact absurd (h.cutA i m hm hal hlt) hns
    · exact hge
  obtain ⟨hg, ⟨t, ht⟩, z, hz, hsafe, hun⟩ := chk.alo i m hm hal
  obtain ⟨op, mg, quiet, cmp, hop, hgd, hdk, hm2⟩ := hops i o ho
  rw [hm] at hm2
  injection hm2 with hm2
  subst hm2
  simp only at hal hg ht hz
  subst hg hz
  have hdlt : ∀ s, o.dst = some s → s < ntmps := fun s hs => by simpa [dstOk, hs] using hdk
  have hwt := h.fr.wanted hgd (b := true) rfl
  unfold wpOp
  simp only [ho]
  rw [if_pos hwt]
  refine .inl ?_
  have he : evalOp run esc (Z c).length e (Z c) (.alloc z) = some (.ptr (Z c).length 0, e, z :: Z c) := rfl
  refine opd_ok hk h.fr.here (LB.hide hN) hN rfl hop he fun v w' g' hl => ?_
  obtain ⟨hl2, hsame, hext, hsize, hnew⟩ := hl.from_here hN h0 h.fr
  have hβ := hnew (Z c).length (Nat.le_refl _) (by simp)
  obtain ⟨us, T, u1, u2, u3⟩ := hl2.st.var (Z c).length z (by simp [St.get_nil, St.get_cons])
  obtain ⟨f1, f2⟩ := hl2.st.free (Z c).length (by simp)
  obtain ⟨hrv, _, _⟩ := hl2.val t ht
  simp only [Rep] at hrv
  have noti : ∀ (k : Nat) (m' : MOper), ms[k]? = some m' → isW m'.op = true → k ≠ i := by
    intro k m' hm' hw' e
    subst e
    rw [hm] at hm'
    injection hm' with e
    subst e
    simp [isW] at hw'
  have htk : a.tmps.size = (a.put o.dst v).tmps.size := by rw [ht]; simp [Act.put]
  refine hK (a.put o.dst v) w' (Env.del e t) g' (fun k => if k = i then g'.ρ (Z c).length else β k) ⟨⟨fun s d hd => ?_, ?_, ?_, hl2.lb, ?_, by rw [← htk]; exact h.fr.tsize⟩, h.cle, fun k m' hm' hw' => ?_, fun k m' hm' ha' hkc => .inr (h.cutA k m' hm' ha' hkc), ?_, fun k m' hm' ha' hs hck => ?_, fun k j m1 m2 h1 h2 h3 h4 h5 h6 h7 h8 hkj => ?_⟩
  · rw [Env.get_del] at hd
    split at hd
    · cases hd
    · rename_i hst'
      obtain ⟨u, q1, q2, q3, _⟩ := hl2.env s d hd (by rw [ht]; simpa using Ne.symm hst')
      obtain ⟨_, _, _, _, hu⟩ := h.fr.env s d hd
      refine ⟨u, ?_, q2, q3, hu⟩
      rw [ht]
      simp only [Act.put]
      rw [Array.getElem?_setIfInBounds_ne (Ne.symm hst')]
      exact q1
  · have hs := hl2.st
    exact ⟨fun id cc hcc => hs.var id cc (by rw [St.get_cons_old (St.get_lt hcc)]; exact hcc), h.fr.st.under, fun x y hx hy => hs.inj x y (by simp; omega) (by simp; omega), fun id hid => hs.free id (by simp; omega), hs.fresh⟩
  · have hch := hl2.ch
    exact ⟨hch.os, hch.tape, hch.output, hch.size, hch.ext, h.fr.ch.len, hch.keep, fun id q1 q2 => hch.new id q1 (by simp; omega), fun n hn hh id cc hid hcc => hch.low n hn hh id cc hid (by rw [St.get_cons_old (St.get_lt hcc)]; exact hcc)⟩
  · rw [ht]; simpa [Act.put] using h.fr.defers
  · rw [← h.cutW k m' hm' hw']
    exact ⟨fun hs => hs.resolve_left (noti k m' hm' hw'), .inr⟩
  · intro j hj hjl s hs hwr
    have hji : j ≠ i := by rintro rfl; exact hj hil (.inl rfl)
    rw [Env.get_del]
    split
    · rename_i hst'
      subst hst'
      exfalso
      by_cases hlt : i < j
      · have := (hwr i _ hlt hm ht).2 rfl
        omega
      · have hjlt : j < ms.length := by omega
        have hmj : ms[j]? = some ms[j] := List.getElem?_eq_getElem hjlt
        unfold rd at hs
        rw [hmj] at hs
        exact hj hjlt ((chk.rw _ hS' i j _ _ s (Ne.symm hji) hm hmj ht hs).2 (by omega) (.inl rfl))
    · rename_i hst'
      refine h.agree j (fun q1 q2 => hj q1 (.inr q2)) hjl s hs fun k m' hk' hm' hd' => ?_
      obtain ⟨q1, q2⟩ := hwr k m' hk' hm' hd'
      refine ⟨q1.resolve_left ?_, q2⟩
      rintro rfl
      rw [hm] at hm'
      injection hm' with e
      subst e
      simp only at hd'
      rw [ht] at hd'
      injection hd' with hd'
      exact hst' hd'.symm
  · by_cases hki : k = i
    · subst hki
      rw [hm] at hm'
      injection hm' with e
      subst e
      simp only [if_true]
      refine ⟨z, us, T, t, rfl, ht, ?_, u1, u2, Nat.le_trans h.fr.ch.size hβ, f1, f2, fun id hid e => ?_⟩
      · rw [ht]
        simp only [Act.put]
        rw [Array.getElem?_setIfInBounds_self_of_lt (Nat.lt_of_lt_of_le (hdlt t ht) h.fr.tsize), hrv]
      · have := hl2.st.inj id (Z c).length (by simp; omega) (by simp) e
        omega
    · simp only [hki, if_false]
      obtain ⟨zero, vs, T', t', q1, q2, q3, q4, q5, q6, q7, q8, q9⟩ := h.pend k m' hm' ha' (hs.resolve_left hki) hck
      obtain ⟨_, _, z', hz', _, hun'⟩ := chk.alo k m' hm' ha'
      rw [hz'] at q1
      injection q1 with q1
      subst q1
      have hbl : β k < w.heap.size := by
        rcases Nat.lt_or_ge (β k) w.heap.size with h' | h'
        · exact h'
        · simp [Array.getElem?_eq_none h'] at q4
      obtain ⟨s1, s2, s3⟩ := hsame (β k) hbl q8 q9
      refine ⟨z', vs, T', t', hz', q2, ?_, by rw [s1]; exact q4, RepL_ext (hext.mono (Nat.zero_le _)) _ _ hun' q5, q6, by rw [s2]; exact q7, by rw [s3]; exact q8, fun id hid => by rw [hext.rho id hid]; exact q9 id hid⟩
      have hne : t ≠ t' := by
        rintro rfl
        exact chk.ww k i m' _ t hki hm' hm q2 (by simp only; exact ht)
      rw [ht]
      simp only [Act.put]
      rw [Array.getElem?_setIfInBounds_ne hne]
      exact q3
  · have blt : ∀ (k : Nat) (m' : MOper), ms[k]? = some m' → isAlloc m'.op = true → S k → c ≤ k → β k < w.heap.size := by
      intro k m' hm' ha' hs hck
      obtain ⟨zero, vs, T', t', q1, q2, q3, q4, _⟩ := h.pend k m' hm' ha' hs hck
      rcases Nat.lt_or_ge (β k) w.heap.size with h' | h'
      · exact h'
      · simp [Array.getElem?_eq_none h'] at q4
    by_cases hki : k = i <;> by_cases hji : j = i
    · omega
    · have := blt j m2 h2 h4 (h6.resolve_left hji) h8
      simp only [hki, hji, if_true, if_false]
      omega
    · have := blt k m1 h1 h3 (h5.resolve_left hki) h7
      simp only [hki, hji, if_true, if_false]
      omega
    · simp only [hki, hji, if_false]
      exact h.pinj k j m1 m2 h1 h2 h3 h4 (h5.resolve_left hki) (h6.resolve_left hji) h7 h8 hkj
end

/-! ### the region -/
theorem Fr.world {e : Env} {σ : St} {a : Act} {w : World} {g : Gh} (h : Fr N ntmps σ0 g0 w0 e σ a w g) {w' : World} (hos : w'.os = w.os) (htape : w'.tape = w.tape) (hout : w'.output = w.output) (hheap : w'.heap = w.heap) : Fr N ntmps σ0 g0 w0 e σ a w' g := by
  have hext : ∀ n, Ext n g w g w' := fun n => ⟨fun b o u _ hc => by simpa [World.cell?, hheap] using hc, fun _ => Nat.le_refl _, fun _ _ => rfl⟩
  have hsame : ∀ b, Same g w g w' b := fun b => ⟨by rw [hheap], rfl, rfl⟩
  refine ⟨h.env.soft (hext _) fun b π _ => hsame b, ⟨fun id c hc => ?_, h.st.under, h.st.inj, h.st.free, fun b hb => h.st.fresh b (by rwa [hheap] at hb)⟩, h.ch.trans ⟨hos, htape, hout, by rw [hheap]; exact Nat.le_refl _, hext _, Nat.le_refl _, fun b _ => hsame b, fun id h1 h2 => by omega, fun _ _ hh => hh⟩, h.lb, h.defers, h.tsize⟩
  obtain ⟨vs, T, h1, h2, h3⟩ := h.st.var id c hc
  refine ⟨vs, T, by rw [hheap]; exact h1, RepL_ext (hext σ.length) _ _ (h.st.under id c hc) h2, fun i d v hd hv => ?_⟩
  obtain ⟨k1, k2⟩ := h3 i d v hd hv
  exact ⟨k1, k2.same fun b j _ => hsame b⟩

def done (listed : Array Bool) (k : Nat) : Prop := listed.getD k false = true
def left (n : Nat) (listed : Array Bool) : Nat := ((List.range n).filter fun k => !listed.getD k false).length

theorem done_set {listed : Array Bool} {i : Nat} (hi : i < listed.size) : done (listed.setIfInBounds i true) = fun k => k = i ∨ done listed k := by
  funext k
  apply propext
  unfold done
  by_cases h : i = k
  · subst h
    simp [hi]
  · rw [getD_set_ne false h]
    exact ⟨.inr, fun h' => h'.resolve_left (Ne.symm h)⟩
theorem left_set {n : Nat} {listed : Array Bool} {i : Nat} (hi : i < listed.size) (hin : i < n) (hd : ¬ done listed i) : left n (listed.setIfInBounds i true) < left n listed := by
  unfold left
  have h1 : ((List.range n).filter fun k => !(listed.setIfInBounds i true).getD k false) = ((List.range n).filter fun k => !listed.getD k false).filter fun k => k != i := by
    rw [List.filter_filter]
    apply List.filter_congr
    intro k _
    by_cases h : i = k
    · subst h; simp [hi]
    · rw [getD_set_ne false h]; simp [Ne.symm h]
  rw [h1]
  refine List.length_filter_lt_length_iff_exists.2 ⟨i, ?_, by simp⟩
  rw [List.mem_filter]
  exact ⟨List.mem_range.2 hin, by simpa [done] using hd⟩

theorem keep_congr {e e' : Env} : ∀ {l : List Nat}, (∀ t ∈ l, Env.get e t = Env.get e' t) → Env.keep e l = Env.keep e' l
  | [], _ => rfl
  | n :: l, h => by
    have h1 := h n (by simp)
    simp only [Env.keep]
    rw [h1, keep_congr fun t ht => h t (by simp [ht])]

theorem opsDraw_ok {ps : List (List Nat)} : ∀ {l : List Oper} {i : Nat} {r : List MOper}, opsDraw P ntmps ops ps i l = some r → r.length = l.length ∧ ∀ (k : Nat) (o : Oper), l[k]? = some o → ∃ (op : MOp) (mg : Option (Nat × Bool)) (quiet cmp : Bool), opOfD P quiet cmp o = some op ∧ guardOf ops o = some mg ∧ dstOk ntmps o = true ∧ r[k]? = some ({ dst := o.dst, op := op, guard := mg } : MOper)
  | [], i, r, h => by
    simp only [opsDraw, Option.some.injEq] at h
    subst h
    exact ⟨rfl, by simp⟩
  | o :: l, i, r, h => by
    simp only [opsDraw, Option.bind_eq_some_iff] at h
    obtain ⟨op, hop, mg, hmg, h⟩ := h
    split at h
    · rename_i hd
      simp only [Option.bind_eq_some_iff, Option.some.injEq] at h
      obtain ⟨r', hr', rfl⟩ := h
      obtain ⟨h1, h2⟩ := opsDraw_ok hr'
      refine ⟨by simp [h1], fun k o' hk => ?_⟩
      cases k with
      | zero =>
        simp only [List.getElem?_cons_zero, Option.some.injEq] at hk
        subst hk
        exact ⟨op, mg, _, _, hop, hmg, hd, rfl⟩
      | succ k => exact h2 k o' (by simpa using hk)
    · cases h

theorem stepOp_plain {m : MOper} {e e1 : Env} {σ σ1 : St} {base : Nat} (h : stepOp run esc base m e σ = some (e1, σ1)) : stepOp run esc base (plainO m) e σ = some (e1, σ1) ∧
    ∀ t, freeRs m t = true → wantedD e m.guard = some true → ∀ (n : Nat) (A v : MArg), (plainO m).op = .store n A v → ∀ p off q off', A.ev e = some (.ptr p off) → Env.get e t = some (.ptr q off') → q ≠ p := by
  obtain ⟨dst, op, guard⟩ := m
  cases op
  case storef n A v rs =>
    simp only [stepOp, Option.bind_eq_some_iff] at h
    obtain ⟨b, hb, h⟩ := h
    cases b with
    | false =>
      refine ⟨by simp only [plainO, stepOp, hb, Option.bind_some]; exact h, fun t _ hw => ?_⟩
      simp only at hw
      rw [hb] at hw
      cases hw
    | true =>
      simp only [if_true, Option.bind_eq_some_iff, Option.some.injEq, Prod.mk.injEq] at h
      obtain ⟨⟨d, e2, σ2⟩, hev, rfl, rfl⟩ := h
      simp only [evalOp, Option.bind_eq_some_iff] at hev
      obtain ⟨pp, hpp, hev⟩ := hev
      cases pp <;> simp only [reduceCtorEq, Option.bind_eq_some_iff] at hev
      rename_i p poff
      obtain ⟨dv, hdv, cc, hcc, cs, hcs, hev⟩ := hev
      split at hev
      · rename_i hc
        split at hev
        · rename_i hcl
          simp only [Option.some.injEq, Prod.mk.injEq] at hev
          obtain ⟨rfl, rfl, rfl⟩ := hev
          refine ⟨by simp only [plainO, stepOp, hb, Option.bind_some, if_true, evalOp, hpp, hdv, hcc, hcs]; rw [if_pos hc]; rfl, fun t ht _ n2 A2 v2 ho p2 off q off' hA hq => ?_⟩
          simp only [plainO, MOp.store.injEq] at ho
          obtain ⟨rfl, rfl, rfl⟩ := ho
          rw [hpp] at hA
          injection hA with hA
          injection hA with hA _
          subst hA
          simp only [freeRs] at ht
          have := List.all_eq_true.1 hcl t (by simpa using ht)
          simp only [clearOf, hq] at this
          simpa using this
        · cases hev
      · cases hev
  all_goals exact ⟨h, fun t ht => by simp [freeRs] at ht⟩
theorem mark_get {l : List DItem} {mq : List MOper} (hl : l.map (·.1.1) = mq) {k : Nat} {m : MOper} (hm : ((markD l).map plainO)[k]? = some m) (hd : drawable m.op = true) : mq[k]? = some m := by
  rw [List.getElem?_map, Option.map_eq_some_iff] at hm
  obtain ⟨m0, hm0, rfl⟩ := hm
  unfold markD at hm0
  rw [List.getElem?_map, Option.map_eq_some_iff] at hm0
  obtain ⟨a, ha, rfl⟩ := hm0
  rw [← hl, List.getElem?_map, ha]
  obtain ⟨⟨⟨dst, op, guard⟩, p⟩, i⟩ := a
  simp only [Option.map_some]
  cases op
  case store n x v =>
    show some _ = some (plainO (if (rsOf l _).isEmpty = true then _ else _))
    split <;> rfl
  case storef n x v rs => simp [plainO, drawable] at hd
  all_goals rfl

theorem draw_ok (hk : CallsOk P run) (h0 : LB (N - 1) g0) (hN : 0 < N) (hu0 : ∀ id c, St.get σ0 id = some c → Dat.underL σ0.length c = true) (hmix : P.follows .mixedOrders = true) {l : List DItem} {mq : List MOper} (hlq : l.map (·.1.1) = mq) (hchk : drawOk ops.toList (markD l) keep = true) {ps : List (List Nat)} (hdr : opsDraw P ntmps ops ps 0 ops.toList = some mq)
    {id : Nat} {e : Env} {σ : St} {a : Act} {w : World} {g : Gh} (h : Fr N ntmps σ0 g0 w0 e σ a w g) {e1 : Env} {σ1 : St} (he : stepOps run esc σ0.length (markD l) e σ = some (e1, σ1)) {Q : Exit → Act → World → Prop}
    (hQ : ∀ a' w' g', Fr N ntmps σ0 g0 w0 (Env.keep e1 keep) (gc σ0.length ((Env.keep e1 keep).map (·.2)) σ1) a' w' g' → Q .normal a' w') : (Code.region id ops true).wp P Q a w := by
  obtain ⟨hlen, hops⟩ := opsDraw_ok hdr
  obtain ⟨ms, hpl⟩ : ∃ ms, (markD l).map plainO = ms := ⟨_, rfl⟩
  have hll : (markD l).length = ms.length := by rw [← hpl, List.length_map]
  have hlen' : ms.length = ops.size := by
    rw [← hll]
    unfold markD
    rw [List.length_map]
    have : l.length = mq.length := by rw [← hlq, List.length_map]
    rw [this]
    simpa using hlen
  have chk := chk_of hpl hlen' hchk
  have hops' : OpsOk P ntmps ops ms := fun k o ho => by
    obtain ⟨op, mg, q, c, h1, h2, h3, h4⟩ := hops k o (by simpa using ho)
    have hkl : k < ms.length := by rw [hlen']; exact (Array.getElem?_eq_some_iff.1 ho).1
    have hmk : ms[k]? = some ms[k] := List.getElem?_eq_getElem hkl
    have := mark_get hlq (k := k) (m := ms[k]) (by rw [hpl]; exact hmk) (chk.drw k _ hmk)
    rw [h4] at this
    injection this with this
    exact ⟨op, mg, q, c, h1, h2, h3, by rw [this]; exact hmk⟩
  obtain ⟨E, Z, hE0, hZ0, hE1, hZ1, hst0⟩ := steps_states he
  rw [hll] at hE1 hZ1
  have hst : ∀ (k : Nat) (m : MOper), ms[k]? = some m → stepOp run esc σ0.length m (E k) (Z k) = some (E (k + 1), Z (k + 1)) := fun k m hm => by
    rw [← hpl, List.getElem?_map, Option.map_eq_some_iff] at hm
    obtain ⟨m0, hm0, rfl⟩ := hm
    exact (stepOp_plain (hst0 k m0 hm0)).1
  have hfree : FreeD (markD l) E := fun i m0 hm0 => (stepOp_plain (hst0 i m0 hm0)).2
  refine wp_region_any hmix ?_
  -- the end
  have fin : ∀ (S : Nat → Prop) (c : Nat) (e' : Env) (a' : Act) (w' : World) (g' : Gh) (β : Nat → Nat), Closed ops S → (∀ k, k < ms.length → S k) → Inv N ntmps σ0 g0 w0 ms keep E Z S c e' a' w' g' β → Q .normal a' w' := by
    intro S c e' a' w' g' β hS hall hinv
    obtain ⟨e2, g2, h2⟩ := adopt chk hst hS hinv hinv.cle (Nat.le_refl _) fun i m hci hi hm => by
      refine ⟨?_, fun _ => hall i hi⟩
      cases hw : isW m.op with
      | false => rfl
      | true => have := (hinv.cutW i m hm hw).1 (hall i hi); omega
    have hkeep : Env.keep e2 keep = Env.keep e1 keep := by
      rw [← hE1]
      refine keep_congr fun t ht => h2.agree ms.length (fun hlt => by omega) (Nat.le_refl _) t ?_ fun i m hi hm _ => ⟨hall i hi, fun _ => hi⟩
      unfold rd
      rw [List.getElem?_eq_none (Nat.le_refl _)]
      exact ht
    have := h2.fr.gc hu0 keep
    rw [hkeep, hZ1] at this
    exact hQ a' w' g2 this
  have allDone : ∀ listed : Array Bool, listed.size = ops.size → Region.ready .any ops listed = [] → ∀ k, k < ms.length → done listed k := by
    intro listed hsz hr k
    induction k using Nat.strongRecOn with
    | _ k ih =>
      intro hkl
      have hko : ops[k]? = some ops[k] := Array.getElem?_eq_getElem (by omega)
      by_cases hd : done listed k
      · exact hd
      · exfalso
        have : k ∈ Region.ready .any ops listed := by
          rw [mem_ready]
          refine ⟨?_, _, hko, fun ed hed hb => ?_⟩
          · have hkl2 : k < listed.size := by omega
            simpa [done, hkl2] using hd
          · have hlt := chk.edge k _ hko ed hed hb
            exact ih ed.on hlt (by omega)
        rw [hr] at this
        cases this
  have key : ∀ (fuel : Nat) (listed : Array Bool) (c : Nat) (e' : Env) (a' : Act) (w' : World) (g' : Gh) (β : Nat → Nat), listed.size = ops.size → Closed ops (done listed) → (c = 0 ∨ ∃ m, ms[c - 1]? = some m ∧ isW m.op = true ∧ 0 < c) →
      Inv N ntmps σ0 g0 w0 ms keep E Z (done listed) c e' a' w' g' β → left ops.size listed ≤ fuel → wpAny P .any ops Q fuel listed a' w' := by
    intro fuel
    induction fuel with
    | zero =>
      intro listed c e' a' w' g' β hsz hcl hcw hinv hleft
      have hr : Region.ready .any ops listed = [] := by
        refine List.eq_nil_iff_forall_not_mem.2 fun i hi => ?_
        obtain ⟨h1, o, ho, _⟩ := mem_ready.1 hi
        have hlt : i < ops.size := (Array.getElem?_eq_some_iff.1 ho).1
        have hil : i < listed.size := by omega
        have : ¬ done listed i := by
          simp only [done]
          simp [hil] at h1 ⊢
          exact h1
        have := left_set hil hlt this
        omega
      exact ⟨hr, fin _ c e' a' w' g' β hcl (allDone listed hsz hr) hinv⟩
    | succ fuel ih =>
      intro listed c e' a' w' g' β hsz hcl hcw hinv hleft
      refine ⟨fun hr => fin _ c e' a' w' g' β hcl (allDone listed hsz hr) hinv, fun i hi => ?_⟩
      obtain ⟨h1, o, ho, hpre⟩ := mem_ready.1 hi
      have hlt : i < ops.size := (Array.getElem?_eq_some_iff.1 ho).1
      have hil : i < listed.size := by omega
      have hns : ¬ done listed i := by
        simp only [done]
        simp [hil] at h1 ⊢
        exact h1
      have hsz' : (listed.setIfInBounds i true).size = ops.size := by simpa using hsz
      have hds := done_set (listed := listed) hil
      have hcl' : Closed ops fun k => k = i ∨ done listed k := by
        intro k o' ho' hs ed hed hb
        rcases hs with rfl | hs
        · rw [ho] at ho'
          injection ho' with ho'
          subst ho'
          exact .inr (hpre ed hed hb)
        · exact .inr (hcl k o' ho' hs ed hed hb)
      have hm : ms[i]? = some ms[i] := List.getElem?_eq_getElem (by omega)
      have hl' := left_set hil hlt hns
      by_cases hw : isW (ms[i]).op = true
      · refine step_write hk h0 hN chk hst hops' hpl hfree hcl hcl' ho hns hm hw hinv fun a2 w2 e2 g2 h2 => ?_
        exact ih _ (i + 1) e2 a2 w2 g2 β hsz' (by rw [hds]; exact hcl') (.inr ⟨_, by simpa using hm, hw, by omega⟩) (by rw [hds]; exact h2) (by omega)
      · by_cases ha : isAlloc (ms[i]).op = true
        · refine step_alloc hk h0 hN chk hst hops' hpl hfree hcl hcl' ho hns hm ha hinv fun a2 w2 e2 g2 β2 h2 => ?_
          exact ih _ c e2 a2 w2 g2 β2 hsz' (by rw [hds]; exact hcl') hcw (by rw [hds]; exact h2) (by omega)
        · refine step_free hk h0 hN chk hst hops' hpl hfree hcl hcl' ho hns hm (by simpa using hw) (by simpa using ha) hcw hinv fun a2 w2 e2 g2 h2 => ?_
          exact ih _ c e2 a2 w2 g2 β hsz' (by rw [hds]; exact hcl') hcw (by rw [hds]; exact h2) (by omega)
  have hnone : ∀ k, ¬ done (Array.replicate ops.size false) k := by
    intro k hd
    unfold done at hd
    by_cases hk : k < ops.size
    · simp [hk] at hd
    · simp [hk] at hd
  refine key ops.size (Array.replicate ops.size false) 0 e a _ g (fun _ => 0) (by simp) (fun k o _ hs => absurd hs (hnone k)) (.inl rfl) ⟨?_, Nat.zero_le _, fun k m _ _ => ⟨fun hs => absurd hs (hnone k), fun hlt => by omega⟩, fun k m _ _ hlt => by omega, fun j _ hjl t _ hw => ?_, fun i m _ _ hs => absurd hs (hnone i), fun i j m m' _ _ _ _ hs => absurd hs (hnone i)⟩ ?_
  · rw [hZ0]
    exact h.world rfl rfl rfl rfl
  · rw [← hE0]
    refine (E_keep chk hst (Nat.zero_le j) hjl fun k m hk1 hk2 hm => ⟨fun hd => ?_, fun htk => ?_⟩).symm
    · exact hnone k (hw k m hk2 hm hd).1
    · rename_i ht
      unfold rd at ht
      cases hmj : ms[j]? with
      | none => rw [hmj] at ht; exact chk.tkk k m t hm htk ht
      | some mj => rw [hmj] at ht; exact chk.tk k j m mj t (by omega) hm hmj htk ht
  · unfold left
    refine Nat.le_trans (List.length_filter_le _ _) (by simp)
end
end Go.Mir
