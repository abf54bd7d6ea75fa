/- Operations, third part: variables: made, read, written. -/
import Derived.Test.YtlpfeikoniepiaaRRMirOps2
set_option linter.all false
namespace Go.Mir
set_option linter.unusedVariables false
set_option linter.unusedSectionVars false
set_option linter.unusedSimpArgs false

section
variable {P : Program} {N ntmps : Nat} {σ0 : St} {g0 : Gh} {w0 : World} {e : Env} {σ : St} {a : Act} {w : World} {g : Gh} {run : Run} {esc : Nat → Bool} {base : Nat} {dst : Option Nat} {d : Dat} {e1 : Env} {σ1 : St}

theorem cell_oneCell {u : Value} {d : Dat} (hc : d.isCell = true) (hr : Rep g w d u) : u.oneCell' = true := by
  cases d <;> simp only [Dat.isCell, Bool.false_eq_true] at hc <;> simp only [Rep] at hr
  all_goals first
    | (subst hr; rfl)
    | (obtain ⟨_, _, rfl, _⟩ := hr; rfl)
    | (obtain ⟨_, rfl, _⟩ := hr; rfl)

/-- cells that lie in a row are read -/
theorem run_loadVar_at {t : TypeId} {agg : Bool} {n b off : Nat} {vs : List Value} (ha : aggP P t = some agg) (hn : sizeP P t = some n) (h1 : agg = false → n = 1) (hl : vs.length = n)
    (hc : ∀ i v, vs[i]? = some v → w.cell? ⟨b, off + i, none⟩ = some v) :
    (loadVar t ⟨b, off, none⟩).run P w = .ok (if agg then .agg vs.toArray else (vs.head?).getD _root_.Go.undef) w := by
  simp only [aggP, Option.map_eq_some_iff] at ha
  obtain ⟨dsc, hd, ha⟩ := ha
  simp only [sizeP, Option.map_eq_some_iff] at hn
  obtain ⟨inf, hi, hn⟩ := hn
  cases agg with
  | true =>
    have hag : (isAgg t).run P w = .ok true w := by
      simp only [isAgg, Sem.run_bind, run_underlying hd, Result.andThen_ok]
      split at ha <;> simp_all
    have hlc := run_loadCells_list (P := P) w ⟨b, off, none⟩ vs (fun j v hv => by rw [Addr.add_lit]; exact hc j v hv)
    rw [hl, ← hn] at hlc
    simp only [loadVar, Sem.run_bind, hag, Result.andThen_ok, if_true, sizeOf, typeInfo, run_program, hi, Sem.run_pure, hlc]
  | false =>
    have hag : (isAgg t).run P w = .ok false w := by
      simp only [isAgg, Sem.run_bind, run_underlying hd, Result.andThen_ok]
      split at ha <;> simp_all
    rw [h1 rfl] at hl
    match vs, hl with
    | [v], _ =>
      have := hc 0 v rfl
      simp only [Nat.add_zero] at this
      simp [loadVar, hag, this]

theorem StOk.cell (h : StOk g w σ) {id : Nat} {c : List Dat} (hc : St.get σ id = some c) : ∃ vs T, w.heap[g.ρ id]? = some (.cells (vs : List Value).toArray T (0, 0)) ∧ RepL g w c vs ∧ (∀ i v, vs[i]? = some v → w.cell? ⟨g.ρ id, i, none⟩ = some v) ∧
    ∀ (i : Nat) d v, c[i]? = some d → vs[i]? = some v → d.isCell = true ∧ Own g w (fun _ => .var id i) d v := by
  obtain ⟨vs, T, hh, hl, ho⟩ := h.var id c hc
  exact ⟨vs, T, hh, hl, fun i v hv => by rw [cell_of_row w _ _ _ _ _ hh]; simpa using hv, ho⟩

theorem StOk.cells_all (h : StOk g w σ) {id : Nat} {c : List Dat} (hc : St.get σ id = some c) : c.all Dat.isCell = true := by
  obtain ⟨vs, T, hh, hl, _, ho⟩ := h.cell hc
  rw [List.all_eq_true]
  intro d hd
  obtain ⟨i, hi⟩ := List.getElem?_of_mem hd
  obtain ⟨v, hv, _⟩ := RepL_get hl hi
  exact (ho i d v hi hv).1

/-- What a pointer leads to, read. -/
theorem Fr.load (h : Fr N ntmps σ0 g0 w0 e σ a w g) {p : Dat} {v : Value} (hr : Rep g w p v) (hu : p.under σ.length = true) {t : TypeId} {agg : Bool} {n : Nat} (ha : aggP P t = some agg) (hn : sizeP P t = some n) (h1 : agg = false → n = 1)
    {d : Dat} (hd : loadD agg n σ p = some d) : ∃ u, (Instr.loadAt t v).run P w = .ok u w ∧ Rep g w d u ∧ d.under σ.length = true ∧
      (∀ id off, p = .ptr id off → agg = false → ∃ (c : List Dat) (vs : List Value), St.get σ id = some c ∧ c[off]? = some d ∧ vs[off]? = some u ∧ Own g w (fun _ => .var id off) d u) := by
  cases p <;> simp only [loadD, reduceCtorEq, Option.bind_eq_some_iff] at hd
  · rename_i id off
    obtain ⟨c, hc, hd⟩ := hd
    split at hd
    · rename_i hle
      simp only [Rep] at hr
      subst hr
      obtain ⟨vs, T, hh, hl, hcell, ho⟩ := h.st.cell hc
      obtain ⟨r1, r2⟩ := Rep_ofCells (n := n) (RepL_take hl off n) (all_take (h.st.cells_all hc) off n) hd
      have hlen := RepL_len hl
      refine ⟨_, ?_, r1, r2 _ (underL_take (h.st.under id c hc) off n), ?_⟩
      · simp only [Instr.loadAt, Instr.sureAddr, Sem.run_bind, Sem.run_pure, Result.andThen_ok]
        refine run_loadVar_at ha hn h1 (by rw [List.length_take, List.length_drop]; omega) fun i v hv => ?_
        rw [List.getElem?_take] at hv
        split at hv
        · rw [List.getElem?_drop] at hv
          exact hcell _ _ hv
        · cases hv
      · intro id' off' hp hag
        injection hp with e1 e2
        subst e1 e2 hag
        have hn1 := h1 rfl
        subst hn1
        have hlt : off < c.length := by omega
        have hltv : off < vs.length := by omega
        simp only [ofCells, Bool.false_eq_true, if_false] at hd ⊢
        rw [List.drop_eq_getElem_cons hlt] at hd
        simp only [List.take_succ_cons, List.take_zero, Option.some.injEq] at hd
        have e3 : ((List.take 1 (List.drop off vs)).head?).getD _root_.Go.undef = vs[off] := by
          rw [List.drop_eq_getElem_cons hltv]; rfl
        rw [e3]
        have hcd : c[off]? = some d := by rw [List.getElem?_eq_getElem hlt, hd]
        have hvd : vs[off]? = some vs[off] := List.getElem?_eq_getElem hltv
        exact ⟨c, vs, hc, hcd, hvd, (ho off d _ hcd hvd).2⟩
    · cases hd
  · rename_i cs
    split at hd
    · rename_i hle
      simp only [Rep] at hr
      obtain ⟨b, off, rfl, hp, hat⟩ := hr
      have hex : ∃ vs : List Value, vs.length = n ∧ RepL g w (cs.take n) vs ∧ ∀ i v, vs[i]? = some v → w.cell? ⟨b, off + i, none⟩ = some v := by
        have key : ∀ i, i < n → ∃ u, w.cell? ⟨b, off + i, none⟩ = some u := fun i hi => by
          obtain ⟨u, hu, _⟩ := RepAt_get hat (List.getElem?_eq_getElem (show i < cs.length by omega))
          exact ⟨u, hu⟩
        refine ⟨(List.range n).map fun i => (w.cell? ⟨b, off + i, none⟩).getD _root_.Go.undef, by simp, RepL_mk (by simp; omega) fun i d v hd hv => ?_, fun i v hv => ?_⟩
        · rw [List.getElem?_take] at hd
          split at hd
          · rename_i hi
            obtain ⟨u, hu, _, hru⟩ := RepAt_get hat hd
            simp only [List.getElem?_map, List.getElem?_range hi, Option.map_some, Option.some.injEq] at hv
            rw [hu] at hv
            simp only [Option.getD_some] at hv
            subst hv
            exact hru
          · cases hd
        · by_cases hi : i < n
          · obtain ⟨u, hu⟩ := key i hi
            simp only [List.getElem?_map, List.getElem?_range hi, Option.map_some, Option.some.injEq] at hv
            rw [hu] at hv ⊢
            simpa using hv
          · rw [List.getElem?_eq_none (by simp; omega)] at hv
            cases hv
      obtain ⟨vs, hvl, hrl, hcell⟩ := hex
      have hall : (cs.take n).all Dat.isCell = true := by
        rw [List.all_eq_true]
        intro d hd
        obtain ⟨i, hi⟩ := List.getElem?_of_mem (List.mem_of_mem_take hd)
        exact (RepAt_get hat hi).choose_spec.2.1
      obtain ⟨r1, r2⟩ := Rep_ofCells (n := n) hrl hall hd
      refine ⟨_, ?_, r1, r2 _ (by simpa using underL_take (by simpa [Dat.under] using hu) 0 n), fun id off hp => by cases hp⟩
      simp only [Instr.loadAt, Instr.sureAddr, Sem.run_bind, Sem.run_pure, Result.andThen_ok]
      exact run_loadVar_at ha hn h1 hvl hcell
    · cases hd

/-- var id off's room goes to slot s -/
def varTo (N id off s : Nat) : Place → Place
  | .var i j => if i = id ∧ j = off then .slot N s 0 else .var i j
  | π => π
def toVar (N t id off : Nat) : Place → Place
  | .slot m q i => if m = N ∧ q = t ∧ i = 0 then .var id off else .slot m q i
  | π => π

theorem LB.varTo {id off s : Nat} (h : LB N g) : LB N (g.map (Go.Mir.varTo N id off s)) := by
  refine h.map _ fun π hπ => ?_
  cases π <;> simp only [Go.Mir.varTo] <;> try exact hπ
  split
  · exact Nat.le_refl _
  · exact hπ
theorem LB.toVar {t id off : Nat} (h : LB N g) : LB N (g.map (Go.Mir.toVar N t id off)) := by
  refine h.map _ fun π hπ => ?_
  cases π <;> simp only [Go.Mir.toVar] <;> try exact hπ
  split
  · trivial
  · exact hπ
theorem keeps_varTo {id off s : Nat} : Keeps N (Go.Mir.varTo N id off s) := ⟨fun _ _ _ _ => rfl, fun _ _ _ => rfl⟩
theorem keeps_toVar {t id off : Nat} : Keeps N (Go.Mir.toVar N t id off) := ⟨fun m s i hm => by simp only [Go.Mir.toVar]; rw [if_neg (by omega)], fun _ _ _ => rfl⟩

theorem EnvOk.map (h : EnvOk N σ.length g w e a.tmps) (φ : Place → Place) (hφ : ∀ s i, φ (.slot N s i) = .slot N s i) : EnvOk N σ.length (g.map φ) w e a.tmps := by
  intro s d hd
  obtain ⟨v, hv, hr, ho, hu⟩ := h s d hd
  exact ⟨v, hv, Rep_ext (N := σ.length) (Ext.map φ) _ _ hu hr, ho.map φ (fun i => hφ s i), hu⟩

/-- the variables with one of them told anew -/
theorem StOk.set {g' : Gh} {w' : World} (h : StOk g w σ) {id : Nat} (hid : id < σ.length) {c : List Dat}
    (hext : Ext σ.length g w g' w') (hsize : w.heap.size ≤ w'.heap.size)
    (hv : ∃ vs T, w'.heap[g'.ρ id]? = some (.cells (vs : List Value).toArray T (0, 0)) ∧ RepL g' w' c vs ∧ ∀ (i : Nat) d v, c[i]? = some d → vs[i]? = some v → d.isCell = true ∧ Own g' w' (fun _ => .var id i) d v)
    (hu : Dat.underL σ.length c = true)
    (hother : ∀ j, j < σ.length → j ≠ id → w'.heap[g.ρ j]? = w.heap[g.ρ j]?)
    (hown : ∀ j i d v, j < σ.length → j ≠ id → Own g w (fun _ => .var j i) d v → Own g' w' (fun _ => .var j i) d v)
    (hfree : ∀ j, j < σ.length → g'.prot (g.ρ j) = 0 ∧ g'.lock (g.ρ j) = none)
    (hfresh : ∀ b, w'.heap.size ≤ b → g'.prot b = 0 ∧ g'.lock b = none) : StOk g' w' (St.set σ id c) := by
  have hl := St.set_length σ id c
  refine ⟨fun j cj hj => ?_, fun j cj hj => ?_, ?_, ?_, hfresh⟩
  · by_cases hji : j = id
    · subst hji
      rw [St.get_set_same c hid] at hj
      injection hj with hj
      subst hj
      exact hv
    · rw [St.get_set_other c hji] at hj
      obtain ⟨vs, T, hh, hrl, ho⟩ := h.var j cj hj
      have hjl := St.get_lt hj
      refine ⟨vs, T, ?_, RepL_ext hext cj vs (h.under j cj hj) hrl, fun i d v hd hvi => ?_⟩
      · rw [hext.rho j hjl, hother j hjl hji]
        exact hh
      · obtain ⟨k1, k2⟩ := ho i d v hd hvi
        exact ⟨k1, hown j i d v hjl hji k2⟩
  · rw [hl]
    by_cases hji : j = id
    · subst hji
      rw [St.get_set_same c hid] at hj
      injection hj with hj
      subst hj
      exact hu
    · rw [St.get_set_other c hji] at hj
      exact h.under j cj hj
  · intro i j hi hj hij
    rw [hl] at hi hj
    rw [hext.rho i hi, hext.rho j hj] at hij
    exact h.inj i j hi hj hij
  · intro j hj
    rw [hl] at hj
    rw [hext.rho j hj]
    exact hfree j hj

theorem op_load (h : Fr N ntmps σ0 g0 w0 e σ a w g) (h0 : LB (N - 1) g0) (hN : 0 < N) {x : Operand} {mx : MArg} (hx : argOf x = some mx) {t : TypeId} {mv agg : Bool} {n s : Nat} (ha : aggP P t = some agg) (hn : sizeP P t = some n) (h1 : agg = false → n = 1) (hmv : mv = true → agg = false)
    (he : evalOp run esc base e σ (.load mv agg n mx) = some (d, e1, σ1)) :
    ∃ v g', (Instr.loadAt t (a.eval x)).run P w = .ok v w ∧ Left N σ0 g0 w0 (some s) d v e1 σ1 a.tmps w g' := by
  simp only [evalOp, Option.bind_eq_some_iff] at he
  obtain ⟨p, hp, d', hd', he⟩ := he
  have hax := h.arg hx hp
  obtain ⟨u, hrun, hr, hu, hptr⟩ := h.load hax.rep hax.under ha hn h1 hd'
  have plain : (d = d'.strip ∧ e1 = e ∧ σ1 = σ) → ∃ v g', (Instr.loadAt t (a.eval x)).run P w = .ok v w ∧ Left N σ0 g0 w0 (some s) d v e1 σ1 a.tmps w g' := by
    rintro ⟨rfl, rfl, rfl⟩
    exact ⟨u, g, hrun, h.left (Rep_strip hr) (fun _ _ => Own_strip) (by rw [under_strip]; exact hu)⟩
  split at he
  · rename_i hmv1
    split at he
    · rename_i id off
      simp only [Option.bind_eq_some_iff, Option.some.injEq, Prod.mk.injEq] at he
      obtain ⟨c, hc, rfl, rfl, rfl⟩ := he
      obtain ⟨c', vs', hc', hcd, _, ho⟩ := hptr id off rfl (hmv hmv1)
      rw [hc] at hc'
      injection hc' with hc'
      subst hc'
      have hid := St.get_lt hc
      have hset := St.set_length σ id (c.take off ++ d'.strip1 :: c.drop (off + 1))
      have hofflt : off < c.length := (List.getElem?_eq_some_iff.1 hcd).1
      have hc2 : c.take off ++ d'.strip1 :: c.drop (off + 1) = c.set off d'.strip1 := (List.set_eq_take_append_cons_drop).symm ▸ by simp [hofflt]
      rw [hc2] at hset ⊢
      obtain ⟨vs, T, hh, hl, hcell, hov⟩ := h.st.cell hc
      have hdc : d'.isCell = true := by
        have := h.st.cells_all hc
        exact List.all_eq_true.1 this d' (List.mem_of_getElem? hcd)
      have hφv : ∀ j i, (j, i) ≠ (id, off) → varTo N id off s (.var j i) = .var j i := fun j i hji => by
        simp only [varTo]
        rw [if_neg (fun e => hji (by rw [e.1, e.2]))]
      refine ⟨u, g.map (varTo N id off s), hrun, ⟨fun q cq hq _ => ?_, fun q hq => ?_, ?_, ?_, h.lb.varTo⟩⟩
      · rw [hset]
        exact h.env.map _ (fun _ _ => rfl) q cq hq
      · injection hq with hq
        subst hq
        rw [hset]
        refine ⟨Rep_ext (N := σ.length) (Ext.map _) _ _ hu hr, ?_, hu⟩
        have hnt : ∀ cs, d' ≠ .tup cs := by rintro cs rfl; simp [Dat.isCell] at hdc
        have hm := ho.map (π' := fun _ => .slot N s 0) (varTo N id off s) (fun _ => by simp [varTo])
        clear plain hc2 hset hov
        cases d' with
        | tup cs => exact absurd rfl (hnt cs)
        | slice own xs =>
          cases own
          · trivial
          · exact hm
        | _ => trivial
      · refine h.st.set hid (Ext.map _) (Nat.le_refl _) ⟨vs, T, hh, ?_, fun i di vi hdi hvi => ?_⟩ ?_ (fun _ _ _ => rfl) ?_ ?_ ?_
        · refine RepL_mk (by rw [List.length_set]; exact RepL_len hl) fun i di vi hdi hvi => ?_
          rw [List.getElem?_set] at hdi
          obtain ⟨vi', hvi', hri⟩ : ∃ v', vs[i]? = some v' ∧ Rep g w di v' := by
            split at hdi
            · rename_i hij
              subst hij
              simp only [hofflt, if_true, Option.some.injEq] at hdi
              subst hdi
              obtain ⟨v', hv', hr'⟩ := RepL_get hl hcd
              exact ⟨v', hv', Rep_strip1 hr'⟩
            · exact RepL_get hl hdi
          rw [hvi] at hvi'
          injection hvi' with hvi'
          subst hvi'
          refine Rep_ext (N := σ.length) (Ext.map _) _ _ ?_ hri
          split at hdi
          · simp only [hofflt, if_true, Option.some.injEq] at hdi
            rw [← hdi, under_strip1]
            exact hu
          · exact underL_get (h.st.under id c hc) hdi
        · rw [List.getElem?_set] at hdi
          split at hdi
          · simp only [hofflt, if_true, Option.some.injEq] at hdi
            subst hdi
            exact ⟨by rw [isCell_strip1]; exact hdc, Own_strip1 (by rintro cs rfl; simp [Dat.isCell] at hdc)⟩
          · rename_i hij
            obtain ⟨k1, k2⟩ := hov i di vi hdi hvi
            exact ⟨k1, k2.map _ (fun _ => hφv id i (by simp; exact fun e => hij e.symm))⟩
        · refine underL_mk fun d hd => ?_
          rcases List.mem_or_eq_of_mem_set hd with hd | rfl
          · exact underL_mem (h.st.under id c hc) d hd
          · rw [under_strip1]; exact hu
        · intro j i dj vj hj hji hoj
          exact hoj.map _ (fun _ => hφv j i (by simp [hji]))
        · intro j hj
          exact ⟨(h.st.free j hj).1, by simp [Gh.map, (h.st.free j hj).2]⟩
        · intro b hb
          exact ⟨(h.st.fresh b hb).1, by simp [Gh.map, (h.st.fresh b hb).2]⟩
      · have := h.ch.map h0 hN (varTo N id off s) keeps_varTo
        refine ⟨this.os, this.tape, this.output, this.size, this.ext, by rw [hset]; exact this.len, this.keep, fun j hj1 hj2 => this.new j hj1 (by rw [hset] at hj2; exact hj2), fun n hn hlo j cj hj hcj => ?_⟩
        by_cases hji : j = id
        · subst hji
          rw [St.get_set_same _ hid] at hcj
          injection hcj with hcj
          subst hcj
          have hc0 := this.low n hn hlo j c hj hc
          refine underL_mk fun d hd => ?_
          rcases List.mem_or_eq_of_mem_set hd with hd | rfl
          · exact underL_mem hc0 d hd
          · rw [under_strip1]; exact underL_get hc0 hcd
        · rw [St.get_set_other _ hji] at hcj
          exact this.low n hn hlo j cj hj hcj
    · simp only [Option.some.injEq, Prod.mk.injEq] at he
      exact plain ⟨he.1.symm, he.2.1.symm, he.2.2.symm⟩
  · simp only [Option.some.injEq, Prod.mk.injEq] at he
    exact plain ⟨he.1.symm, he.2.1.symm, he.2.2.symm⟩
end
end Go.Mir
