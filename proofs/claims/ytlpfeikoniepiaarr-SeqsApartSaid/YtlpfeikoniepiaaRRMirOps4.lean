/- Operations, fourth part: what is written, what is made. -/
import Derived.Test.YtlpfeikoniepiaaRRMirOps3
set_option linter.all false
namespace Go.Mir
set_option linter.unusedVariables false
set_option linter.unusedSectionVars false
set_option linter.unusedSimpArgs false

theorem safe_cell {d : Dat} (h : d.safe = true) : d.isCell = true := by cases d <;> first | rfl | simp [Dat.safe] at h

theorem EnvOk.soft {N n : Nat} {g g' : Gh} {w w' : World} {e : Env} {tmps : Array Value} (h : EnvOk N n g w e tmps) (hext : Ext n g w g' w') (hs : ∀ b π, g.lock b = some π → Same g w g' w' b) : EnvOk N n g' w' e tmps := by
  intro s d hd
  obtain ⟨v, hv, hr, ho, hu⟩ := h s d hd
  exact ⟨v, hv, Rep_ext hext _ _ hu hr, ho.same fun b i hb => hs b _ hb, hu⟩
theorem EnvOk.mono {N n m : Nat} {g : Gh} {w : World} {e : Env} {tmps : Array Value} (h : EnvOk N n g w e tmps) (hnm : n ≤ m) : EnvOk N m g w e tmps := by
  intro s d hd
  obtain ⟨v, hv, hr, ho, hu⟩ := h s d hd
  exact ⟨v, hv, hr, ho, under_mono hnm _ hu⟩

section
variable {P : Program} {N ntmps : Nat} {σ0 : St} {g0 : Gh} {w0 : World} {e : Env} {σ : St} {a : Act} {w : World} {g : Gh} {run : Run} {esc : Nat → Bool} {base : Nat} {dst : Option Nat} {d : Dat} {e1 : Env} {σ1 : St}

theorem cells_rep {v : Value} {c : List Dat} (hr : Rep g w d v) (hc : d.cells? = some c) :
    ∃ vs : List Value, v.cells = vs.toArray ∧ RepL g w c vs ∧ (∀ u ∈ vs, u.oneCell' = true) ∧ (∀ n, d.under n = true → Dat.underL n c = true) ∧ c.all Dat.isCell = true := by
  have one : d.isCell = true → c = [d] → ∃ vs : List Value, v.cells = vs.toArray ∧ RepL g w c vs ∧ (∀ u ∈ vs, u.oneCell' = true) ∧ (∀ n, d.under n = true → Dat.underL n c = true) ∧ c.all Dat.isCell = true := by
    rintro hcell rfl
    have h1 := cell_oneCell hcell hr
    refine ⟨[v], ?_, RepL_cons hr (by simp [RepL]), by simpa using h1, fun n hn => by simp [Dat.underL, hn], by simp [hcell]⟩
    cases v <;> first | rfl | simp [Value.oneCell'] at h1
  cases d <;> simp only [Dat.cells?, reduceCtorEq, Option.some.injEq] at hc <;> try exact one rfl hc.symm
  split at hc
  · rename_i cs hall
    injection hc with hc
    subst hc
    simp only [Rep] at hr
    obtain ⟨vs, rfl, hl, hcell⟩ := hr
    refine ⟨vs, rfl, hl, fun u hu => ?_, fun n hn => by simpa [Dat.under] using hn, hcell⟩
    obtain ⟨i, hi⟩ := List.getElem?_of_mem hu
    have hlt : i < cs.length := by rw [← RepL_len hl]; exact (List.getElem?_eq_some_iff.1 hi).1
    obtain ⟨v', hv', hr'⟩ := RepL_get hl (List.getElem?_eq_getElem hlt)
    rw [hi] at hv'
    injection hv' with hv'
    subst hv'
    exact cell_oneCell (List.all_eq_true.1 hcell _ (List.getElem_mem hlt)) hr'
  · cases hc

/-- A value is given away, to a variable's cells from 'off' on. -/
theorem Fr.give (h : Fr N ntmps σ0 g0 w0 e σ a w g) (h0 : LB (N - 1) g0) (hN : 0 < N) {x : Operand} {m : MArg} {c : List Dat} (hx : argOf x = some m) (hd : m.ev e = some d) (hc : d.cells? = some c) (id off : Nat) :
    ∃ g', (∀ b, g'.ρ b = g.ρ b) ∧ Fr N ntmps σ0 g0 w0 (m.take e) σ a w g' ∧ Rep g' w d (a.eval x) ∧ d.under σ.length = true ∧
      ∀ (i : Nat) di vi, c[i]? = some di → (a.eval x).cells[i]? = some vi → Own g' w (fun _ => .var id (off + i)) di vi := by
  have ha := h.arg hx hd
  have plain : (∀ (i : Nat) di vi, c[i]? = some di → (a.eval x).cells[i]? = some vi → Own g w (fun _ => .var id (off + i)) di vi) → Fr N ntmps σ0 g0 w0 (m.take e) σ a w g →
      ∃ g', (∀ b, g'.ρ b = g.ρ b) ∧ Fr N ntmps σ0 g0 w0 (m.take e) σ a w g' ∧ Rep g' w d (a.eval x) ∧ d.under σ.length = true ∧
      ∀ (i : Nat) di vi, c[i]? = some di → (a.eval x).cells[i]? = some vi → Own g' w (fun _ => .var id (off + i)) di vi :=
    fun ho hf => ⟨g, fun _ => rfl, hf, ha.rep, ha.under, ho⟩
  obtain ⟨vs, hcells, hl, hone', hu', hcell⟩ := cells_rep ha.rep hc
  have take_fr : Fr N ntmps σ0 g0 w0 (m.take e) σ a w g := by
    rcases ha.own with ⟨hs, l, rfl⟩ | ⟨t, rfl, ht, hv, ho⟩
    · exact h
    · refine ⟨fun q cq hq => ?_, h.st, h.ch, h.lb, h.defers, h.tsize⟩
      simp only [MArg.take, ht] at hq
      by_cases hqt : q = t
      · subst hqt
        rw [Env.get_put_same] at hq
        injection hq with hq
        subst hq
        exact ⟨_, hv, Rep_strip ha.rep, Own_strip, by rw [under_strip]; exact ha.under⟩
      · rw [Env.get_put_other _ _ hqt] at hq
        exact h.env q cq hq
  have safe_own : ∀ (i : Nat) di vi, c[i]? = some di → (a.eval x).cells[i]? = some vi → di.safe = true → Own g w (fun _ => .var id (off + i)) di vi := by
    intro i di vi hdi hvi hsafe
    obtain ⟨v', hv', hr'⟩ := RepL_get hl hdi
    rw [hcells] at hvi
    simp only [List.getElem?_toArray] at hvi
    rw [hvi] at hv'
    injection hv' with hv'
    subst hv'
    exact Own_safe hr' hsafe
  by_cases hsafe : c.all Dat.safe = true
  · exact plain (fun i di vi hdi hvi => safe_own i di vi hdi hvi (List.all_eq_true.1 hsafe di (List.mem_of_getElem? hdi))) take_fr
  · -- one slice with room
    cases d <;> simp only [Dat.cells?, reduceCtorEq, Option.some.injEq] at hc
    case agg cs =>
      split at hc
      · rename_i hall
        injection hc with hc
        subst hc
        exact absurd hall hsafe
      · cases hc
    case slice own xs =>
     subst hc
     rcases ha.own with ⟨hs, l, rfl⟩ | ⟨t, rfl, ht, hv, ho⟩
     · exact absurd (by simp [hs]) hsafe
     · have hlow : ∀ q : Nat, q ≠ t → ∀ i, toVar N t id off (.slot N q i) = .slot N q i := fun q hq i => by simp [toVar, hq]
       refine ⟨g.map (toVar N t id off), fun _ => rfl, ⟨fun q cq hq => ?_, h.st.map _ (fun _ _ => rfl), h.ch.map h0 hN _ keeps_toVar, h.lb.toVar, h.defers, h.tsize⟩, Rep_ext (N := σ.length) (Ext.map _) _ _ ha.under ha.rep, ha.under, fun i di vi hdi hvi => ?_⟩
       · simp only [MArg.take, ht] at hq
         by_cases hqt : q = t
         · subst hqt
           rw [Env.get_put_same] at hq
           injection hq with hq
           subst hq
           exact ⟨_, hv, Rep_ext (N := σ.length) (Ext.map _) _ _ (by rw [under_strip]; exact ha.under) (Rep_strip ha.rep), Own_strip, by rw [under_strip]; exact ha.under⟩
         · rw [Env.get_put_other _ _ hqt] at hq
           obtain ⟨u1, hu1, hr1, ho1, hu2⟩ := h.env q cq hq
           exact ⟨u1, hu1, Rep_ext (N := σ.length) (Ext.map _) _ _ hu2 hr1, ho1.map _ (fun i => hlow q hqt i), hu2⟩
       · cases i with
         | zero =>
           simp only [List.getElem?_cons_zero, Option.some.injEq] at hdi
           subst hdi
           have hvv : (a.eval x).cells = #[a.eval x] := by
             have := cell_oneCell (g := g) (w := w) (d := .slice own xs) rfl ha.rep
             cases hh : a.eval x <;> first | rfl | (rw [hh] at this; simp [Value.oneCell'] at this)
           rw [hvv] at hvi
           simp only [List.getElem?_toArray, List.getElem?_cons_zero, Option.some.injEq] at hvi
           subst hvi
           cases own
           · trivial
           · simp only [Own] at ho ⊢
             have := ho.map (toVar N t id off)
             simpa [toVar] using this
         | succ i => simp at hdi
    all_goals (subst hc; exact absurd rfl hsafe)

/-- Cells of a variable are written. -/
theorem Fr.put (h : Fr N ntmps σ0 g0 w0 e σ a w g) {id off : Nat} {c cn : List Dat} {vs : List Value} (hc : St.get σ id = some c) (hle : off + cn.length ≤ c.length) (hr : RepL g w cn vs) (hall : cn.all Dat.isCell = true)
    (hu : Dat.underL σ.length cn = true) (hone : ∀ u ∈ vs, u.oneCell' = true) (hown : ∀ (i : Nat) di vi, cn[i]? = some di → vs[i]? = some vi → Own g w (fun _ => .var id (off + i)) di vi) (hlow : σ0.length ≤ id ∨ Dat.underL (id + 1) cn = true) :
    ∃ w', (storeCells ⟨g.ρ id, off, none⟩ vs).run P w = .ok () w' ∧ Fr N ntmps σ0 g0 w0 e (St.set σ id (c.take off ++ cn ++ c.drop (off + cn.length))) a w' g := by
  obtain ⟨us, T, hh, hl, hcell, hov⟩ := h.st.cell hc
  have hid := St.get_lt hc
  have hvl := RepL_len hr
  have hul := RepL_len hl
  obtain ⟨hp0, hlk⟩ := h.st.free id hid
  have hst := run_storeCells_at P (g.ρ id) off T vs 0 us.toArray w hh (by simp; omega) hone
  simp only [Nat.add_zero] at hst
  refine ⟨_, hst, ?_⟩
  generalize hus : (us.take off ++ vs ++ us.drop (off + vs.length)) = us' 
  have hrow : (w.setRow (g.ρ id) us'.toArray).heap[g.ρ id]? = some (.cells us'.toArray T (0, 0)) := setRow_heap w _ _ _ T _ hh
  have hoth : ∀ k, k ≠ g.ρ id → (w.setRow (g.ρ id) us'.toArray).heap[k]? = w.heap[k]? := fun k hk => setRow_other w _ k _ hk
  have hext : ∀ n, Ext n g w g (w.setRow (g.ρ id) us'.toArray) := fun n => ⟨fun b o u ho hcu => by
    have hb : b ≠ g.ρ id := by rintro rfl; omega
    rw [cell_setRow_other w _ _ _ hb]; exact hcu, fun _ => Nat.le_refl _, fun _ _ => rfl⟩
  have hsame : ∀ b, b ≠ g.ρ id → Same g w g (w.setRow (g.ρ id) us'.toArray) b := fun b hb => ⟨hoth b hb, rfl, rfl⟩
  have hlock : ∀ b π, g.lock b = some π → Same g w g (w.setRow (g.ρ id) us'.toArray) b := fun b π hb => hsame b (by rintro rfl; rw [hlk] at hb; cases hb)
  have hlen := St.set_length σ id (c.take off ++ cn ++ c.drop (off + cn.length))
  have hsimp : us.toArray.toList = us := by simp
  refine ⟨by rw [hlen]; exact h.env.soft (hext _) hlock, ?_, ?_, h.lb, h.defers, h.tsize⟩
  · refine h.st.set hid (hext _) (by simp) ⟨us', T, hrow, ?_, fun i di vi hdi hvi => ?_⟩ ?_ (fun j hj hji => hoth _ fun e => hji (h.st.inj j id hj hid e)) (fun j i dj vj hj hji ho => ho.same fun b k hb => hlock b _ hb) (fun j hj => h.st.free j hj)
      (fun b hb => h.st.fresh b (by simpa using hb))
    · refine RepL_ext (hext σ.length) _ _ ?_ ?_
      · refine underL_mk fun d hd => ?_
        rcases List.mem_append.1 hd with hd | hd
        · rcases List.mem_append.1 hd with hd | hd
          · exact underL_mem (h.st.under id c hc) d (List.mem_of_mem_take hd)
          · exact underL_mem hu d hd
        · exact underL_mem (h.st.under id c hc) d (List.mem_of_mem_drop hd)
      · rw [← hus]
        refine RepL_append (RepL_append ?_ hr) ?_
        · have := RepL_take hl 0 off
          simpa using this
        · have := RepL_take hl (off + cn.length) (c.length - (off + cn.length))
          rw [List.take_of_length_le (by simp), List.take_of_length_le (by simp; omega)] at this
          rwa [hvl]
    · have hdl : (c.take off ++ cn).length = off + cn.length := by simp; omega
      have hvll : (us.take off ++ vs).length = off + cn.length := by simp; omega
      have key : di.isCell = true ∧ Own g w (fun _ => .var id i) di vi := by
        rw [← hus] at hvi
        by_cases hi : i < off + cn.length
        · rw [List.getElem?_append_left (by omega)] at hdi hvi
          by_cases hi2 : i < off
          · rw [List.getElem?_append_left (by simp; omega), List.getElem?_take_of_lt hi2] at hdi hvi
            exact hov i di vi hdi hvi
          · rw [List.getElem?_append_right (by simp; omega)] at hdi hvi
            rw [show i - (c.take off).length = i - off by simp; omega] at hdi
            rw [show i - (us.take off).length = i - off by simp; omega] at hvi
            have := hown _ di vi hdi hvi
            rw [show off + (i - off) = i by omega] at this
            exact ⟨List.all_eq_true.1 hall di (List.mem_of_getElem? hdi), this⟩
        · rw [List.getElem?_append_right (by omega), List.getElem?_drop] at hdi hvi
          rw [show off + cn.length + (i - (c.take off ++ cn).length) = i by omega] at hdi
          rw [show off + vs.length + (i - (us.take off ++ vs).length) = i by omega] at hvi
          exact hov i di vi hdi hvi
      exact ⟨key.1, key.2.same fun b k hb => hlock b _ hb⟩
    · refine underL_mk fun d hd => ?_
      rcases List.mem_append.1 hd with hd | hd
      · rcases List.mem_append.1 hd with hd | hd
        · exact underL_mem (h.st.under id c hc) d (List.mem_of_mem_take hd)
        · exact underL_mem hu d hd
      · exact underL_mem (h.st.under id c hc) d (List.mem_of_mem_drop hd)
  · refine ⟨h.ch.os, h.ch.tape, h.ch.output, by simpa using h.ch.size, h.ch.ext.trans (hext _), by rw [hlen]; exact h.ch.len, fun b hb => ?_, fun j h1 h2 => by rw [hlen] at h2; exact h.ch.new j h1 h2, fun n hn hlo j cj hj hcj => ?_⟩
    · obtain ⟨k1, k2, k3⟩ := h.ch.keep b hb
      have hb' := h.ch.foreign hb
      exact ⟨by rw [hoth b (Ne.symm (hb'.2.1 id hid))]; exact k1, k2, k3⟩
    · by_cases hji : j = id
      · subst hji
        rw [St.get_set_same _ hid] at hcj
        injection hcj with hcj
        subst hcj
        have hc0 := h.ch.low n hn hlo j c hj hc
        rcases hlow with hlow | hlow
        · omega
        · refine underL_mk fun d hd => ?_
          rcases List.mem_append.1 hd with hd | hd
          · rcases List.mem_append.1 hd with hd | hd
            · exact underL_mem hc0 d (List.mem_of_mem_take hd)
            · exact under_mono (by omega) _ (underL_mem hlow d hd)
          · exact underL_mem hc0 d (List.mem_of_mem_drop hd)
      · rw [St.get_set_other _ hji] at hcj
        exact h.ch.low n hn hlo j cj hj hcj

theorem op_store (h : Fr N ntmps σ0 g0 w0 e σ a w g) (h0 : LB (N - 1) g0) (hN : 0 < N) {x y : Operand} {mx my : MArg} (hx : argOf x = some mx) (hy : argOf y = some my) {t : TypeId} {n : Nat} (hn : sizeP P t = some n) (hbase : base = σ0.length)
    (he : evalOp run esc base e σ (.store n mx my) = some (d, e1, σ1)) :
    ∃ w' g', (Instr.storeAt t (a.eval x) (a.eval y)).run P w = .ok () w' ∧ Left N σ0 g0 w0 dst d undef e1 σ1 a.tmps w' g' := by
  simp only [evalOp, Option.bind_eq_some_iff] at he
  obtain ⟨p, hp, he⟩ := he
  have hap := h.arg hx hp
  cases p <;> simp only [reduceCtorEq, Option.bind_eq_some_iff] at he
  rename_i id off
  obtain ⟨dy, hdy, c, hc, cs, hcs, he⟩ := he
  split at he
  · rename_i hcond
    obtain ⟨hcn, hle, hlow⟩ := hcond
    rw [hbase] at hlow
    simp only [Option.some.injEq, Prod.mk.injEq] at he
    obtain ⟨rfl, rfl, rfl⟩ := he
    have hr := hap.rep
    simp only [Rep] at hr
    obtain ⟨g', hρ, hf, hrd, hud, hown⟩ := h.give h0 hN hy hdy hc id off
    obtain ⟨vs, hvs, hl, hone, hu, hall⟩ := cells_rep hrd hc
    subst hcn
    obtain ⟨w', hrun, hf'⟩ := hf.put (P := P) hcs hle hl hall (hu _ hud) hone (fun i di vi hdi hvi => hown i di vi hdi (by rw [hvs]; simpa using hvi)) hlow
    refine ⟨w', g', ?_, hf'.left (by simp only [Rep]) (fun _ _ => trivial) rfl⟩
    simp only [sizeP, Option.map_eq_some_iff] at hn
    obtain ⟨inf, hinf, hn⟩ := hn
    have hlen := RepL_len hl
    rw [hρ] at hrun
    simp only [Instr.storeAt, hr, Instr.sureAddr, Sem.run_bind, Sem.run_pure, Result.andThen_ok, storeVar, sizeOf, typeInfo, run_program, hinf, hvs, hn]
    simp [hlen, hrun]
  · cases he

/-- A variable is made. -/
theorem Fr.alloc (h : Fr N ntmps σ0 g0 w0 e σ a w g) {cn : List Dat} {vs : List Value} (T : TypeId) (hr : RepL g w cn vs) (hall : cn.all Dat.isCell = true) (hu : Dat.underL σ.length cn = true)
    (hown : ∀ (i : Nat) di vi, cn[i]? = some di → vs[i]? = some vi → Own g w (fun _ => .var σ.length i) di vi) :
    ∃ g', g'.ρ σ.length = w.heap.size ∧ Fr N ntmps σ0 g0 w0 e (cn :: σ) a (w.alloc (.cells vs.toArray T)) g' := by
  obtain ⟨hp0, hl0⟩ := h.st.fresh _ (Nat.le_refl _)
  refine ⟨{ g with ρ := fun id => if id = σ.length then w.heap.size else g.ρ id }, by simp, ?_⟩
  have hold : ∀ k, k < w.heap.size → (w.alloc (.cells vs.toArray T)).heap[k]? = w.heap[k]? := fun k hk => heap_alloc_old w _ k hk
  have hnew : (w.alloc (.cells vs.toArray T)).heap[w.heap.size]? = some (.cells vs.toArray T (0, 0)) := heap_alloc_new w _
  have hext : Ext σ.length g w { g with ρ := fun id => if id = σ.length then w.heap.size else g.ρ id } (w.alloc (.cells vs.toArray T)) := by
    refine ⟨fun b o u ho hcu => ?_, fun _ => Nat.le_refl _, fun id hid => if_neg (by omega)⟩
    have hb : b < w.heap.size := by
      rcases Nat.lt_or_ge b w.heap.size with h' | h'
      · exact h'
      · have := (h.st.fresh b h').1; omega
    simp only [World.cell?, hold b hb] at hcu ⊢
    exact hcu
  have hsame : ∀ b, b < w.heap.size → Same g w { g with ρ := fun id => if id = σ.length then w.heap.size else g.ρ id } (w.alloc (.cells vs.toArray T)) b := fun b hb => ⟨hold b hb, rfl, rfl⟩
  have hlock : ∀ b π, g.lock b = some π → Same g w { g with ρ := fun id => if id = σ.length then w.heap.size else g.ρ id } (w.alloc (.cells vs.toArray T)) b := fun b π hb => by
    refine hsame b ?_
    rcases Nat.lt_or_ge b w.heap.size with h' | h'
    · exact h'
    · rw [(h.st.fresh b h').2] at hb; cases hb
  refine ⟨(h.env.soft hext hlock).mono (by simp), ?_, ?_, h.lb, h.defers, h.tsize⟩
  · refine ⟨fun id c hc => ?_, fun id c hc => ?_, ?_, ?_, fun b hb => h.st.fresh b (by simp at hb; omega)⟩
    · simp only [St.get_nil, St.get_cons] at hc
      split at hc
      · rename_i hid
        injection hc with hc
        subst hc
        refine ⟨vs, T, by simp only [hid, if_true]; exact hnew, RepL_ext hext _ _ hu hr, fun i di vi hdi hvi => ⟨List.all_eq_true.1 hall di (List.mem_of_getElem? hdi), ?_⟩⟩
        rw [hid]
        exact (hown i di vi hdi hvi).same fun b k hb => hlock b _ hb
      · rename_i hid
        have hlt := St.get_lt hc
        obtain ⟨us, T', hh, hl, ho⟩ := h.st.var id c hc
        refine ⟨us, T', by simp only [hid, if_false]; rw [hold _ (h.st.lt hlt)]; exact hh, RepL_ext hext _ _ (h.st.under id c hc) hl, fun i di vi hdi hvi => ?_⟩
        obtain ⟨k1, k2⟩ := ho i di vi hdi hvi
        exact ⟨k1, k2.same fun b k hb => hlock b _ hb⟩
    · simp only [St.get_nil, St.get_cons] at hc
      split at hc
      · injection hc with hc
        subst hc
        exact underL_mono (by simp) _ hu
      · exact underL_mono (by simp) _ (h.st.under id c hc)
    · intro i j hi hj hij
      simp only [List.length_cons] at hi hj
      by_cases h1 : i = σ.length <;> by_cases h2 : j = σ.length
      · omega
      · simp only [h1, h2, if_true, if_false] at hij
        have := h.st.lt (show j < σ.length by omega)
        omega
      · simp only [h1, h2, if_true, if_false] at hij
        have := h.st.lt (show i < σ.length by omega)
        omega
      · simp only [h1, h2, if_false] at hij
        exact h.st.inj i j (by omega) (by omega) hij
    · intro id hid
      simp only [List.length_cons] at hid
      by_cases h1 : id = σ.length
      · simp only [h1, if_true]
        exact ⟨hp0, hl0⟩
      · simp only [h1, if_false]
        exact h.st.free id (by omega)
  · refine h.ch.trans ⟨rfl, rfl, rfl, by simp, hext, by simp, fun b hb => hsame b hb.1, fun j h1 h2 => ?_, fun n hn hh j cj hj hcj => ?_⟩
    · simp only [List.length_cons] at h2
      have : j = σ.length := by omega
      simp [this]
    · rw [St.get_cons_old (by omega)] at hcj
      exact hh j cj hj hcj

theorem mapM_get {α β : Type} {f : α → Option β} : ∀ {l : List α} {r : List β}, l.mapM f = some r → r.length = l.length ∧ ∀ (i : Nat) a b, l[i]? = some a → r[i]? = some b → f a = some b
  | [], r, h => by simp at h; subst h; simp
  | x :: l, r, h => by
    simp only [List.mapM_cons, Option.bind_eq_bind, Option.bind_eq_some_iff, Option.pure_def, Option.some.injEq] at h
    obtain ⟨y, hy, s, hs, rfl⟩ := h
    obtain ⟨h1, h2⟩ := mapM_get hs
    refine ⟨by simp [h1], fun i a b ha hb => ?_⟩
    cases i with
    | zero => simp at ha hb; subst ha hb; exact hy
    | succ i => exact h2 i a b (by simpa using ha) (by simpa using hb)
theorem cellDats_rep {vs : List Value} {cs : List Dat} (h : vs.mapM cellDat = some cs) : RepL g w cs vs ∧ (∀ n, Dat.underL n cs = true) ∧ cs.all Dat.safe = true := by
  obtain ⟨hl, hg⟩ := mapM_get h
  have get : ∀ (i : Nat) d, cs[i]? = some d → ∃ v, vs[i]? = some v ∧ cellDat v = some d := fun i d hd => by
    have hlt : i < vs.length := by rw [← hl]; exact (List.getElem?_eq_some_iff.1 hd).1
    exact ⟨vs[i], List.getElem?_eq_getElem hlt, hg i _ d (List.getElem?_eq_getElem hlt) hd⟩
  refine ⟨RepL_mk hl.symm fun i d v hd hv => ?_, fun n => underL_mk fun d hd => ?_, ?_⟩
  · exact (cellDat_rep (hg i v d hv hd)).1
  · obtain ⟨i, hi⟩ := List.getElem?_of_mem hd
    obtain ⟨v, _, hv⟩ := get i d hi
    exact under_mono (Nat.zero_le _) _ (cellDat_rep (g := g) (w := w) hv).2.1
  · rw [List.all_eq_true]
    intro d hd
    obtain ⟨i, hi⟩ := List.getElem?_of_mem hd
    obtain ⟨v, _, hv⟩ := get i d hi
    exact (cellDat_rep (g := g) (w := w) hv).2.2.1
theorem zeroP_at {t : TypeId} {zero : List Dat} (h : zeroP P t = some zero) : ∃ inf z, P.info? t = some inf ∧ inf.zero = some z ∧ z.cells.toList.mapM cellDat = some zero := by
  simp only [zeroP, Option.bind_eq_some_iff] at h
  obtain ⟨z, ⟨inf, h1, h2⟩, h3⟩ := h
  exact ⟨inf, z, h1, h2, h3⟩

theorem all_cell {cs : List Dat} (h : cs.all Dat.safe = true) : cs.all Dat.isCell = true := by
  rw [List.all_eq_true] at h ⊢
  exact fun d hd => safe_cell (h d hd)

theorem op_alloc (h : Fr N ntmps σ0 g0 w0 e σ a w g) {t : TypeId} {zero : List Dat} (hz : zeroP P t = some zero) (he : evalOp run esc base e σ (.alloc zero) = some (d, e1, σ1)) (x : Value) :
    ∃ v w' g', (Instr.alloc t true x).run P w = .ok v w' ∧ Left N σ0 g0 w0 dst d v e1 σ1 a.tmps w' g' := by
  simp only [evalOp, Option.some.injEq, Prod.mk.injEq] at he
  obtain ⟨rfl, rfl, rfl⟩ := he
  obtain ⟨inf, z, h1, h2, h3⟩ := zeroP_at hz
  obtain ⟨hr, hu, hs⟩ := cellDats_rep (g := g) (w := w) h3
  obtain ⟨g', hρ, hf⟩ := h.alloc t hr (all_cell hs) (hu _) (fun i di vi hdi hvi => by
    obtain ⟨v', hv', hr'⟩ := RepL_get hr hdi
    rw [hvi] at hv'
    injection hv' with hv'
    subst hv'
    exact Own_safe hr' (List.all_eq_true.1 hs di (List.mem_of_getElem? hdi)))
  refine ⟨.pointer (some ⟨w.heap.size, 0, none⟩), _, g', ?_, hf.left ?_ (fun _ _ => trivial) (by simp [Dat.under])⟩
  · simp [Instr.alloc, zeroValue, typeInfo, h1, h2, newVar, newRow]
  · simp only [Rep, hρ]

theorem op_box (h : Fr N ntmps σ0 g0 w0 e σ a w g) (h0 : LB (N - 1) g0) (hN : 0 < N) {t : TypeId} {x : Operand} {mx : MArg} (hx : argOf x = some mx) {n : Nat} (he : evalOp run esc base e σ (.box n mx) = some (d, e1, σ1)) :
    ∃ v w' g', (Instr.box t (a.eval x)).run P w = .ok v w' ∧ Left N σ0 g0 w0 dst d v e1 σ1 a.tmps w' g' := by
  simp only [evalOp, Option.bind_eq_some_iff] at he
  obtain ⟨dx, hdx, c, hc, he⟩ := he
  split at he
  · simp only [Option.some.injEq, Prod.mk.injEq] at he
    obtain ⟨rfl, rfl, rfl⟩ := he
    obtain ⟨g', hρ, hf, hrd, hud, hown⟩ := h.give h0 hN hx hdx hc σ.length 0
    obtain ⟨vs, hvs, hl, hone, hu, hall⟩ := cells_rep hrd hc
    obtain ⟨g2, hρ2, hf2⟩ := hf.alloc t hl hall (hu _ hud) (fun i di vi hdi hvi => by simpa using hown i di vi hdi (by rw [hvs]; simpa using hvi))
    refine ⟨.pointer (some ⟨w.heap.size, 0, none⟩), _, g2, ?_, hf2.left ?_ (fun _ _ => trivial) (by simp [Dat.under])⟩
    · simp [Instr.box, newVar, newRow, hvs]
    · simp only [Rep, hρ2]
  · cases he

theorem op_nilCheck (h : Fr N ntmps σ0 g0 w0 e σ a w g) {x : Operand} {mx : MArg} (hx : argOf x = some mx) (o : Oper) (ho : o.op = .nilCheck x) (he : evalOp run esc base e σ (.nilCheck mx) = some (d, e1, σ1)) :
    ∃ v, (execOp a.eval o).run P w = .ok (.value v) w ∧ Left N σ0 g0 w0 dst d v e1 σ1 a.tmps w g := by
  simp only [evalOp, Option.bind_eq_some_iff] at he
  obtain ⟨dx, hdx, he⟩ := he
  have ha := h.arg hx hdx
  cases dx <;> simp only [reduceCtorEq, Option.some.injEq, Prod.mk.injEq] at he
  all_goals
    obtain ⟨rfl, rfl, rfl⟩ := he
    have hr := ha.rep
    refine ⟨a.eval x, ?_, h.left ha.rep (fun _ _ => trivial) ha.under⟩
    simp only [Rep] at hr
  · simp [execOp, ho, hr]
  · obtain ⟨b, off, hv, _⟩ := hr
    simp [execOp, ho, hv]
  · obtain ⟨vs, hv, _⟩ := hr
    simp [execOp, ho, hv]
end
end Go.Mir
