/- Operations, sixth part: append. -/
import Derived.Test.YtlpfeikoniepiaaRRMirOps5
set_option linter.all false
namespace Go.Mir
set_option linter.unusedVariables false
set_option linter.unusedSectionVars false
set_option linter.unusedSimpArgs false

section
variable {P : Program} {N ntmps : Nat} {σ0 : St} {g0 : Gh} {w0 : World} {e : Env} {σ : St} {a : Act} {w : World} {g : Gh} {run : Run} {esc : Nat → Bool} {base : Nat} {dst : Option Nat} {d : Dat} {e1 : Env} {σ1 : St}

theorem Fr.take_strip (h : Fr N ntmps σ0 g0 w0 e σ a w g) {x : Operand} {m : MArg} {d : Dat} (hx : argOf x = some m) (hd : m.ev e = some d) : Fr N ntmps σ0 g0 w0 (m.take e) σ a w g := by
  have ha := h.arg hx hd
  rcases ha.own with ⟨hs, l, rfl⟩ | ⟨t, rfl, ht, hv, ho⟩
  · exact h
  · refine ⟨fun q cq hq => ?_, h.st, h.ch, h.lb, h.defers, h.tsize⟩
    simp only [MArg.take, ht] at hq
    by_cases hqt : q = t
    · subst hqt
      rw [Env.get_put_same] at hq
      injection hq with hq
      subst hq
      exact ⟨_, hv, Rep_strip ha.rep, Own_strip, by rw [under_strip]; exact ha.under⟩
    · rw [Env.get_put_other _ _ hqt] at hq
      exact h.env q cq hq

/-- 'x', moved to slot s. -/
theorem Fr.move_to (h : Fr N ntmps σ0 g0 w0 e σ a w g) (h0 : LB (N - 1) g0) (hN : 0 < N) {x : Operand} {m : MArg} (hx : argOf x = some m) {d : Dat} (hd : m.ev e = some d) (s : Nat) :
    ∃ g', Left N σ0 g0 w0 (some s) d (a.eval x) (m.take e) σ a.tmps w g' := by
  have ha := h.arg hx hd
  rcases ha.own with ⟨hs, l, rfl⟩ | ⟨t, rfl, ht, hv, ho⟩
  · exact ⟨g, h.left ha.rep (fun _ _ => Own_safe ha.rep hs) ha.under⟩
  · obtain ⟨v, hv', hl⟩ := h.take_slot h0 hN (s := s) ht
    rw [hv] at hv'
    injection hv' with hv'
    rw [hv']
    refine ⟨g.map (slotTo N t s), ?_⟩
    simpa only [MArg.take, ht] using hl

theorem run_append_none (w : World) (t tx ty el : TypeId) (i : TypeInfo) (ht : P.underlying t = some (.slice el)) (hi : P.info? el = some i) (base : Option Addr) (sLen sCap : Nat) (hle : sLen ≤ sCap) (x : Value) (hs : Src P i.size tx x 0 [] w) :
    (Builtin.append_ #[t, tx] ty #[.slice base sLen sCap, x]).run P w = .ok (.slice base sLen sCap) w := by
  rcases hs.kind with ⟨e', hk⟩ | hk <;> cases base <;> simp [Builtin.append_, run_underlying ht, run_underlying hk, sizeOf, typeInfo, hi, hs.len, hle, hs.cells, storeCells]

theorem op_append (h : Fr N ntmps σ0 g0 w0 e σ a w g) (h0 : LB (N - 1) g0) (hN : 0 < N) {x y : Operand} {mx my : MArg} (hx : argOf x = some mx) (hy : argOf y = some my) {t u ty el : TypeId} {esz bytes s : Nat}
    (ht : P.underlying t = some (.slice el)) (hn : sizeP P el = some esz) (hb : (P.info? el).map (·.bytes) = some bytes) (hz : zeroSize P el = some esz) (hpos : 0 < esz) (hbpos : 0 < bytes)
    {str : Bool} (hk : if str then P.underlying u = some .string ∧ esz = 1 else ∃ e', P.underlying u = some (.slice e'))
    (he : evalOp run esc base e σ (.append str esz bytes mx my) = some (d, e1, σ1)) :
    ∃ v w' g', (Builtin.append_ #[t, u] ty #[a.eval x, a.eval y]).run P w = .ok v w' ∧ Left N σ0 g0 w0 (some s) d v e1 σ1 a.tmps w' g' := by
  simp only [evalOp, Option.bind_eq_some_iff] at he
  obtain ⟨dx, hdx, dy, hdy, he⟩ := he
  cases dx <;> simp only [reduceCtorEq, Option.bind_eq_some_iff] at he
  rename_i own xs
  obtain ⟨ys, hys, he⟩ := he
  have hax := h.arg hx hdx
  have hay := h.arg hy hdy
  simp only [zeroSize, Option.map_eq_some_iff, Option.bind_eq_some_iff] at hz
  obtain ⟨z, ⟨inf, hinf, hz⟩, hzs⟩ := hz
  have hsz : inf.size = esz := by simpa [sizeP, hinf] using hn
  have hby : inf.bytes = bytes := by simpa [hinf] using hb
  subst hsz
  have hrx := hax.rep
  simp only [Rep] at hrx
  obtain ⟨A, c, hv, hc, hc0, hrow⟩ := hrx
  split at he
  · -- nothing is appended
    rename_i hemp
    simp only [List.isEmpty_iff] at hemp
    subst hemp
    simp only [Option.some.injEq, Prod.mk.injEq] at he
    obtain ⟨rfl, rfl, rfl⟩ := he
    obtain ⟨vss, k1, k2, k3, k4, hsrc⟩ := h.src (esz := inf.size) hay.rep hay.under hys hk rfl
    have hv0 : vss = [] := List.eq_nil_of_length_eq_zero k1
    subst hv0
    obtain ⟨g', hl⟩ := h.move_to h0 hN hx hdx s
    refine ⟨_, w, g', ?_, hl⟩
    rw [hv]
    exact run_append_none w t u ty el inf ht hinf A xs.length c hc _ hsrc
  · split at he
    · rename_i hemp hcond
      obtain ⟨hown, hbytes, hxall, hyall⟩ := hcond
      subst hown
      simp only [Option.some.injEq, Prod.mk.injEq] at he
      obtain ⟨rfl, rfl, rfl⟩ := he
      have hyne : ys ≠ [] := by simpa using hemp
      have hyp : 0 < ys.length := List.length_pos_iff.2 hyne
      obtain ⟨vss, k1, k2, k3, k4, hsrc⟩ := h.src (esz := inf.size) hay.rep hay.under hys hk hyall
      have hnews := flatten_len k2
      have hux : Dat.underLL σ.length xs = true := by simpa [Dat.under] using hax.under
      have hxm : ∀ {b off m}, xs ≠ [] → RepRows g w b off m xs → m = inf.size := by
        intro b off m hne hrows
        obtain ⟨x0, hx0⟩ : ∃ x0, xs[0]? = some x0 := by
          cases xs with
          | nil => exact absurd rfl hne
          | cons y ys => exact ⟨y, rfl⟩
        have h2 := (RepRows_get hrows hx0).1
        have h3 := List.all_eq_true.1 hxall x0 (List.mem_of_getElem? hx0)
        simp only [beq_iff_eq] at h3
        omega
      -- the old cells
      have hold : ∃ oss : List (List Value), oss.length = xs.length ∧ (∀ vs ∈ oss, vs.length = inf.size) ∧ (∀ (i : Nat) x vs, xs[i]? = some x → oss[i]? = some vs → x.length = inf.size ∧ RepL g w x vs ∧ x.all Dat.isCell = true) ∧
          (Builtin.firstCells inf.size xs.length (.slice A xs.length c)).run P w.drew = .ok oss.flatten.toArray w.drew := by
        by_cases hne : xs = []
        · subst hne
          refine ⟨[], rfl, by simp, by simp, ?_⟩
          cases A with
          | none => exact run_firstCells_none w.drew inf.size 0 0 c
          | some ad => exact run_firstCells_some w.drew inf.size 0 ad 0 c [] (by simp) (by simp)
        · obtain ⟨b, off, m, rfl, hp, hrows⟩ := hrow hne
          have hm := hxm hne hrows
          subst hm
          obtain ⟨oss, o1, o2, o3, o4, o5⟩ := rows_vals hrows
          exact ⟨oss, o1, o2, o3, run_firstCells_some w.drew inf.size xs.length _ xs.length c oss.flatten (by rw [flatten_len o2, o1]) (fun j u hu => by rw [Addr.add_lit]; exact o4 j u hu)⟩
      obtain ⟨oss, o1, o2, o3, o4⟩ := hold
      have holds := flatten_len o2
      have htot : xs.length + ys.length ≤ (xs.length + ys.length) * bytes := Nat.le_mul_of_pos_right _ hbpos
      have hf1 := h.take_strip hx hdx
      have huxy : Dat.underLL σ.length (xs ++ ys) = true := underLL_mk fun r hr => by
        rcases List.mem_append.1 hr with hr | hr
        · exact underLL_mem hux r hr
        · exact underLL_mem k4 r hr
      by_cases hgrow : c < xs.length + ys.length
      · -- a new row
        have hr := run_append_grow_src (P := P) w t u ty el inf z ht hinf hz A xs.length c oss.flatten o4 (a.eval y) ys.length vss.flatten hsrc hgrow (by omega) (growslice_fits hgrow (by rw [hby]; omega))
        rw [hv]
        generalize hC : grownCap w (xs.length + ys.length) c el = C at hr
        have hCge : xs.length + ys.length ≤ C := by rw [← hC]; exact grownCap_ge w _ _ _
        generalize hcs : ((oss.flatten ++ vss.flatten).toArray ++ Builtin.zeroCells z.cells (C - (xs.length + ys.length))) = cells at hr
        have hcsz : cells.size = C * inf.size := by
          rw [← hcs, Array.size_append, size_zeroCells, hzs]
          simp only [List.size_toArray, List.length_append, holds, hnews, o1, k1, ← Nat.add_mul]
          congr 1
          omega
        have hpre : ∀ (j : Nat) v, (oss.flatten ++ vss.flatten)[j]? = some v → cells[j]? = some v := by
          intro j v hj
          have hlt := (List.getElem?_eq_some_iff.1 hj).1
          rw [← hcs, Array.getElem?_append_left (by simpa using hlt)]
          simpa using hj
        have hbk := hf1.block (w' := w.drew.alloc (.cells cells el)) rfl rfl rfl (by simp) (fun k hk => heap_alloc_old w.drew _ k hk) (heap_alloc_new w.drew _) ((xs.length + ys.length) * inf.size) (some (.slot N s 0)) (by rintro π h; injection h with h; subst h; exact Nat.le_refl _)
        generalize hg' : ({ g with prot := fun b => if b = w.heap.size then (xs.length + ys.length) * inf.size else g.prot b, lock := fun b => if b = w.heap.size then some (.slot N s 0) else g.lock b } : Gh) = g' at hbk
        have hprot : g'.prot w.heap.size = (xs.length + ys.length) * inf.size := by rw [← hg']; simp
        have hlock : g'.lock w.heap.size = some (.slot N s 0) := by rw [← hg']; simp
        have hnew : (w.drew.alloc (.cells cells el)).heap[w.heap.size]? = some (.cells cells el (0, 0)) := heap_alloc_new w.drew _
        have hext : ∀ n', Ext n' g w g' (w.drew.alloc (.cells cells el)) := fun n' => by
          refine ⟨fun b o u ho hcu => ?_, fun b => ?_, fun id hid => by rw [← hg']⟩
          · have hbl : b < w.heap.size := by
              rcases Nat.lt_or_ge b w.heap.size with h' | h'
              · exact h'
              · have := (h.st.fresh b h').1; omega
            simp only [World.cell?, heap_alloc_old w.drew _ b hbl] at hcu ⊢
            exact hcu
          · rw [← hg']
            by_cases hbq : b = w.heap.size
            · rw [hbq, (h.st.fresh _ (Nat.le_refl _)).1]; omega
            · simp [hbq]
        have hcell : ∀ j, (w.drew.alloc (.cells cells el)).cell? ⟨w.heap.size, j, none⟩ = cells[j]? := fun j => cell_of_row _ _ _ _ _ _ hnew
        refine ⟨_, _, g', hr, hbk.left ?_ (fun s' hs' => ?_) (by simpa [Dat.under] using huxy)⟩
        · simp only [Rep]
          refine ⟨some ⟨w.heap.size, 0, none⟩, C, by simp, by simp; omega, fun _ hx0 => by simp at hx0; exact absurd hx0.2 hyne, fun hne => ⟨w.heap.size, 0, inf.size, rfl, by rw [hprot]; simp, ?_⟩⟩
          refine RepRows_append (RepRows_flat (vss := oss) o1.symm (fun i x vs hxi hvs => ?_) fun j v hj => ?_) (RepRows_flat (vss := vss) k1.symm (fun i x vs hxi hvs => ?_) fun j v hj => ?_)
          · obtain ⟨h1, h2, h3⟩ := o3 i x vs hxi hvs
            exact ⟨h1, RepL_ext (hext σ.length) _ _ (underLL_mem hux x (List.mem_of_getElem? hxi)) h2, h3⟩
          · rw [hcell]
            refine hpre _ v ?_
            rw [Nat.zero_add, List.getElem?_append_left (List.getElem?_eq_some_iff.1 hj).1]
            exact hj
          · obtain ⟨h1, h2, h3⟩ := k3 i x vs hxi hvs
            exact ⟨h1, RepL_ext (hext σ.length) _ _ (underLL_mem k4 x (List.mem_of_getElem? hxi)) h2, h3⟩
          · rw [hcell]
            refine hpre _ v ?_
            rw [Nat.zero_add, List.getElem?_append_right (by rw [holds, o1]; omega), holds, o1, Nat.add_sub_cancel_left]
            exact hj
        · injection hs' with hs'
          subst hs'
          simp only [Own]
          refine ⟨some ⟨w.heap.size, 0, none⟩, C, by simp, .inr ⟨w.heap.size, inf.size, cells, el, rfl, by simp [hyne], hlock, hnew, by omega, by rw [hprot]; simp, fun r hr => ?_⟩⟩
          rcases List.mem_append.1 hr with hr | hr
          · simpa using List.all_eq_true.1 hxall r hr
          · simpa using List.all_eq_true.1 hyall r hr
      · -- in place
        have hxne : xs ≠ [] := by rintro rfl; have := hc0 rfl rfl; simp at hgrow; omega
        obtain ⟨b, off, m, hA, hp, hrows⟩ := hrow hxne
        have hm := hxm hxne hrows
        subst hm
        -- the operand is a slot that owns
        rcases hax.own with ⟨hs, _⟩ | ⟨q, rfl, hq, hqv, ho⟩
        · simp [Dat.safe, hxne] at hs
        simp only [Own] at ho
        obtain ⟨A', c', hv', hor⟩ := ho
        rw [hv] at hv'
        simp only [Value.slice.injEq, true_and] at hv'
        obtain ⟨rfl, rfl⟩ := hv'
        rcases hor with hor | ⟨b', m', cs, T, hA', _, hlk, hheap, hcm, hpr, hm'⟩
        · omega
        rw [hA] at hA'
        simp only [Option.some.injEq, Addr.mk.injEq, and_true] at hA'
        obtain ⟨rfl, rfl⟩ := hA'
        have hmm : m' = inf.size := by
          obtain ⟨x0, hx0⟩ : ∃ x0, x0 ∈ xs := List.exists_mem_of_ne_nil xs hxne
          have h3 := List.all_eq_true.1 hxall x0 hx0
          simp only [beq_iff_eq] at h3
          rw [← hm' x0 hx0, h3]
        subst hmm
        subst hA
        have hfit : xs.length * inf.size + vss.flatten.length ≤ cs.size := by
          rw [hnews, k1, ← Nat.add_mul]
          exact Nat.le_trans (Nat.mul_le_mul_right _ (by omega)) hcm
        have hr := run_append_room_row (P := P) (w := w) t u ty el inf ht hinf b xs.length c T cs hheap (a.eval y) ys.length vss.flatten hsrc (by omega) hfit
        rw [hv]
        generalize hcs' : (cs.toList.take (xs.length * inf.size) ++ vss.flatten ++ cs.toList.drop (xs.length * inf.size + vss.flatten.length)) = cs' at hr
        have hcsl : cs'.length = cs.size := by rw [← hcs']; simp only [List.length_append, List.length_take, List.length_drop, Array.length_toList]; omega
        have hkeep : ∀ j, j < xs.length * inf.size → cs'[j]? = cs[j]? := by
          intro j hj
          rw [← hcs', List.append_assoc, List.getElem?_append_left (by simp; omega), List.getElem?_take_of_lt hj]
          simp
        have hput : ∀ (j : Nat) v, vss.flatten[j]? = some v → cs'[xs.length * inf.size + j]? = some v := by
          intro j v hj
          have hlt := (List.getElem?_eq_some_iff.1 hj).1
          have htl : (cs.toList.take (xs.length * inf.size)).length = xs.length * inf.size := by simp; omega
          rw [← hcs', List.append_assoc, List.getElem?_append_right (by omega), htl, Nat.add_sub_cancel_left, List.getElem?_append_left hlt]
          exact hj
        have hrow' : (w.setRow b cs'.toArray).heap[b]? = some (.cells cs'.toArray T (0, 0)) := setRow_heap w _ _ _ T _ hheap
        have hoth : ∀ k, k ≠ b → (w.setRow b cs'.toArray).heap[k]? = w.heap[k]? := fun k hk => setRow_other w _ k _ hk
        generalize hg' : ({ g with prot := fun k => if k = b then (xs.length + ys.length) * inf.size else g.prot k, lock := fun k => (g.lock k).map (slotTo N q s) } : Gh) = g'
        have hρ' : g'.ρ = g.ρ := by rw [← hg']
        have hlock' : ∀ k, g'.lock k = (g.lock k).map (slotTo N q s) := fun k => by rw [← hg']
        have hprot' : g'.prot b = (xs.length + ys.length) * inf.size := by rw [← hg']; simp
        have hprot2 : ∀ k, k ≠ b → g'.prot k = g.prot k := fun k hk => by rw [← hg']; simp [hk]
        have hext : ∀ n', Ext n' g w g' (w.setRow b cs'.toArray) := fun n' => by
          refine ⟨fun k o u' ho hcu => ?_, fun k => ?_, fun id hid => by rw [hρ']⟩
          · by_cases hk : k = b
            · subst hk
              rw [cell_of_row _ _ _ _ _ _ hheap] at hcu
              rw [cell_of_row _ _ _ _ _ _ hrow']
              rw [hpr] at ho
              simp only [List.getElem?_toArray]
              rw [hkeep o ho]; exact hcu
            · rw [cell_setRow_other w _ _ _ hk]; exact hcu
          · by_cases hk : k = b
            · rw [hk, hprot', hpr, Nat.add_mul]; omega
            · rw [hprot2 k hk]; exact Nat.le_refl _
        -- whoever owns elsewhere, owns still
        have hown : ∀ (π π' : Nat → Place) (d : Dat) (v : Value), (∀ i, slotTo N q s (π i) = π' i) → (∀ i, π i ≠ .slot N q 0) → Own g w π d v → Own g' (w.setRow b cs'.toArray) π' d v := by
          intro π π' d v hπ hne ho
          have key : ∀ i xs v, OwnAt g w (π i) xs v → OwnAt g' (w.setRow b cs'.toArray) (π' i) xs v := by
            rintro i xs v ⟨A, c, hv, h⟩
            refine ⟨A, c, hv, h.imp id ?_⟩
            rintro ⟨k, m, cs, T, hA, hx, hl, hh, hcc, hpp, hm⟩
            have hk : k ≠ b := by rintro rfl; rw [hlk] at hl; injection hl with hl; exact hne i hl.symm
            exact ⟨k, m, cs, T, hA, hx, by rw [hlock', hl, Option.map_some, hπ], by rw [hoth k hk]; exact hh, hcc, by rw [hprot2 k hk]; exact hpp, hm⟩
          cases d <;> try trivial
          · simp only [Own] at ho ⊢
            exact fun vs hv i xs u hd hu => key i xs u (ho vs hv i xs u hd hu)
          · rename_i own xs
            cases own
            · trivial
            · simp only [Own] at ho ⊢
              exact key 0 xs v ho
        have hbsize : b < w.heap.size := by
          rcases Nat.lt_or_ge b w.heap.size with h' | h'
          · exact h'
          · rw [(h.st.fresh b h').2] at hlk; cases hlk
        have hbvar : ∀ id, id < σ.length → g.ρ id ≠ b := fun id hid e => by rw [← e, (h.st.free id hid).2] at hlk; cases hlk
        refine ⟨_, _, g', hr, ⟨fun r cr hr' hrs => ?_, fun s' hs' => ?_, ?_, ?_, ?_⟩⟩
        · -- the other slots
          obtain ⟨u', hu', hru, hou, huu⟩ := hf1.env r cr hr'
          refine ⟨u', hu', Rep_ext (hext σ.length) _ _ huu hru, ?_, huu⟩
          by_cases hrq : r = q
          · subst hrq
            simp only [MArg.take, hq] at hr'
            rw [Env.get_put_same] at hr'
            injection hr' with hr'
            subst hr'
            exact Own_strip
          · exact hown _ _ _ _ (fun i => slotTo_other hrq) (fun i e => by injection e with _ e; exact hrq e) hou
        · injection hs' with hs'
          subst hs'
          refine ⟨?_, ?_, by simpa [Dat.under] using huxy⟩
          · simp only [Rep]
            refine ⟨some ⟨b, 0, none⟩, c, by simp, by simp; omega, fun _ hx0 => by simp at hx0; exact absurd hx0.2 hyne, fun hne => ⟨b, 0, inf.size, rfl, by rw [hprot']; simp, ?_⟩⟩
            refine RepRows_append (RepRows_ext (hext σ.length) _ _ _ _ hux hp hrows) (RepRows_flat (vss := vss) k1.symm (fun i x vs hxi hvs => ?_) fun j v hj => ?_)
            · obtain ⟨h1, h2, h3⟩ := k3 i x vs hxi hvs
              exact ⟨h1, RepL_ext (hext σ.length) _ _ (underLL_mem k4 x (List.mem_of_getElem? hxi)) h2, h3⟩
            · rw [cell_of_row _ _ _ _ _ _ hrow', Nat.zero_add]
              simp only [List.getElem?_toArray]
              exact hput j v hj
          · simp only [Own]
            refine ⟨some ⟨b, 0, none⟩, c, by simp, .inr ⟨b, inf.size, cs'.toArray, T, rfl, by simp [hyne], by rw [hlock', hlk, Option.map_some, slotTo_same], hrow', by simpa [hcsl] using hcm, by rw [hprot']; simp, fun r hr => ?_⟩⟩
            rcases List.mem_append.1 hr with hr | hr
            · simpa using List.all_eq_true.1 hxall r hr
            · simpa using List.all_eq_true.1 hyall r hr
        · -- the variables
          refine ⟨fun id cc hcc => ?_, h.st.under, fun i j hi hj hij => h.st.inj i j hi hj (by rwa [hρ'] at hij), fun id hid => ?_, fun k hk => ?_⟩
          · obtain ⟨vs, T', hh, hl, ho'⟩ := h.st.var id cc hcc
            have hid := St.get_lt hcc
            refine ⟨vs, T', by rw [hρ', hoth _ (hbvar id hid)]; exact hh, RepL_ext (hext σ.length) _ _ (h.st.under id cc hcc) hl, fun i di vi hdi hvi => ?_⟩
            obtain ⟨h1, h2⟩ := ho' i di vi hdi hvi
            exact ⟨h1, hown _ _ _ _ (fun _ => rfl) (fun _ e => by cases e) h2⟩
          · rw [hρ']
            obtain ⟨h1, h2⟩ := h.st.free id hid
            exact ⟨by rw [hprot2 _ (hbvar id hid)]; exact h1, by rw [hlock', h2]; rfl⟩
          · have hk' : w.heap.size ≤ k := by simpa using hk
            obtain ⟨h1, h2⟩ := h.st.fresh k hk'
            exact ⟨by rw [hprot2 k (by omega)]; exact h1, by rw [hlock', h2]; rfl⟩
        · -- what is changed
          have hfor : ∀ k, Foreign σ0 g0 w0 k → k ≠ b := by
            rintro k hk rfl
            obtain ⟨_, _, k3⟩ := h.ch.keep k hk
            rw [hlk] at k3
            have := h0 k _ k3.symm
            simp only [Place.low] at this
            omega
          refine ⟨h.ch.os, h.ch.tape, h.ch.output, by simpa using h.ch.size, h.ch.ext.trans ((hext _).mono h.ch.len), h.ch.len, fun k hk => ?_, fun id h1 h2 => by rw [hρ']; exact h.ch.new id h1 h2, h.ch.low⟩
          have hkb := hfor k hk
          obtain ⟨k1', k2', k3'⟩ := h.ch.keep k hk
          refine ⟨by rw [hoth k hkb]; exact k1', by rw [hprot2 k hkb]; exact k2', ?_⟩
          have := (h.ch.map h0 hN (slotTo N q s) keeps_slotTo).keep k hk
          rw [hlock']
          exact this.2.2
        · intro k π hπ
          rw [hlock'] at hπ
          exact h.lb.slotTo (t := q) (s := s) k π hπ
    · cases he
end
end Go.Mir
