/- Operations, fifth part: composites, slice literals, append. -/
import Derived.Test.YtlpfeikoniepiaaRRMirOps4
import Derived.Great.BuildSlice
import Derived.Deep.AppendSrc
set_option linter.all false
namespace Go.Mir
set_option linter.unusedVariables false
set_option linter.unusedSectionVars false
set_option linter.unusedSimpArgs false

theorem foldl_set : ∀ (l : List Value) (k off : Nat) (cs : Array Value), off + k + l.length ≤ cs.size →
    ((l.zipIdx k).foldl (fun cs (x : Value × Nat) => cs.setIfInBounds (off + x.2) x.1) cs) = (cs.toList.take (off + k) ++ l ++ cs.toList.drop (off + k + l.length)).toArray
  | [], k, off, cs, h => by simp
  | v :: l, k, off, cs, h => by
    simp only [List.length_cons] at h
    simp only [List.zipIdx_cons, List.foldl_cons]
    rw [foldl_set l (k + 1) off _ (by simp; omega)]
    have e := list_seg_step cs.toList (off + k) v l (by simp; omega)
    congr 1
    simpa [Array.toList_setIfInBounds, Nat.add_assoc, Nat.add_comm, Nat.add_left_comm] using e
theorem fill_step {place : Nat → Option (Nat × Nat)} {cs l : List Value} {i off n : Nat} {v : Value} {rest : List (Nat × Value)} (hp : place i = some (off, n)) (hv : v.cells = l.toArray) (hl : l.length = n) (ho : off + n ≤ cs.length) :
    Instr.fill place cs.toArray ((i, v) :: rest) = Instr.fill place (cs.take off ++ l ++ cs.drop (off + n)).toArray rest := by
  have hf := foldl_set l 0 off cs.toArray (by simp; omega)
  simp only [Nat.add_zero, hl] at hf
  simp only [Instr.fill, hp, hv, List.size_toArray, hl, ne_eq, not_true_eq_false, decide_false, Bool.false_or]
  rw [if_neg (by simp; omega)]
  congr 1
  rw [← Array.foldl_toList]
  simpa using hf

theorem cells_strip1 {d : Dat} {l : List Dat} (h : d.strip1.cells? = some l) : l.all Dat.safe = true := by
  cases d <;> simp only [Dat.strip1, Dat.cells?, reduceCtorEq, Option.some.injEq] at h
  case agg cs =>
    split at h
    · rename_i hs
      injection h with h
      exact h ▸ hs
    · cases h
  all_goals (subst h; rfl)
theorem cells_norm {d : Dat} {l : List Dat} (h : d.norm.cells? = some l) : l.all Dat.safe = true := by
  cases d <;> simp only [Dat.norm, Dat.cells?, reduceCtorEq, Option.some.injEq] at h
  case agg cs =>
    split at h
    · rename_i hs
      injection h with h
      exact h ▸ hs
    · cases h
  all_goals (subst h; rfl)

section
variable {P : Program} {N ntmps : Nat} {σ0 : St} {g0 : Gh} {w0 : World} {e : Env} {σ : St} {a : Act} {w : World} {g : Gh} {run : Run} {esc : Nat → Bool} {base : Nat} {dst : Option Nat} {d : Dat} {e1 : Env} {σ1 : St}

theorem Fr.fill (h : Fr N ntmps σ0 g0 w0 e σ a w g) {place : Nat → Option (Nat × Nat)} : ∀ {parts : List (Nat × Operand)} {ps : List (Nat × Nat × MArg)} {zs cs : List Dat} {us : List Value},
    parts.mapM (fun p => (argOf p.2).bind fun m => (place p.1).map fun q => (q.1, q.2, m)) = some ps → fillD e zs ps = some cs → RepL g w zs us → zs.all Dat.isCell = true → Dat.underL σ.length zs = true →
    ∃ vs : List Value, Instr.fill place us.toArray (parts.map fun p => (p.1, a.eval p.2)) = some vs.toArray ∧ RepL g w cs vs ∧ cs.all Dat.isCell = true ∧ Dat.underL σ.length cs = true
  | [], ps, zs, cs, us, hm, hf, hr, hall, hu => by
    simp only [List.mapM_nil, Option.pure_def, Option.some.injEq] at hm
    subst hm
    simp only [fillD, Option.some.injEq] at hf
    subst hf
    exact ⟨us, rfl, hr, hall, hu⟩
  | (i, x) :: parts, ps, zs, cs, us, hm, hf, hr, hall, hu => by
    simp only [List.mapM_cons, Option.bind_eq_bind, Option.bind_eq_some_iff, Option.map_eq_some_iff, Option.pure_def, Option.some.injEq] at hm
    obtain ⟨_, ⟨m, hx, ⟨off, n⟩, hp, rfl⟩, ps', hps, rfl⟩ := hm
    simp only [fillD, Option.bind_eq_some_iff] at hf
    obtain ⟨d, hd, l, hl, hf⟩ := hf
    split at hf
    · rename_i hc
      obtain ⟨hln, hle⟩ := hc
      have ha := h.arg hx hd
      obtain ⟨vs, hv, hrl, _, hul, hcl⟩ := cells_rep (Rep_strip1 ha.rep) hl
      have hvl := RepL_len hrl
      have hz := RepL_len hr
      have hr' : RepL g w (zs.take off ++ l ++ zs.drop (off + n)) (us.take off ++ vs ++ us.drop (off + n)) := by
        refine RepL_append (RepL_append ?_ hrl) ?_
        · have := RepL_take hr 0 off
          simpa using this
        · have := RepL_take hr (off + n) (zs.length - (off + n))
          rwa [List.take_of_length_le (by simp), List.take_of_length_le (by simp; omega)] at this
      have hall' : (zs.take off ++ l ++ zs.drop (off + n)).all Dat.isCell = true := by
        rw [List.all_eq_true] at hall hcl ⊢
        intro d hd
        rcases List.mem_append.1 hd with hd | hd
        · rcases List.mem_append.1 hd with hd | hd
          · exact hall d (List.mem_of_mem_take hd)
          · exact hcl d hd
        · exact hall d (List.mem_of_mem_drop hd)
      have hu' : Dat.underL σ.length (zs.take off ++ l ++ zs.drop (off + n)) = true := by
        refine underL_mk fun d' hd => ?_
        rcases List.mem_append.1 hd with hd | hd
        · rcases List.mem_append.1 hd with hd | hd
          · exact underL_mem hu _ (List.mem_of_mem_take hd)
          · exact underL_mem (hul _ (by rw [under_strip1]; exact ha.under)) _ hd
        · exact underL_mem hu _ (List.mem_of_mem_drop hd)
      obtain ⟨vs', h1, h2⟩ := h.fill hps hf hr' hall' hu'
      refine ⟨vs', ?_, h2⟩
      simp only [List.map_cons]
      rw [fill_step hp hv (by omega) (by omega)]
      exact h1
    · cases hf

theorem op_build (h : Fr N ntmps σ0 g0 w0 e σ a w g) {t : TypeId} {parts : Array (Nat × Operand)} {ps : List (Nat × Nat × MArg)} {zero : List Dat} (hz : zeroP P t = some zero) (hps : parts.toList.mapM (partOf P t) = some ps) (hok : fieldsOk P t = true)
    (he : evalOp run esc base e σ (.build zero ps) = some (d, e1, σ1)) :
    ∃ v, (Instr.build t (parts.map fun (i, x) => (i, a.eval x))).run P w = .ok v w ∧ Left N σ0 g0 w0 dst d v e1 σ1 a.tmps w g := by
  simp only [evalOp, Option.bind_eq_some_iff, Option.some.injEq, Prod.mk.injEq] at he
  obtain ⟨cs, hcs, rfl, rfl, rfl⟩ := he
  obtain ⟨inf, z, h1, h2, h3⟩ := zeroP_at hz
  obtain ⟨hr, hu, hs⟩ := cellDats_rep (g := g) (w := w) h3
  have hpf : partOf P t = fun p => (argOf p.2).bind fun m => (placeP P t p.1).map fun q => (q.1, q.2, m) := rfl
  rw [hpf] at hps
  obtain ⟨vs, hf, hrv, hallv, huv⟩ := h.fill hps hcs hr (all_cell hs) (hu _)
  refine ⟨.agg vs.toArray, ?_, h.left ?_ (fun _ _ => trivial) (by simpa [Dat.under] using huv)⟩
  · refine run_build w t _ _ ?_
    have hparts : (parts.map fun (i, x) => (i, a.eval x)).toList = parts.toList.map fun p => (p.1, a.eval p.2) := by simp
    rw [hparts]
    unfold fieldsOk at hok
    unfold Program.built
    simp only [h1, h2]
    split at hok
    · rename_i fs hu
      obtain ⟨places, hpl⟩ := Option.isSome_iff_exists.1 hok
      simp only [hu, hpl, h2]
      have : (fun i => places.toArray[i]?) = placeP P t := by
        funext i
        simp only [placeP, hu, List.getElem?_toArray]
        obtain ⟨hlen, hget⟩ := mapM_get hpl
        cases hf : fs[i]? with
        | none =>
          have : fs.size ≤ i := Array.getElem?_eq_none_iff.1 hf
          rw [List.getElem?_eq_none (by rw [hlen]; simpa using this)]
          rfl
        | some f =>
          have hlt : i < fs.size := (Array.getElem?_eq_some_iff.1 hf).1
          have hpl' : i < places.length := by rw [hlen]; simpa using hlt
          have hp : places[i]? = some places[i] := List.getElem?_eq_getElem hpl'
          have := hget i f places[i] (by simpa using hf) hp
          rw [hp, ← this]
          simp only [sizeP, Option.bind_some, Option.map_map]
          rfl
      rw [this]
      simpa using hf
    · rename_i n el hu
      obtain ⟨ie, hie⟩ := Option.isSome_iff_exists.1 hok
      simp only [hu, hie, h2]
      have : (fun i => some (i * ie.size, ie.size)) = placeP P t := by
        funext i
        simp [placeP, hu, sizeP, hie]
      rw [this]
      simpa using hf
    · cases hok
  · simp only [Rep]
    exact ⟨vs, rfl, hrv, hallv⟩

/-! ### new rows -/
theorem Fr.block (h : Fr N ntmps σ0 g0 w0 e σ a w g) {w' : World} {cells : Array Value} {T : TypeId} (hos : w'.os = w.os) (htape : w'.tape = w.tape) (hout : w'.output = w.output) (hsize : w'.heap.size = w.heap.size + 1)
    (hold : ∀ k, k < w.heap.size → w'.heap[k]? = w.heap[k]?) (hnew : w'.heap[w.heap.size]? = some (.cells cells T (0, 0))) (k : Nat) (l : Option Place) (hl : ∀ π, l = some π → π.low N) :
    Fr N ntmps σ0 g0 w0 e σ a w' { g with prot := fun b => if b = w.heap.size then k else g.prot b, lock := fun b => if b = w.heap.size then l else g.lock b } := by
  have hext : ∀ n, Ext n g w { g with prot := fun b => if b = w.heap.size then k else g.prot b, lock := fun b => if b = w.heap.size then l else g.lock b } w' := by
    refine fun n => ⟨fun b o u ho hcu => ?_, fun b => ?_, fun id hid => rfl⟩
    · have hb : b < w.heap.size := by
        rcases Nat.lt_or_ge b w.heap.size with h' | h'
        · exact h'
        · have := (h.st.fresh b h').1; omega
      simp only [World.cell?, hold b hb] at hcu ⊢
      exact hcu
    · by_cases hb : b = w.heap.size
      · rw [hb, (h.st.fresh _ (Nat.le_refl _)).1]; omega
      · simp [hb]
  have hsame : ∀ b, b < w.heap.size → Same g w { g with prot := fun b => if b = w.heap.size then k else g.prot b, lock := fun b => if b = w.heap.size then l else g.lock b } w' b :=
    fun b hb => ⟨hold b hb, by simp [show b ≠ w.heap.size by omega], by simp [show b ≠ w.heap.size by omega]⟩
  have hlt : ∀ b π, g.lock b = some π → b < w.heap.size := fun b π hb => by
    rcases Nat.lt_or_ge b w.heap.size with h' | h'
    · exact h'
    · rw [(h.st.fresh b h').2] at hb; cases hb
  refine ⟨h.env.soft (hext _) fun b π hb => hsame b (hlt b π hb), ?_, ?_, ?_, h.defers, h.tsize⟩
  · refine ⟨fun id c hc => ?_, h.st.under, h.st.inj, fun id hid => ?_, fun b hb => ?_⟩
    · obtain ⟨us, T', hh, hrl, ho⟩ := h.st.var id c hc
      refine ⟨us, T', by rw [hold _ (h.st.lt (St.get_lt hc))]; exact hh, RepL_ext (hext σ.length) _ _ (h.st.under id c hc) hrl, fun i di vi hdi hvi => ?_⟩
      obtain ⟨k1, k2⟩ := ho i di vi hdi hvi
      exact ⟨k1, k2.same fun b k hb => hsame b (hlt b _ hb)⟩
    · have := h.st.lt hid
      simp only [show g.ρ id ≠ w.heap.size by omega, if_false]
      exact h.st.free id hid
    · simp only [show b ≠ w.heap.size by omega, if_false]
      exact h.st.fresh b (by omega)
  · exact h.ch.trans ⟨hos, htape, hout, by omega, hext _, Nat.le_refl _, fun b hb => hsame b hb.1, fun j h1 h2 => by omega, fun _ _ hh => hh⟩
  · intro b π hb
    simp only at hb
    split at hb
    · exact hl π hb
    · exact h.lb b π hb

/-- rows, out of the cells one behind the other -/
theorem RepRows_flat {b m : Nat} : ∀ {xs : List (List Dat)} {vss : List (List Value)} {off : Nat}, xs.length = vss.length → (∀ (i : Nat) x vs, xs[i]? = some x → vss[i]? = some vs → x.length = m ∧ RepL g w x vs ∧ x.all Dat.isCell = true) →
    (∀ (j : Nat) v, vss.flatten[j]? = some v → w.cell? ⟨b, off + j, none⟩ = some v) → RepRows g w b off m xs
  | [], vss, off, _, _, _ => by simp only [RepRows]
  | x :: xs, [], off, hl, _, _ => by simp at hl
  | x :: xs, vs :: vss, off, hl, hr, hc => by
    simp only [RepRows]
    obtain ⟨hm, hrl, hall⟩ := hr 0 x vs rfl rfl
    have hlen := RepL_len hrl
    refine ⟨⟨hm, RepAt_mk fun i d hd => ?_⟩, RepRows_flat (by simpa using hl) (fun i x vs h1 h2 => hr (i + 1) x vs (by simpa using h1) (by simpa using h2)) fun j v hv => ?_⟩
    · obtain ⟨u, hu, hru⟩ := RepL_get hrl hd
      refine ⟨u, hc i u ?_, List.all_eq_true.1 hall d (List.mem_of_getElem? hd), hru⟩
      rw [List.flatten_cons, List.getElem?_append_left (by rw [hlen]; exact (List.getElem?_eq_some_iff.1 hd).1)]
      exact hu
    · have := hc (m + j) v (by rw [List.flatten_cons, List.getElem?_append_right (by omega)]; simpa [hlen, hm] using hv)
      rwa [show off + m + j = off + (m + j) by omega]
theorem RepRows_append {b m off : Nat} {xs ys : List (List Dat)} (hx : RepRows g w b off m xs) (hy : RepRows g w b (off + xs.length * m) m ys) : RepRows g w b off m (xs ++ ys) := by
  refine RepRows_mk fun i x hi => ?_
  by_cases h : i < xs.length
  · rw [List.getElem?_append_left h] at hi
    exact RepRows_get hx hi
  · rw [List.getElem?_append_right (by omega)] at hi
    have := RepRows_get hy hi
    rwa [show off + xs.length * m + (i - xs.length) * m = off + i * m by rw [Nat.add_assoc, ← Nat.add_mul]; congr 2; omega] at this
theorem flatten_len {m : Nat} {vss : List (List Value)} (h : ∀ vs ∈ vss, vs.length = m) : vss.flatten.length = vss.length * m := by
  induction vss with
  | nil => simp
  | cons v r ih => simp only [List.flatten_cons, List.length_append, List.length_cons, h v (by simp), ih fun vs hvs => h vs (by simp [hvs]), Nat.add_mul]; omega

/-- the operands of a slice literal -/
theorem Fr.elems (h : Fr N ntmps σ0 g0 w0 e σ a w g) {esz : Nat} : ∀ {l : List Operand} {ms : List MArg} {xs : List (List Dat)}, l.mapM argOf = some ms → elemsD e esz ms = some xs →
    ∃ vss : List (List Value), vss.length = l.length ∧ xs.length = l.length ∧ (∀ (i : Nat) x vs, l[i]? = some x → vss[i]? = some vs → (a.eval x).cells = vs.toArray) ∧
      (∀ (i : Nat) x vs, xs[i]? = some x → vss[i]? = some vs → x.length = esz ∧ RepL g w x vs ∧ x.all Dat.isCell = true) ∧ Dat.underLL σ.length xs = true ∧ xs.all (fun x => x.all Dat.safe) = true
  | [], ms, xs, hm, he => by
    simp only [List.mapM_nil, Option.pure_def, Option.some.injEq] at hm
    subst hm
    simp only [elemsD, Option.some.injEq] at he
    subst he
    exact ⟨[], rfl, rfl, by simp, by simp, rfl, rfl⟩
  | x :: l, ms, xs, hm, he => by
    simp only [List.mapM_cons, Option.bind_eq_bind, Option.bind_eq_some_iff, Option.pure_def, Option.some.injEq] at hm
    obtain ⟨m, hx, ms', hl, rfl⟩ := hm
    simp only [elemsD, Option.bind_eq_some_iff] at he
    obtain ⟨d, hd, c, hc, he⟩ := he
    split at he
    · rename_i hcl
      simp only [Option.bind_eq_some_iff, Option.some.injEq] at he
      obtain ⟨xs', hxs, rfl⟩ := he
      have ha := h.arg hx hd
      obtain ⟨vs, hv, hrl, _, hul, hall⟩ := cells_rep (Rep_norm ha.rep) hc
      obtain ⟨vss, k1, k2, k3, k4, k5, k6⟩ := h.elems hl hxs
      refine ⟨vs :: vss, by simp [k1], by simp [k2], fun i y vs' hy hvs => ?_, fun i y vs' hy hvs => ?_, ?_, ?_⟩
      · cases i with
        | zero => simp at hy hvs; subst hy hvs; exact hv
        | succ i => exact k3 i y vs' (by simpa using hy) (by simpa using hvs)
      · cases i with
        | zero => simp at hy hvs; subst hy hvs; exact ⟨hcl, hrl, hall⟩
        | succ i => exact k4 i y vs' (by simpa using hy) (by simpa using hvs)
      · simp only [Dat.underLL, Bool.and_eq_true]
        exact ⟨hul _ (by rw [under_norm]; exact ha.under), k5⟩
      · simp only [List.all_cons, Bool.and_eq_true]
        exact ⟨cells_norm hc, k6⟩
    · cases he

theorem fill_rows {n : Nat} : ∀ {parts : List (Nat × Value)} {vss : List (List Value)} {k : Nat} {ds zs : List Value}, parts.length = vss.length → (∀ (i : Nat) (p : Nat × Value) vs, parts[i]? = some p → vss[i]? = some vs → p.1 = k + i ∧ p.2.cells = vs.toArray ∧ vs.length = n) →
    ds.length = k * n → zs.length = vss.length * n → Instr.fill (fun i => some (i * n, n)) (ds ++ zs).toArray parts = some (ds ++ vss.flatten).toArray
  | [], vss, k, ds, zs, hl, _, _, hz => by
    have : vss = [] := List.eq_nil_of_length_eq_zero hl.symm
    subst this
    have : zs = [] := List.eq_nil_of_length_eq_zero (by simpa using hz)
    subst this
    simp [Instr.fill]
  | p :: parts, [], k, ds, zs, hl, _, _, _ => by simp at hl
  | (i, v) :: parts, vs :: vss, k, ds, zs, hl, hp, hd, hz => by
    obtain ⟨h1, h2, h3⟩ := hp 0 (i, v) vs rfl rfl
    simp only [Nat.add_zero] at h1
    simp only at h2
    simp only [List.length_cons, Nat.add_mul, Nat.one_mul] at hz
    subst h1
    rw [fill_step (off := i * n) (n := n) rfl h2 h3 (by rw [List.length_append]; omega)]
    have e1 : (ds ++ zs).take (i * n) ++ vs ++ (ds ++ zs).drop (i * n + n) = (ds ++ vs) ++ zs.drop n := by
      rw [← hd, List.take_left, List.drop_append]
      congr 1
      · rw [List.drop_eq_nil_of_le (by omega)]
        simp
    rw [e1, fill_rows (k := i + 1) (by simpa using hl) (fun j p vs' hp' hv' => by
      have := hp (j + 1) p vs' (by simpa using hp') (by simpa using hv')
      exact ⟨by omega, this.2⟩) (by rw [List.length_append, Nat.add_mul]; omega) (by rw [List.length_drop]; omega)]
    simp

theorem op_buildSlice (h : Fr N ntmps σ0 g0 w0 e σ a w g) (hN : 0 < N) {t el : TypeId} {len n : Nat} {parts : Array (Nat × Operand)} {ps : List MArg} (ht : P.underlying t = some (.slice el)) (hn : sizeP P el = some n) (hix : parts.toList.map (·.1) = List.range len)
    (hle : len * n ≤ 2 ^ 24) (hpos : 0 < n) (hz : ((P.info? el).bind (·.zero)).isSome = true) (hps : parts.toList.mapM (fun x => argOf x.2) = some ps) (he : evalOp run esc base e σ (.buildSlice n ps) = some (d, e1, σ1)) :
    ∃ v w' g', (Instr.buildSlice t len (parts.map fun (i, x) => (i, a.eval x))).run P w = .ok v w' ∧ Left N σ0 g0 w0 dst d v e1 σ1 a.tmps w' g' := by
  simp only [evalOp, Option.bind_eq_some_iff, Option.some.injEq, Prod.mk.injEq] at he
  obtain ⟨xs, hxs, rfl, rfl, rfl⟩ := he
  obtain ⟨z, hz⟩ := Option.isSome_iff_exists.1 hz
  obtain ⟨ie, hie, hz⟩ := Option.bind_eq_some_iff.1 hz
  have hsz : ie.size = n := by simpa [sizeP, hie] using hn
  have hps' : (parts.toList.map (·.2)).mapM argOf = some ps := by rw [List.mapM_map]; exact hps
  obtain ⟨vss, k1, k2, k3, k4, k5, k6⟩ := h.elems hps' hxs
  have hlen : parts.toList.length = len := by have := congrArg List.length hix; simpa using this
  have hvl : vss.length = len := by rw [k1, List.length_map, hlen]
  have hxl : xs.length = len := by rw [k2, List.length_map, hlen]
  have hvn : ∀ vs ∈ vss, vs.length = n := by
    intro vs hvs
    obtain ⟨i, hi⟩ := List.getElem?_of_mem hvs
    have hlt : i < xs.length := by rw [hxl, ← hvl]; exact (List.getElem?_eq_some_iff.1 hi).1
    obtain ⟨h1, h2, _⟩ := k4 i xs[i] vs (List.getElem?_eq_getElem hlt) hi
    rw [RepL_len h2, h1]
  have hfl := flatten_len hvn
  -- the machine's cells
  have hrun : (Instr.buildSlice t len (parts.map fun (i, x) => (i, a.eval x))).run P w = .ok (.slice (some ⟨w.heap.size, 0, none⟩) len len) (w.alloc (.cells vss.flatten.toArray el)) := by
    have hfill : ∀ zs : Array Value, zs.size = len * n → Instr.fill (fun i => some (i * ie.size, ie.size)) zs (parts.map fun (i, x) => (i, a.eval x)).toList = some vss.flatten.toArray := by
      intro zs hzl
      rw [hsz]
      have := fill_rows (n := n) (parts := (parts.map fun (i, x) => (i, a.eval x)).toList) (vss := vss) (k := 0) (ds := []) (zs := zs.toList) (by simpa using hlen.trans hvl.symm) (fun i p vs hp hvs => ?_) (by simp) (by rw [hvl, Array.length_toList, hzl])
      · simpa using this
      · simp only [Array.toList_map, List.getElem?_map, Option.map_eq_some_iff] at hp
        obtain ⟨⟨j, x⟩, hq, rfl⟩ := hp
        have hj : (parts.toList.map (·.1))[i]? = some j := by rw [List.getElem?_map, hq]; rfl
        rw [hix, List.getElem?_range (by rw [← hlen]; exact (List.getElem?_eq_some_iff.1 hq).1)] at hj
        injection hj with hj
        refine ⟨by simp [hj], k3 i x vs (by rw [List.getElem?_map, hq]; rfl) hvs, hvn vs (List.mem_of_getElem? hvs)⟩
    rcases Nat.eq_zero_or_pos len with h0 | h0
    · subst h0
      have hv0 : vss = [] := List.eq_nil_of_length_eq_zero hvl
      subst hv0
      have hp0 : parts.toList = [] := List.eq_nil_of_length_eq_zero hlen
      have hp1 : parts = #[] := by rw [← Array.toArray_toList (xs := parts), hp0]
      subst hp1
      simp [Instr.buildSlice, run_underlying ht, sizeOf, typeInfo, hie, newRow, Instr.fill]
      have hz0 : (Array.map (fun _ => (default : Value)) (Array.range 0)) = #[] := Array.eq_empty_of_size_eq_zero (by simp)
      rw [hz0]
    · have hlz : 0 < len * n := Nat.mul_pos h0 hpos
      refine run_buildSlice w t el len _ _ ie z ht hie hz (by rw [hsz]; omega) (by rw [hsz]; omega) ?_
      exact hfill _ (by simp [hsz])
  have hb := h.block (w' := w.alloc (.cells vss.flatten.toArray el)) rfl rfl rfl (by simp) (fun k hk => heap_alloc_old w _ k hk) (heap_alloc_new w _) (len * n) none (by simp)
  generalize hg' : ({ g with prot := fun b => if b = w.heap.size then len * n else g.prot b, lock := fun b => if b = w.heap.size then none else g.lock b } : Gh) = g' at hb
  have hprot : g'.prot w.heap.size = len * n := by rw [← hg']; simp
  have hext : ∀ n', Ext n' g w g' (w.alloc (.cells vss.flatten.toArray el)) := fun n' => by
    refine ⟨fun b o u ho hcu => ?_, fun b => ?_, fun id hid => by rw [← hg']⟩
    · have hbl : b < w.heap.size := by
        rcases Nat.lt_or_ge b w.heap.size with h' | h'
        · exact h'
        · have := (h.st.fresh b h').1; omega
      simp only [World.cell?, heap_alloc_old w _ b hbl] at hcu ⊢
      exact hcu
    · rw [← hg']
      by_cases hbq : b = w.heap.size
      · rw [hbq, (h.st.fresh _ (Nat.le_refl _)).1]; omega
      · simp [hbq]
  refine ⟨_, _, g', hrun, hb.left ?_ (fun s _ => ?_) (by simpa [Dat.under] using k5)⟩
  · simp only [Rep]
    refine ⟨some ⟨w.heap.size, 0, none⟩, len, by rw [hxl], by omega, fun _ hx0 => by rw [hx0] at hxl; simpa using hxl.symm, fun hne => ⟨w.heap.size, 0, n, rfl, by rw [hprot, hxl]; omega, ?_⟩⟩
    refine RepRows_flat (vss := vss) (by omega) (fun i x vs hx hvs => ?_) fun j v hv => ?_
    · obtain ⟨h1, h2, h3⟩ := k4 i x vs hx hvs
      exact ⟨h1, RepL_ext (hext σ.length) _ _ (underLL_mem k5 x (List.mem_of_getElem? hx)) h2, h3⟩
    · rw [cell_of_row _ _ _ _ _ _ (heap_alloc_new w _)]
      simpa using hv
  · simp only [Own]
    exact ⟨_, len, by rw [hxl], .inl (by rw [hxl])⟩

/-! ### append -/
theorem run_append_room_row (t tx ty el : TypeId) (i : TypeInfo) (ht : P.underlying t = some (.slice el)) (hi : P.info? el = some i) (b sLen sCap : Nat) (T : TypeId) (cur : Array Value) (hg : w.heap[b]? = some (.cells cur T (0, 0)))
    (x : Value) (n : Nat) (news : List Value) (hs : Src P i.size tx x n news w) (hroom : sLen + n ≤ sCap) (hfit : sLen * i.size + news.length ≤ cur.size) :
    (Builtin.append_ #[t, tx] ty #[.slice (some ⟨b, 0, none⟩) sLen sCap, x]).run P w =
      .ok (.slice (some ⟨b, 0, none⟩) (sLen + n) sCap) (w.setRow b (cur.toList.take (sLen * i.size) ++ news ++ cur.toList.drop (sLen * i.size + news.length)).toArray) := by
  have hst := run_storeCells_at P b (sLen * i.size) T news 0 cur w hg (by simpa using hfit) hs.one
  simp only [Nat.add_zero] at hst
  rcases hs.kind with ⟨e', hk⟩ | hk <;> simp [Builtin.append_, run_underlying ht, run_underlying hk, sizeOf, typeInfo, hi, hs.len, hroom, hs.cells, Addr.add_lit, hst]

/-- the cells of rows, one behind the other -/
theorem rows_vals {b m : Nat} : ∀ {xs : List (List Dat)} {off : Nat}, RepRows g w b off m xs →
    ∃ vss : List (List Value), vss.length = xs.length ∧ (∀ vs ∈ vss, vs.length = m) ∧ (∀ (i : Nat) x vs, xs[i]? = some x → vss[i]? = some vs → x.length = m ∧ RepL g w x vs ∧ x.all Dat.isCell = true) ∧ (∀ (j : Nat) v, vss.flatten[j]? = some v → w.cell? ⟨b, off + j, none⟩ = some v) ∧
      ∀ v ∈ vss.flatten, v.oneCell' = true
  | [], off, _ => ⟨[], rfl, by simp, by simp, by simp, by simp⟩
  | x :: xs, off, h => by
    simp only [RepRows] at h
    obtain ⟨⟨hm, hat⟩, hr⟩ := h
    obtain ⟨vss, k1, k2, k3, k4, k5⟩ := rows_vals hr
    have key : ∀ i, i < x.length → ∃ u, w.cell? ⟨b, off + i, none⟩ = some u ∧ Rep g w (x[i]?.getD .undef) u ∧ (x[i]?.getD .undef).isCell = true := fun i hi => by
      obtain ⟨u, hu, hc, hru⟩ := RepAt_get hat (List.getElem?_eq_getElem hi)
      exact ⟨u, hu, by simpa [hi] using hru, by simpa [hi] using hc⟩
    have hxv : ∃ vs : List Value, vs.length = m ∧ RepL g w x vs ∧ (∀ (j : Nat) v, vs[j]? = some v → w.cell? ⟨b, off + j, none⟩ = some v) ∧ ∀ v ∈ vs, v.oneCell' = true := by
      have hval : ∀ (j : Nat) v, ((List.range m).map fun i => (w.cell? ⟨b, off + i, none⟩).getD _root_.Go.undef)[j]? = some v → w.cell? ⟨b, off + j, none⟩ = some v ∧ j < m := fun j v hv => by
        have hj : j < m := by have := (List.getElem?_eq_some_iff.1 hv).1; simpa using this
        obtain ⟨u, hu, _⟩ := key j (by omega)
        rw [List.getElem?_map, List.getElem?_range hj, Option.map_some, hu] at hv
        exact ⟨by rw [hu]; exact hv, hj⟩
      refine ⟨(List.range m).map fun i => (w.cell? ⟨b, off + i, none⟩).getD _root_.Go.undef, by simp, RepL_mk (by simp [hm]) fun i d v hd hv => ?_, fun j v hv => (hval j v hv).1, fun v hv => ?_⟩
      · obtain ⟨h1, hj⟩ := hval i v hv
        obtain ⟨u, hu, _, hru⟩ := RepAt_get hat hd
        rw [h1] at hu
        injection hu with hu
        exact hu ▸ hru
      · obtain ⟨j, hj⟩ := List.getElem?_of_mem hv
        obtain ⟨h1, hjm⟩ := hval j v hj
        obtain ⟨u, hu, hru, hc⟩ := key j (by omega)
        rw [h1] at hu
        injection hu with hu
        rw [hu]
        exact cell_oneCell hc hru
    obtain ⟨vs, v1, v2, v3, v4⟩ := hxv
    have hcell : x.all Dat.isCell = true := by
      rw [List.all_eq_true]
      intro d hd
      obtain ⟨i, hi⟩ := List.getElem?_of_mem hd
      exact (RepAt_get hat hi).choose_spec.2.1
    refine ⟨vs :: vss, by simp [k1], fun us hus => ?_, fun i y us hy hus => ?_, fun j v hv => ?_, fun v hv => ?_⟩
    · rcases List.mem_cons.1 hus with rfl | hus
      · exact v1
      · exact k2 us hus
    · cases i with
      | zero => simp at hy hus; subst hy hus; exact ⟨hm, v2, hcell⟩
      | succ i => exact k3 i y us (by simpa using hy) (by simpa using hus)
    · rw [List.flatten_cons] at hv
      by_cases hj : j < vs.length
      · rw [List.getElem?_append_left hj] at hv
        exact v3 j v hv
      · rw [List.getElem?_append_right (by omega)] at hv
        have := k4 _ v hv
        rwa [show off + m + (j - vs.length) = off + j by omega] at this
    · rw [List.flatten_cons] at hv
      rcases List.mem_append.1 hv with hv | hv
      · exact v4 v hv
      · exact k5 v hv

theorem flat_bytes : ∀ s : List UInt8, (s.map fun c => [Value.int .u8 c.toNat]).flatten = byteCells ⟨s.toArray⟩
  | [] => rfl
  | c :: s => by
    rw [List.map_cons, List.flatten_cons, flat_bytes s]
    simp [byteCells]
/-- What is appended. -/
theorem Fr.src (h : Fr N ntmps σ0 g0 w0 e σ a w g) {y : Dat} {v : Value} (hr : Rep g w y v) (hu : y.under σ.length = true) {ys : List (List Dat)} {str : Bool} (hy : y.rows? str = some ys) {tx : TypeId} {esz : Nat}
    (hk : if str then P.underlying tx = some .string ∧ esz = 1 else ∃ e', P.underlying tx = some (.slice e')) (hall : ys.all (fun r => r.length == esz) = true) :
    ∃ vss : List (List Value), vss.length = ys.length ∧ (∀ vs ∈ vss, vs.length = esz) ∧ (∀ (i : Nat) x vs, ys[i]? = some x → vss[i]? = some vs → x.length = esz ∧ RepL g w x vs ∧ x.all Dat.isCell = true) ∧ Dat.underLL σ.length ys = true ∧ Src P esz tx v ys.length vss.flatten w := by
  cases str <;> cases y <;> simp only [Dat.rows?, reduceCtorEq, Option.some.injEq] at hy
  rotate_left
  · rename_i s
    simp only [if_true] at hk
    obtain ⟨hst, h1⟩ := hk
    subst h1
    simp only [Rep] at hr
    subst hy
    refine ⟨s.map fun c => [Value.int .u8 c.toNat], by simp, by simp, fun i x vs hx hvs => ?_, underLL_mk fun d hd => ?_, ?_⟩
    · simp only [List.getElem?_map, Option.map_eq_some_iff] at hx hvs
      obtain ⟨c, hc, rfl⟩ := hx
      obtain ⟨c', hc', rfl⟩ := hvs
      rw [hc] at hc'
      injection hc' with hc'
      subst hc'
      exact ⟨rfl, RepL_cons (by simp only [Rep]) (by simp only [RepL]), rfl⟩
    · obtain ⟨c, _, rfl⟩ := List.mem_map.1 hd
      rfl
    · have := Src.ofString (P := P) w hst ⟨s.toArray⟩
      rw [hr]
      have e1 : (s.map fun c => [Value.int .u8 c.toNat]).flatten = byteCells ⟨s.toArray⟩ := by
        exact flat_bytes s
      rw [e1]
      have e2 : (s.map fun c => [Dat.int .u8 c.toNat]).length = (ByteArray.mk s.toArray).size := by simp [ByteArray.size]
      rw [e2]
      exact this
  · rename_i own xs
    subst hy
    simp only [Bool.false_eq_true, if_false] at hk
    obtain ⟨e', hk'⟩ := hk
    simp only [Rep] at hr
    obtain ⟨A, c, rfl, hc, _, hx⟩ := hr
    have hux : Dat.underLL σ.length xs = true := by simpa [Dat.under] using hu
    by_cases hne : xs = []
    · subst hne
      refine ⟨[], rfl, by simp, by simp, rfl, ?_⟩
      cases A with
      | none => exact Src.ofNil w hk' c
      | some ad => exact Src.ofSlice w hk' ad 0 c [] (by simp) (by simp) (by simp)
    · obtain ⟨b, off, m, rfl, hp, hrows⟩ := hx hne
      have hm : m = esz := by
        obtain ⟨x0, hx0⟩ : ∃ x0, xs[0]? = some x0 := by
          cases xs with
          | nil => exact absurd rfl hne
          | cons y ys => exact ⟨y, rfl⟩
        have h2 := (RepRows_get hrows hx0).1
        have h3 := List.all_eq_true.1 hall x0 (List.mem_of_getElem? hx0)
        simp only [beq_iff_eq] at h3
        omega
      subst hm
      obtain ⟨vss, k1, k2, k3, k4, k5⟩ := rows_vals hrows
      exact ⟨vss, k1, k2, k3, hux, Src.ofSlice w hk' _ xs.length c vss.flatten (by rw [flatten_len k2, k1]) (fun j u hu => by rw [Addr.add_lit]; exact k4 j u hu) k5⟩
end
end Go.Mir
