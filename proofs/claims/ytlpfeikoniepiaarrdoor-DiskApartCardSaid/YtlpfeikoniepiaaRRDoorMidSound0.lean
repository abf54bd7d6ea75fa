/- One operation, its guard. -/
import Derived.Test.YtlpfeikoniepiaaRRDoorMidStep
set_option linter.all false
namespace Go.Mir
set_option linter.unusedVariables false
set_option linter.unusedSectionVars false
set_option linter.unusedSimpArgs false

section
variable {P : Program} {N ntmps : Nat} {σ0 : St} {g0 : Gh} {w0 : World} {e : Env} {σ : St} {a : Act} {w : World} {g : Gh} {run : Run} {esc : Nat → Bool} {base : Nat} {dst : Option Nat} {d : Dat} {e1 : Env} {σ1 : St}

theorem op_ok (hk : CallsOk P run) (h : Fr N ntmps σ0 g0 w0 e σ a w g) (h0 : LB (N - 1) g0) (hN : 0 < N) (hbase : base = σ0.length) {o : Oper} {later : List Oper} {op : MOp} (hop : opOf P later o = some op)
    (he : evalOp run esc base e σ op = some (d, e1, σ1)) {K : Act → World → Prop} {Q : Exit → Act → World → Prop} (hK : ∀ v w' g', Left N σ0 g0 w0 o.dst d v e1 σ1 a.tmps w' g' → K (a.put o.dst v) w') : o.wp P a w K Q := by
  by_cases hc : ∃ f as ts, o.op = .call { callee := .value f, args := as, argTypes := ts }
  · obtain ⟨f, as, ts, ho⟩ := hc
    simp only [opOf, ho] at hop
    split at hop
    · rename_i k hnat
      obtain ⟨ms, hms, rfl⟩ := Option.map_eq_some_iff.1 hop
      obtain ⟨v, hr, hl⟩ := op_nat h ho hnat hms he
      unfold Oper.wp
      rw [hr, Oper.upon_value]
      exact hK v w g hl
    · simp only [Option.bind_eq_bind, Option.bind_eq_some_iff, Option.pure_def, Option.some.injEq] at hop
      obtain ⟨mf, hf, ms, hms, rfl⟩ := hop
      exact op_call hk h h0 hN ho hf hms he hK
  · obtain ⟨v, w', g', hr, hl⟩ := op_did h h0 hN hbase hop (fun f as ts e => hc ⟨f, as, ts, e⟩) he
    unfold Oper.wp
    rcases hr with hr | ⟨hr, rfl⟩
    · rw [hr, Oper.upon_value]
      exact hK v w' g' hl
    · rw [hr, Oper.upon_skip]
      exact hK _ w' g' hl

theorem Fr.wanted (h : Fr N ntmps σ0 g0 w0 e σ a w g) {ops : Array Oper} {o : Oper} {mg : Option (Nat × Bool)} (hg : guardOf ops o = some mg) {b : Bool} (hb : wantedD e mg = some b) : Region.wanted o (yielded ops a.tmps) = b := by
  unfold guardOf at hg
  unfold Region.wanted
  cases hog : o.guard with
  | none =>
    rw [hog] at hg
    simp only [Option.some.injEq] at hg
    subst hg
    simpa [wantedD] using hb
  | some jw =>
    obtain ⟨j, want⟩ := jw
    rw [hog] at hg
    simp only [Option.map_eq_some_iff] at hg
    obtain ⟨t, ht, rfl⟩ := hg
    simp only [wantedD, Option.bind_eq_some_iff] at hb
    obtain ⟨c, hc, hb⟩ := hb
    obtain ⟨v, hv, hr, _⟩ := h.env t c hc
    have hy : yielded ops a.tmps j = (match some v with | some (.bool b) => some b | _ => none) := by
      unfold yielded
      rw [ht, Option.bind_some, hv]
      cases v <;> rfl
    simp only [hy]
    cases c <;> simp only [reduceCtorEq, Option.some.injEq] at hb
    · simp only [Rep] at hr
      subst hr
      subst hb
      rfl
    · rename_i bb
      simp only [Rep] at hr
      subst hr
      subst hb
      cases bb <;> cases want <;> rfl

theorem Fr.keep (h : Fr N ntmps σ0 g0 w0 e σ a w g) (l : List Nat) : Fr N ntmps σ0 g0 w0 (Env.keep e l) σ a w g :=
  ⟨fun s d hd => h.env s d (Env.get_keep hd), h.st, h.ch, h.lb, h.defers, h.tsize⟩

theorem St.get_pos : ∀ {σ : St} {id : Nat} {c : List Dat}, St.get σ id = some c → σ[σ.length - 1 - id]? = some c
  | [], id, c, h => by simp [St.get_nil, St.get_cons] at h
  | x :: r, id, c, h => by
    have hlt := St.get_lt h
    simp only [St.get_nil, St.get_cons] at h
    simp only [List.length_cons] at hlt ⊢
    split at h
    · rename_i hid
      subst hid
      injection h with h
      subst h
      simp
    · have := St.get_pos h
      have hlt' := St.get_lt h
      rw [show r.length + 1 - 1 - id = (r.length - 1 - id) + 1 by omega]
      simpa using this

/-- The youngest variable falls away. -/
theorem pop_ok {c : List Dat} {r : St} (hst : StOk g w (c :: r)) (hch : Ch σ0 g0 w0 (c :: r) g w) (hu0 : ∀ id c, St.get σ0 id = some c → Dat.underL σ0.length c = true) (hle : σ0.length ≤ r.length)
    (hr : Dat.underLL r.length (r.take (r.length - σ0.length)) = true) : StOk g w r ∧ Ch σ0 g0 w0 r g w := by
  have get : ∀ {id c'}, St.get r id = some c' → St.get (c :: r) id = some c' := fun {id c'} h => by rw [St.get_cons_old (St.get_lt h)]; exact h
  refine ⟨⟨fun id c' hc' => hst.var id c' (get hc'), fun id c' hc' => ?_, fun i j hi hj => hst.inj i j (by simp; omega) (by simp; omega), fun id hid => hst.free id (by simp; omega), hst.fresh⟩, ?_⟩
  · by_cases hid : id < σ0.length
    · exact underL_mono hle _ (hch.low σ0.length (Nat.le_refl _) (fun id c _ hc => hu0 id c hc) id c' hid (get hc'))
    · have hpos := St.get_pos hc'
      have hlt := St.get_lt hc'
      exact underLL_mem hr c' (List.mem_of_getElem? (i := r.length - 1 - id) (by rw [List.getElem?_take_of_lt (by omega)]; exact hpos))
  · exact ⟨hch.os, hch.tape, hch.output, hch.size, hch.ext, hle, hch.keep, fun id h1 h2 => hch.new id h1 (by simp; omega), fun n hn hh id c' hid hc' => hch.low n hn hh id c' hid (get hc')⟩

theorem gc_ok (hu0 : ∀ id c, St.get σ0 id = some c → Dat.underL σ0.length c = true) {live : List Dat} : ∀ {σ : St}, StOk g w σ → Ch σ0 g0 w0 σ g w → Dat.underL σ.length live = true →
    StOk g w (gc σ0.length live σ) ∧ Ch σ0 g0 w0 (gc σ0.length live σ) g w ∧ Dat.underL (gc σ0.length live σ).length live = true
  | [], hst, hch, hu => ⟨hst, hch, hu⟩
  | c :: r, hst, hch, hu => by
    simp only [gc]
    split
    · rename_i hc
      obtain ⟨h1, h2⟩ := pop_ok hst hch hu0 hc.1 hc.2.2
      exact gc_ok hu0 h1 h2 hc.2.1
    · exact ⟨hst, hch, hu⟩

theorem Env.get_mem : ∀ {e : Env} {s : Nat} {d : Dat}, Env.get e s = some d → d ∈ e.map (·.2)
  | [], _, _, h => by simp [Env.get_nil, Env.get_cons] at h
  | (m, c) :: r, s, d, h => by
    simp only [Env.get_nil, Env.get_cons] at h
    split at h
    · injection h with h
      subst h
      simp
    · exact List.mem_cons_of_mem _ (Env.get_mem h)
theorem keep_vals : ∀ {e : Env} {l : List Nat} {d : Dat}, d ∈ (Env.keep e l).map (·.2) → ∃ s, Env.get e s = some d
  | e, [], d, h => by simp [Env.keep] at h
  | e, n :: l, d, h => by
    simp only [Env.keep] at h
    split at h
    · rename_i c hc
      rcases List.mem_cons.1 h with rfl | h
      · exact ⟨n, hc⟩
      · exact keep_vals h
    · exact keep_vals h

theorem Fr.gc (h : Fr N ntmps σ0 g0 w0 e σ a w g) (hu0 : ∀ id c, St.get σ0 id = some c → Dat.underL σ0.length c = true) (l : List Nat) :
    Fr N ntmps σ0 g0 w0 (Env.keep e l) (Go.Mir.gc σ0.length ((Env.keep e l).map (·.2)) σ) a w g := by
  have hu : Dat.underL σ.length ((Env.keep e l).map (·.2)) = true := underL_mk fun d hd => by
    obtain ⟨s, hs⟩ := keep_vals hd
    obtain ⟨v, _, _, _, hu⟩ := h.env s d hs
    exact hu
  obtain ⟨h1, h2, h3⟩ := gc_ok hu0 h.st h.ch hu
  refine ⟨fun s d hd => ?_, h1, h2, h.lb, h.defers, h.tsize⟩
  obtain ⟨v, hv, hr, ho, _⟩ := (h.keep l).env s d hd
  exact ⟨v, hv, hr, ho, underL_mem h3 d (Env.get_mem hd)⟩
end
end Go.Mir
