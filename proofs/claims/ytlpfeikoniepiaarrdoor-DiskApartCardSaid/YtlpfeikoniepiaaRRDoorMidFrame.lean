/- The frame: what the slots and the variables of a call stand for, and what the call has changed. -/
import Derived.Test.YtlpfeikoniepiaaRRDoorMidRep
set_option linter.all false
namespace Go.Mir
set_option linter.unusedVariables false
set_option linter.unusedSimpArgs false
set_option linter.unusedSectionVars false

/-- The room behind a slice is the holder's at π. -/
def OwnAt (g : Gh) (w : World) (π : Place) (xs : List (List Dat)) (v : Value) : Prop :=
  ∃ A c, v = .slice A xs.length c ∧ (c = xs.length ∨ ∃ b m cs T, A = some ⟨b, 0, none⟩ ∧ xs ≠ [] ∧ g.lock b = some π ∧
    w.heap[b]? = some (.cells cs T (0, 0)) ∧ c * m ≤ cs.size ∧ g.prot b = xs.length * m ∧ ∀ x ∈ xs, x.length = m)
def Own (g : Gh) (w : World) (π : Nat → Place) : Dat → Value → Prop
  | .slice true xs, v => OwnAt g w (π 0) xs v
  | .tup cs, v => ∀ vs : List Value, v = .tuple vs.toArray → ∀ (i : Nat) xs u, cs[i]? = some (.slice true xs) → vs[i]? = some u → OwnAt g w (π i) xs u
  | _, _ => True

def Same (g : Gh) (w : World) (g' : Gh) (w' : World) (b : Nat) : Prop := w'.heap[b]? = w.heap[b]? ∧ g'.prot b = g.prot b ∧ g'.lock b = g.lock b

theorem OwnAt.same {g g' : Gh} {w w' : World} {π : Place} {xs : List (List Dat)} {v : Value} (h : OwnAt g w π xs v) (hs : ∀ b, g.lock b = some π → Same g w g' w' b) : OwnAt g' w' π xs v := by
  obtain ⟨A, c, hv, h⟩ := h
  refine ⟨A, c, hv, h.imp id ?_⟩
  rintro ⟨b, m, cs, T, hA, hx, hl, hh, hc, hp, hm⟩
  obtain ⟨h1, h2, h3⟩ := hs b hl
  exact ⟨b, m, cs, T, hA, hx, h3.trans hl, h1.trans hh, hc, h2.trans hp, hm⟩
theorem Own.same {g g' : Gh} {w w' : World} {π : Nat → Place} {d : Dat} {v : Value} (h : Own g w π d v) (hs : ∀ b i, g.lock b = some (π i) → Same g w g' w' b) : Own g' w' π d v := by
  cases d <;> try trivial
  · simp only [Own] at h ⊢
    intro vs hv i xs u hd hu
    exact (h vs hv i xs u hd hu).same fun b hb => hs b i hb
  · rename_i own xs
    cases own
    · trivial
    · simp only [Own] at h ⊢
      exact h.same fun b hb => hs b 0 hb

def Gh.map (g : Gh) (φ : Place → Place) : Gh := { g with lock := fun b => (g.lock b).map φ }
theorem OwnAt.map {g : Gh} {w : World} {π : Place} {xs : List (List Dat)} {v : Value} (φ : Place → Place) (h : OwnAt g w π xs v) : OwnAt (g.map φ) w (φ π) xs v := by
  obtain ⟨A, c, hv, h⟩ := h
  refine ⟨A, c, hv, h.imp id ?_⟩
  rintro ⟨b, m, cs, T, hA, hx, hl, hh, hc, hp, hm⟩
  exact ⟨b, m, cs, T, hA, hx, by simp [Gh.map, hl], hh, hc, hp, hm⟩
theorem Own.map {g : Gh} {w : World} {π π' : Nat → Place} {d : Dat} {v : Value} (φ : Place → Place) (hπ : ∀ i, φ (π i) = π' i) (h : Own g w π d v) : Own (g.map φ) w π' d v := by
  cases d <;> try trivial
  · simp only [Own] at h ⊢
    intro vs hv i xs u hd hu
    rw [← hπ]
    exact (h vs hv i xs u hd hu).map φ
  · rename_i own xs
    cases own
    · trivial
    · simp only [Own] at h ⊢
      rw [← hπ]
      exact h.map φ
theorem Ext.map {N : Nat} {g : Gh} {w : World} (φ : Place → Place) : Ext N g w (g.map φ) w := ⟨fun _ _ _ _ h => h, fun _ => Nat.le_refl _, fun _ _ => rfl⟩

theorem Own_strip1 {g : Gh} {w : World} {π : Nat → Place} {d : Dat} {v : Value} (hc : ∀ cs, d ≠ .tup cs) : Own g w π d.strip1 v := by
  cases d <;> first | trivial | exact absurd rfl (hc _)
theorem Own_strip {g : Gh} {w : World} {π : Nat → Place} {d : Dat} {v : Value} : Own g w π d.strip v := by
  cases d <;> try trivial
  simp only [Dat.strip, Own]
  intro vs hv i xs u hd hu
  rw [List.getElem?_map, Option.map_eq_some_iff] at hd
  obtain ⟨c, _, hc⟩ := hd
  cases c <;> simp [Dat.strip1] at hc
/-- a copy that may stand anywhere -/
theorem Own_safe {g : Gh} {w : World} {π : Nat → Place} {d : Dat} {v : Value} (hr : Rep g w d v) (hs : d.safe = true) : Own g w π d v := by
  cases d <;> try trivial
  rename_i own xs
  cases own
  · trivial
  · simp only [Dat.safe, Bool.not_true, Bool.false_or, List.isEmpty_iff] at hs
    subst hs
    simp only [Rep] at hr
    obtain ⟨A, c, hv, _, h0, _⟩ := hr
    exact ⟨A, c, hv, .inl (by simpa using h0)⟩

theorem St.get_lt : ∀ {σ : St} {id : Nat} {c : List Dat}, St.get σ id = some c → id < σ.length
  | [], id, c, h => by simp [St.get_nil, St.get_cons] at h
  | x :: r, id, c, h => by
    simp only [St.get_nil, St.get_cons] at h
    split at h
    · simp only [List.length_cons]; omega
    · have := St.get_lt h; simp only [List.length_cons]; omega
theorem St.get_some : ∀ {σ : St} {id : Nat}, id < σ.length → ∃ c, St.get σ id = some c
  | [], id, h => by simp at h
  | x :: r, id, h => by
    simp only [St.get_nil, St.get_cons]
    split
    · exact ⟨x, rfl⟩
    · exact St.get_some (by simp only [List.length_cons] at h; omega)
theorem St.set_length : ∀ (σ : St) (id : Nat) (d : List Dat), (St.set σ id d).length = σ.length
  | [], _, _ => rfl
  | x :: r, id, d => by
    simp only [St.set_nil, St.set_cons]
    split
    · simp
    · simp [St.set_length r id d]
theorem St.get_set_same : ∀ {σ : St} {id : Nat} (d : List Dat), id < σ.length → St.get (St.set σ id d) id = some d
  | [], id, d, h => by simp at h
  | x :: r, id, d, h => by
    by_cases e : id = r.length
    · simp [St.set_nil, St.set_cons, e, St.get_nil, St.get_cons]
    · have hl := St.set_length r id d
      simp only [St.set_nil, St.set_cons, e, if_false, St.get_nil, St.get_cons, hl]
      exact St.get_set_same d (by simp only [List.length_cons] at h; omega)
theorem St.get_set_other : ∀ {σ : St} {id j : Nat} (d : List Dat), j ≠ id → St.get (St.set σ id d) j = St.get σ j
  | [], id, j, d, h => rfl
  | x :: r, id, j, d, h => by
    by_cases e : id = r.length
    · subst e
      simp [St.set_nil, St.set_cons, St.get_nil, St.get_cons, h]
    · have hl := St.set_length r id d
      simp only [St.set_nil, St.set_cons, e, if_false, St.get_nil, St.get_cons, hl]
      rw [St.get_set_other d h]
theorem St.get_cons_old {σ : St} {id : Nat} {c : List Dat} (h : id < σ.length) : St.get (c :: σ) id = St.get σ id := by
  simp only [St.get_nil, St.get_cons]
  rw [if_neg (by omega)]

/-- The variables. -/
structure StOk (g : Gh) (w : World) (σ : St) : Prop where
  var : ∀ id c, St.get σ id = some c → ∃ vs T, w.heap[g.ρ id]? = some (.cells (vs : List Value).toArray T (0, 0)) ∧ RepL g w c vs ∧
    ∀ (i : Nat) d v, c[i]? = some d → vs[i]? = some v → d.isCell = true ∧ Own g w (fun _ => .var id i) d v
  under : ∀ id c, St.get σ id = some c → Dat.underL σ.length c = true
  inj : ∀ i j, i < σ.length → j < σ.length → g.ρ i = g.ρ j → i = j
  free : ∀ id, id < σ.length → g.prot (g.ρ id) = 0 ∧ g.lock (g.ρ id) = none
  fresh : ∀ b, w.heap.size ≤ b → g.prot b = 0 ∧ g.lock b = none

theorem StOk.lt {g : Gh} {w : World} {σ : St} (h : StOk g w σ) {id : Nat} (hid : id < σ.length) : g.ρ id < w.heap.size := by
  obtain ⟨c, hc⟩ := St.get_some hid
  obtain ⟨vs, T, hh, _⟩ := h.var id c hc
  rcases Nat.lt_or_ge (g.ρ id) w.heap.size with h' | h'
  · exact h'
  · simp [Array.getElem?_eq_none h'] at hh

/-- Not a variable's, not a variable's row's: what a call that gets these variables leaves as it is. -/
def Foreign (σ : St) (g : Gh) (w : World) (b : Nat) : Prop := b < w.heap.size ∧ (∀ id, id < σ.length → g.ρ id ≠ b) ∧ ∀ id i, g.lock b ≠ some (.var id i)

structure Ch (σ0 : St) (g0 : Gh) (w0 : World) (σ : St) (g : Gh) (w : World) : Prop where
  os : w.os = w0.os
  tape : w.tape = w0.tape
  output : w.output = w0.output
  size : w0.heap.size ≤ w.heap.size
  ext : Ext σ0.length g0 w0 g w
  len : σ0.length ≤ σ.length
  keep : ∀ b, Foreign σ0 g0 w0 b → Same g0 w0 g w b
  new : ∀ id, σ0.length ≤ id → id < σ.length → w0.heap.size ≤ g.ρ id
  low : ∀ n, n ≤ σ0.length → (∀ id c, id < n → St.get σ0 id = some c → Dat.underL n c = true) → ∀ id c, id < n → St.get σ id = some c → Dat.underL n c = true

theorem Ch.refl (σ : St) (g : Gh) (w : World) : Ch σ g w σ g w := ⟨rfl, rfl, rfl, Nat.le_refl _, Ext.refl _ _ _, Nat.le_refl _, fun _ _ => ⟨rfl, rfl, rfl⟩, fun _ h h' => by omega, fun _ _ h => h⟩
theorem Ch.foreign {σ0 σ : St} {g0 g : Gh} {w0 w : World} (h : Ch σ0 g0 w0 σ g w) {b : Nat} (hb : Foreign σ0 g0 w0 b) : Foreign σ g w b := by
  obtain ⟨h1, h2, h3⟩ := hb
  obtain ⟨k1, k2, k3⟩ := h.keep b ⟨h1, h2, h3⟩
  refine ⟨Nat.lt_of_lt_of_le h1 h.size, fun id hid e => ?_, fun id i e => h3 id i (k3.symm.trans e)⟩
  rcases Nat.lt_or_ge id σ0.length with hlt | hge
  · exact h2 id hlt ((h.ext.rho id hlt).symm.trans e)
  · have := h.new id hge hid; omega
theorem Ch.trans {σ0 σ1 σ2 : St} {g0 g1 g2 : Gh} {w0 w1 w2 : World} (h : Ch σ0 g0 w0 σ1 g1 w1) (k : Ch σ1 g1 w1 σ2 g2 w2) : Ch σ0 g0 w0 σ2 g2 w2 := by
  refine ⟨k.os.trans h.os, k.tape.trans h.tape, k.output.trans h.output, Nat.le_trans h.size k.size, h.ext.trans (k.ext.mono h.len), Nat.le_trans h.len k.len, fun b hb => ?_, fun id h0 h2 => ?_, fun n hn hh => k.low n (Nat.le_trans hn h.len) (h.low n hn hh)⟩
  · obtain ⟨a1, a2, a3⟩ := h.keep b hb
    obtain ⟨b1, b2, b3⟩ := k.keep b (h.foreign hb)
    exact ⟨b1.trans a1, b2.trans a2, b3.trans a3⟩
  · rcases Nat.lt_or_ge id σ1.length with hlt | hge
    · rw [k.ext.rho id hlt]; exact h.new id h0 hlt
    · exact Nat.le_trans h.size (k.new id hge h2)

def Place.low (N : Nat) : Place → Prop
  | .slot m _ _ => m ≤ N
  | .away m _ _ => m ≤ N
  | .var _ _ => True
def LB (N : Nat) (g : Gh) : Prop := ∀ b π, g.lock b = some π → π.low N

/-- One slot. -/
def SlotOk (N n : Nat) (g : Gh) (w : World) (s : Nat) (d : Dat) (v : Value) : Prop :=
  Rep g w d v ∧ Own g w (fun i => .slot N s i) d v ∧ d.under n = true
def EnvOk (N n : Nat) (g : Gh) (w : World) (e : Env) (tmps : Array Value) : Prop :=
  ∀ s d, Env.get e s = some d → ∃ v, tmps[s]? = some v ∧ SlotOk N n g w s d v

theorem Env.get_put_same (e : Env) (n : Nat) (d : Dat) : Env.get (Env.put e n d) n = some d := by simp [Env.put, Env.get_cons]
theorem Env.get_put_other (e : Env) {n s : Nat} (d : Dat) (h : s ≠ n) : Env.get (Env.put e n d) s = Env.get e s := by simp [Env.put, Env.get_cons, Ne.symm h]
theorem Env.get_keep {e : Env} {n : Nat} {d : Dat} : ∀ {l : List Nat}, Env.get (Env.keep e l) n = some d → Env.get e n = some d
  | [], h => by simp [Env.keep, Env.get_nil, Env.get_cons] at h
  | m :: l, h => by
    simp only [Env.keep] at h
    split at h
    · rename_i c hc
      simp only [Env.get_nil, Env.get_cons] at h
      split at h
      · rename_i hmn
        subst hmn
        rw [hc]; exact h
      · exact Env.get_keep h
    · exact Env.get_keep h

/-- The frame of a call that began at (σ0, g0, w0). -/
structure Fr (N ntmps : Nat) (σ0 : St) (g0 : Gh) (w0 : World) (e : Env) (σ : St) (a : Act) (w : World) (g : Gh) : Prop where
  env : EnvOk N σ.length g w e a.tmps
  st : StOk g w σ
  ch : Ch σ0 g0 w0 σ g w
  lb : LB N g
  defers : a.defers = []
  tsize : ntmps ≤ a.tmps.size

/-- What an operation leaves: its value v stands for d; the slots but the one that is written, and the variables. -/
structure Left (N : Nat) (σ0 : St) (g0 : Gh) (w0 : World) (dst : Option Nat) (d : Dat) (v : Value) (e : Env) (σ : St) (tmps : Array Value) (w : World) (g : Gh) : Prop where
  env : ∀ s c, Env.get e s = some c → dst ≠ some s → ∃ u, tmps[s]? = some u ∧ SlotOk N σ.length g w s c u
  val : ∀ s, dst = some s → SlotOk N σ.length g w s d v
  st : StOk g w σ
  ch : Ch σ0 g0 w0 σ g w
  lb : LB N g

theorem Left.fr {N ntmps : Nat} {σ0 : St} {g0 : Gh} {w0 : World} {dst : Option Nat} {d : Dat} {v : Value} {e : Env} {σ : St} {a : Act} {w : World} {g : Gh}
    (h : Left N σ0 g0 w0 dst d v e σ a.tmps w g) (hd : a.defers = []) (ht : ntmps ≤ a.tmps.size) (hlt : ∀ s, dst = some s → s < ntmps) :
    Fr N ntmps σ0 g0 w0 (putD e dst d) σ (a.put dst v) w g := by
  cases dst with
  | none => exact ⟨fun s c hc => h.env s c hc (by simp), h.st, h.ch, h.lb, hd, ht⟩
  | some s =>
    refine ⟨fun t c hc => ?_, h.st, h.ch, h.lb, hd, by simpa [Act.put] using ht⟩
    have hs := hlt s rfl
    simp only [putD] at hc
    by_cases e1 : t = s
    · subst e1
      rw [Env.get_put_same] at hc
      injection hc with hc
      subst hc
      exact ⟨v, by simp [Act.put, show t < a.tmps.size by omega], h.val t rfl⟩
    · rw [Env.get_put_other _ _ e1] at hc
      obtain ⟨u, hu, hok⟩ := h.env t c hc (by simpa using Ne.symm e1)
      exact ⟨u, by simp [Act.put, Array.getElem?_setIfInBounds_ne (Ne.symm e1), hu], hok⟩

/-- An operation that leaves world, ghost, slots and variables as they are. -/
theorem Fr.left {N ntmps : Nat} {σ0 : St} {g0 : Gh} {w0 : World} {e : Env} {σ : St} {a : Act} {w : World} {g : Gh} (h : Fr N ntmps σ0 g0 w0 e σ a w g)
    {dst : Option Nat} {d : Dat} {v : Value} (hr : Rep g w d v) (ho : ∀ s, dst = some s → Own g w (fun i => .slot N s i) d v) (hu : d.under σ.length = true) :
    Left N σ0 g0 w0 dst d v e σ a.tmps w g :=
  ⟨fun s c hc _ => h.env s c hc, fun s hs => ⟨hr, ho s hs, hu⟩, h.st, h.ch, h.lb⟩

/-! ### a move of room from place to place -/
theorem StOk.map {g : Gh} {w : World} {σ : St} (h : StOk g w σ) (φ : Place → Place) (hφ : ∀ id i, φ (.var id i) = .var id i) : StOk (g.map φ) w σ := by
  refine ⟨fun id c hc => ?_, h.under, h.inj, fun id hid => ⟨(h.free id hid).1, by simp [Gh.map, (h.free id hid).2]⟩, fun b hb => ⟨(h.fresh b hb).1, by simp [Gh.map, (h.fresh b hb).2]⟩⟩
  obtain ⟨vs, T, hh, hl, ho⟩ := h.var id c hc
  refine ⟨vs, T, hh, RepL_ext (N := σ.length) (Ext.map φ) c vs (h.under id c hc) hl, fun i d v hd hv => ?_⟩
  obtain ⟨h1, h2⟩ := ho i d v hd hv
  exact ⟨h1, h2.map φ fun _ => hφ id i⟩
theorem LB.map {N : Nat} {g : Gh} (h : LB N g) (φ : Place → Place) (hφ : ∀ π : Place, π.low N → (φ π).low N) : LB N (g.map φ) := by
  intro b π hb
  simp only [Gh.map, Option.map_eq_some_iff] at hb
  obtain ⟨π', hπ, rfl⟩ := hb
  exact hφ π' (h b π' hπ)
/-- the rows of the callers stay where they are -/
def Keeps (N : Nat) (φ : Place → Place) : Prop := (∀ m s i, m < N → φ (.slot m s i) = .slot m s i) ∧ ∀ m s i, φ (.away m s i) = .away m s i
theorem Ch.map {N : Nat} {σ0 σ : St} {g0 g : Gh} {w0 w : World} (h : Ch σ0 g0 w0 σ g w) (h0 : LB (N - 1) g0) (hN : 0 < N) (φ : Place → Place) (hφ : Keeps N φ) :
    Ch σ0 g0 w0 σ (g.map φ) w := by
  refine ⟨h.os, h.tape, h.output, h.size, ⟨h.ext.cell, h.ext.prot, h.ext.rho⟩, h.len, fun b hb => ?_, h.new, h.low⟩
  obtain ⟨k1, k2, k3⟩ := h.keep b hb
  refine ⟨k1, k2, ?_⟩
  show (g.lock b).map φ = g0.lock b
  rw [k3]
  cases hl : g0.lock b with
  | none => rfl
  | some π =>
    have hlow := h0 b π hl
    cases π with
    | slot m s i => simp only [Place.low] at hlow; simp only [Option.map_some]; rw [hφ.1 m s i (by omega)]
    | away m s i => simp only [Option.map_some]; rw [hφ.2 m s i]
    | var id i => exact absurd hl (hb.2.2 id i)

/-- slot t's room goes to slot s -/
def slotTo (N t s : Nat) : Place → Place
  | .slot m q i => if m = N ∧ q = t then .slot N s i else .slot m q i
  | π => π
theorem slotTo_lt {N t s m q i : Nat} (h : m < N) : slotTo N t s (.slot m q i) = .slot m q i := by simp [slotTo, show ¬ m = N by omega]
theorem slotTo_other {N t s q i : Nat} (h : q ≠ t) : slotTo N t s (.slot N q i) = .slot N q i := by simp [slotTo, h]
theorem slotTo_same {N t s i : Nat} : slotTo N t s (.slot N t i) = .slot N s i := by simp [slotTo]
theorem LB.slotTo {N t s : Nat} {g : Gh} (h : LB N g) : LB N (g.map (Go.Mir.slotTo N t s)) := by
  refine h.map _ fun π hπ => ?_
  cases π <;> simp only [Go.Mir.slotTo] <;> try exact hπ
  split
  · exact Nat.le_refl _
  · exact hπ
theorem keeps_slotTo {N t s : Nat} : Keeps N (Go.Mir.slotTo N t s) := ⟨fun _ _ _ hm => slotTo_lt hm, fun _ _ _ => rfl⟩

section
variable {N ntmps : Nat} {σ0 : St} {g0 : Gh} {w0 : World} {e : Env} {σ : St} {a : Act} {w : World} {g : Gh}

/-- 'x' is taken along into the slot that is written. -/
theorem Fr.take_slot (h : Fr N ntmps σ0 g0 w0 e σ a w g) (h0 : LB (N - 1) g0) (hN : 0 < N) {t s : Nat} {d : Dat} (ht : Env.get e t = some d) :
    ∃ v, a.tmps[t]? = some v ∧ Left N σ0 g0 w0 (some s) d v (Env.put e t d.strip) σ a.tmps w (g.map (slotTo N t s)) := by
  obtain ⟨v, hv, hr, ho, hu⟩ := h.env t d ht
  refine ⟨v, hv, ⟨fun q c hc hq => ?_, fun q hq => ?_, h.st.map _ (fun _ _ => rfl), h.ch.map h0 hN _ keeps_slotTo, h.lb.slotTo⟩⟩
  · by_cases hqt : q = t
    · subst hqt
      rw [Env.get_put_same] at hc
      injection hc with hc
      subst hc
      exact ⟨v, hv, Rep_ext (N := σ.length) (Ext.map _) _ _ (by rw [under_strip]; exact hu) (Rep_strip hr), Own_strip, by rw [under_strip]; exact hu⟩
    · rw [Env.get_put_other _ _ hqt] at hc
      obtain ⟨u, hu1, hr1, ho1, hu2⟩ := h.env q c hc
      exact ⟨u, hu1, Rep_ext (N := σ.length) (Ext.map _) _ _ hu2 hr1, ho1.map _ (fun i => slotTo_other hqt), hu2⟩
  · injection hq with hq
    subst hq
    exact ⟨Rep_ext (N := σ.length) (Ext.map _) _ _ hu hr, ho.map _ (fun i => slotTo_same), hu⟩
end
end Go.Mir
