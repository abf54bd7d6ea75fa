/- What a pure value stands for in a world. -/
import Derived.Test.YtlpfeikoniepiaaRRDoorMidDef
import Derived.Below
import Derived.Laws.Rows
import Derived.Laws.Tables
import Derived.Laws.OwnMore
set_option linter.all false
namespace Go.Mir
set_option linter.unusedVariables false
set_option linter.unusedSimpArgs false
set_option linter.unusedSectionVars false

inductive Place where
  | slot (fr s i : Nat)
  | var (id i : Nat)
  | away (fr id i : Nat)
  deriving DecidableEq

/-- The ghost: where the variables lie, how far each block is written for good, who may write behind that. -/
structure Gh where
  ρ : Nat → Nat
  prot : Nat → Nat
  lock : Nat → Option Place

def Dat.isCell : Dat → Bool
  | .agg _ | .tup _ | .undef => false
  | _ => true

mutual
def Rep (g : Gh) (w : World) : Dat → Value → Prop
  | .undef, v => v = undef
  | .int k n, v => v = .int k n
  | .bool b, v => v = .bool b
  | .str s, v => v = .string ⟨s.toArray⟩
  | .agg cs, v => ∃ vs : List Value, v = .agg vs.toArray ∧ RepL g w cs vs ∧ cs.all Dat.isCell = true
  | .tup cs, v => ∃ vs : List Value, v = .tuple vs.toArray ∧ RepL g w cs vs ∧ cs.all Dat.noTup = true
  | .slice own xs, v => ∃ A c, v = .slice A xs.length c ∧ xs.length ≤ c ∧ (own = true → xs = [] → c = 0) ∧
      (xs ≠ [] → ∃ b off m, A = some ⟨b, off, none⟩ ∧ off + xs.length * m ≤ g.prot b ∧ RepRows g w b off m xs)
  | .nilp, v => v = .pointer none
  | .ptr id off, v => v = .pointer (some ⟨g.ρ id, off, none⟩)
  | .rptr cs, v => ∃ b off, v = .pointer (some ⟨b, off, none⟩) ∧ off + cs.length ≤ g.prot b ∧ RepAt g w b off cs
  | .fn f caps, v => ∃ vs : List Value, v = .func (.func f) #[] vs.toArray ∧ RepL g w caps vs
  | .nilf, v => v = .nilFunc
  | .iface t d, v => ∃ u, v = .iface t u ∧ Rep g w d u
  | .nili, v => v = .nilIface
def RepL (g : Gh) (w : World) : List Dat → List Value → Prop
  | [], vs => vs = []
  | d :: r, vs => ∃ v vr, vs = v :: vr ∧ Rep g w d v ∧ RepL g w r vr
def RepAt (g : Gh) (w : World) (b off : Nat) : List Dat → Prop
  | [] => True
  | d :: r => (∃ u, w.cell? ⟨b, off, none⟩ = some u ∧ d.isCell = true ∧ Rep g w d u) ∧ RepAt g w b (off + 1) r
def RepRows (g : Gh) (w : World) (b off m : Nat) : List (List Dat) → Prop
  | [] => True
  | x :: r => (x.length = m ∧ RepAt g w b off x) ∧ RepRows g w b (off + m) m r
end

/-! ### pointwise -/
section
variable {g : Gh} {w : World}
theorem RepL_len : ∀ {cs : List Dat} {vs : List Value}, RepL g w cs vs → vs.length = cs.length
  | [], vs, h => by simp only [RepL] at h; simp [h]
  | d :: r, vs, h => by
    simp only [RepL] at h
    obtain ⟨v, vr, rfl, _, hr⟩ := h
    simp [RepL_len hr]
theorem RepL_get : ∀ {cs : List Dat} {vs : List Value}, RepL g w cs vs → ∀ {i : Nat} {d : Dat}, cs[i]? = some d → ∃ v, vs[i]? = some v ∧ Rep g w d v
  | [], vs, h, i, d, hd => by simp at hd
  | c :: r, vs, h, i, d, hd => by
    simp only [RepL] at h
    obtain ⟨v, vr, rfl, hv, hr⟩ := h
    cases i with
    | zero => simp at hd; subst hd; exact ⟨v, rfl, hv⟩
    | succ i => simpa using RepL_get hr (by simpa using hd)
theorem RepL_mk : ∀ {cs : List Dat} {vs : List Value}, vs.length = cs.length → (∀ (i : Nat) (d : Dat) (v : Value), cs[i]? = some d → vs[i]? = some v → Rep g w d v) → RepL g w cs vs
  | [], vs, hl, _ => by simp only [RepL]; exact List.eq_nil_of_length_eq_zero (by simpa using hl)
  | c :: r, [], hl, _ => by simp at hl
  | c :: r, v :: vr, hl, h => by
    simp only [RepL]
    exact ⟨v, vr, rfl, h 0 c v rfl rfl, RepL_mk (by simpa using hl) fun i d u hd hu => h (i + 1) d u (by simpa using hd) (by simpa using hu)⟩
theorem RepAt_get : ∀ {cs : List Dat} {b off : Nat}, RepAt g w b off cs → ∀ {i : Nat} {d : Dat}, cs[i]? = some d → ∃ u, w.cell? ⟨b, off + i, none⟩ = some u ∧ d.isCell = true ∧ Rep g w d u
  | [], b, off, h, i, d, hd => by simp at hd
  | c :: r, b, off, h, i, d, hd => by
    simp only [RepAt] at h
    obtain ⟨hc, hr⟩ := h
    cases i with
    | zero => simp at hd; subst hd; exact hc
    | succ i =>
      have := RepAt_get hr (i := i) (by simpa using hd)
      rwa [show off + 1 + i = off + (i + 1) by omega] at this
theorem RepAt_mk : ∀ {cs : List Dat} {b off : Nat}, (∀ (i : Nat) (d : Dat), cs[i]? = some d → ∃ u, w.cell? ⟨b, off + i, none⟩ = some u ∧ d.isCell = true ∧ Rep g w d u) → RepAt g w b off cs
  | [], b, off, _ => by simp only [RepAt]
  | c :: r, b, off, h => by
    simp only [RepAt]
    refine ⟨by simpa using h 0 c rfl, RepAt_mk fun i d hd => ?_⟩
    rw [show off + 1 + i = off + (i + 1) by omega]
    exact h (i + 1) d (by simpa using hd)
theorem RepRows_get : ∀ {xs : List (List Dat)} {b off m : Nat}, RepRows g w b off m xs → ∀ {i : Nat} {x : List Dat}, xs[i]? = some x → x.length = m ∧ RepAt g w b (off + i * m) x
  | [], b, off, m, h, i, x, hx => by simp at hx
  | y :: r, b, off, m, h, i, x, hx => by
    simp only [RepRows] at h
    obtain ⟨hy, hr⟩ := h
    cases i with
    | zero => simp at hx; subst hx; simpa using hy
    | succ i =>
      have := RepRows_get hr (i := i) (by simpa using hx)
      rwa [show off + m + i * m = off + (i + 1) * m by rw [Nat.add_mul]; omega] at this
theorem RepRows_mk : ∀ {xs : List (List Dat)} {b off m : Nat}, (∀ (i : Nat) (x : List Dat), xs[i]? = some x → x.length = m ∧ RepAt g w b (off + i * m) x) → RepRows g w b off m xs
  | [], b, off, m, _ => by simp only [RepRows]
  | y :: r, b, off, m, h => by
    simp only [RepRows]
    refine ⟨by simpa using h 0 y rfl, RepRows_mk fun i x hx => ?_⟩
    rw [show off + m + i * m = off + (i + 1) * m by rw [Nat.add_mul]; omega]
    exact h (i + 1) x (by simpa using hx)
theorem RepL_cons {d : Dat} {r : List Dat} {v : Value} {vr : List Value} (h : Rep g w d v) (hr : RepL g w r vr) : RepL g w (d :: r) (v :: vr) := by
  simp only [RepL]; exact ⟨v, vr, rfl, h, hr⟩
theorem RepL_append {cs ds : List Dat} {vs us : List Value} (h : RepL g w cs vs) (h' : RepL g w ds us) : RepL g w (cs ++ ds) (vs ++ us) := by
  induction cs generalizing vs with
  | nil => simp only [RepL] at h; subst h; exact h'
  | cons d r ih =>
    simp only [RepL] at h
    obtain ⟨v, vr, rfl, hv, hr⟩ := h
    exact RepL_cons hv (ih hr)
end

/-! ### what is kept -/
structure Ext (N : Nat) (g : Gh) (w : World) (g' : Gh) (w' : World) : Prop where
  cell : ∀ b off u, off < g.prot b → w.cell? ⟨b, off, none⟩ = some u → w'.cell? ⟨b, off, none⟩ = some u
  prot : ∀ b, g.prot b ≤ g'.prot b
  rho : ∀ id, id < N → g'.ρ id = g.ρ id
theorem Ext.refl (N : Nat) (g : Gh) (w : World) : Ext N g w g w := ⟨fun _ _ _ _ h => h, fun _ => Nat.le_refl _, fun _ _ => rfl⟩
theorem Ext.trans {N : Nat} {g g1 g2 : Gh} {w w1 w2 : World} (h : Ext N g w g1 w1) (k : Ext N g1 w1 g2 w2) : Ext N g w g2 w2 :=
  ⟨fun b off u ho hc => k.cell b off u (Nat.lt_of_lt_of_le ho (h.prot b)) (h.cell b off u ho hc), fun b => Nat.le_trans (h.prot b) (k.prot b), fun id hid => (k.rho id hid).trans (h.rho id hid)⟩
theorem Ext.mono {N M : Nat} {g g1 : Gh} {w w1 : World} (h : Ext N g w g1 w1) (hm : M ≤ N) : Ext M g w g1 w1 := ⟨h.cell, h.prot, fun id hid => h.rho id (by omega)⟩

section
variable {N : Nat} {g g' : Gh} {w w' : World} (h : Ext N g w g' w')
include h
mutual
theorem Rep_ext : ∀ (d : Dat) (v : Value), d.under N = true → Rep g w d v → Rep g' w' d v
  | .undef, v, _, hr => by simp only [Rep] at hr ⊢; exact hr
  | .int k n, v, _, hr => by simp only [Rep] at hr ⊢; exact hr
  | .bool b, v, _, hr => by simp only [Rep] at hr ⊢; exact hr
  | .str s, v, _, hr => by simp only [Rep] at hr ⊢; exact hr
  | .nilp, v, _, hr => by simp only [Rep] at hr ⊢; exact hr
  | .nilf, v, _, hr => by simp only [Rep] at hr ⊢; exact hr
  | .nili, v, _, hr => by simp only [Rep] at hr ⊢; exact hr
  | .agg cs, v, hu, hr => by
    simp only [Rep] at hr ⊢
    obtain ⟨vs, hv, hl, hc⟩ := hr
    exact ⟨vs, hv, RepL_ext cs vs (by simpa [Dat.under] using hu) hl, hc⟩
  | .tup cs, v, hu, hr => by
    simp only [Rep] at hr ⊢
    obtain ⟨vs, hv, hl, hn⟩ := hr
    exact ⟨vs, hv, RepL_ext cs vs (by simpa [Dat.under] using hu) hl, hn⟩
  | .slice own xs, v, hu, hr => by
    simp only [Rep] at hr ⊢
    obtain ⟨A, c, hv, hc, ho, hx⟩ := hr
    refine ⟨A, c, hv, hc, ho, fun hne => ?_⟩
    obtain ⟨b, off, m, hA, hp, hrows⟩ := hx hne
    exact ⟨b, off, m, hA, Nat.le_trans hp (h.prot b), RepRows_ext b off m xs (by simpa [Dat.under] using hu) hp hrows⟩
  | .ptr id off, v, hu, hr => by
    simp only [Rep] at hr ⊢
    rw [h.rho id (by simpa [Dat.under] using hu)]
    exact hr
  | .rptr cs, v, hu, hr => by
    simp only [Rep] at hr ⊢
    obtain ⟨b, off, hv, hp, hat⟩ := hr
    exact ⟨b, off, hv, Nat.le_trans hp (h.prot b), RepAt_ext b off cs (by simpa [Dat.under] using hu) hp hat⟩
  | .fn f caps, v, hu, hr => by
    simp only [Rep] at hr ⊢
    obtain ⟨vs, hv, hl⟩ := hr
    exact ⟨vs, hv, RepL_ext caps vs (by simpa [Dat.under] using hu) hl⟩
  | .iface t d, v, hu, hr => by
    simp only [Rep] at hr ⊢
    obtain ⟨u, hv, hl⟩ := hr
    exact ⟨u, hv, Rep_ext d u (by simpa [Dat.under] using hu) hl⟩
theorem RepL_ext : ∀ (cs : List Dat) (vs : List Value), Dat.underL N cs = true → RepL g w cs vs → RepL g' w' cs vs
  | [], vs, _, hr => by simp only [RepL] at hr ⊢; exact hr
  | d :: r, vs, hu, hr => by
    simp only [RepL] at hr ⊢
    obtain ⟨v, vr, hv, hd, hl⟩ := hr
    simp only [Dat.underL, Bool.and_eq_true] at hu
    exact ⟨v, vr, hv, Rep_ext d v hu.1 hd, RepL_ext r vr hu.2 hl⟩
theorem RepAt_ext (b off : Nat) : ∀ (cs : List Dat), Dat.underL N cs = true → off + cs.length ≤ g.prot b → RepAt g w b off cs → RepAt g' w' b off cs
  | [], _, _, _ => by simp only [RepAt]
  | d :: r, hu, hp, hr => by
    simp only [RepAt] at hr ⊢
    obtain ⟨⟨u, hc, hcell, hd⟩, hl⟩ := hr
    simp only [Dat.underL, Bool.and_eq_true] at hu
    simp only [List.length_cons] at hp
    exact ⟨⟨u, h.cell b off u (by omega) hc, hcell, Rep_ext d u hu.1 hd⟩, RepAt_ext b (off + 1) r hu.2 (by omega) hl⟩
theorem RepRows_ext (b off m : Nat) : ∀ (xs : List (List Dat)), Dat.underLL N xs = true → off + xs.length * m ≤ g.prot b → RepRows g w b off m xs → RepRows g' w' b off m xs
  | [], _, _, _ => by simp only [RepRows]
  | x :: r, hu, hp, hr => by
    simp only [RepRows] at hr ⊢
    obtain ⟨⟨hm, hat⟩, hl⟩ := hr
    simp only [Dat.underLL, Bool.and_eq_true] at hu
    simp only [List.length_cons, Nat.add_mul, Nat.one_mul] at hp
    exact ⟨⟨hm, RepAt_ext b off x hu.1 (by omega) hat⟩, RepRows_ext b (off + m) m r hu.2 (by omega) hl⟩
end
end

/-! ### handed on -/
theorem Rep_strip1 {g : Gh} {w : World} {d : Dat} {v : Value} (h : Rep g w d v) : Rep g w d.strip1 v := by
  cases d <;> simp only [Dat.strip1] <;> try exact h
  simp only [Rep] at h ⊢
  obtain ⟨A, c, hv, hc, _, hx⟩ := h
  exact ⟨A, c, hv, hc, by simp, hx⟩
theorem RepL_map {g : Gh} {w : World} {f : Dat → Dat} (hf : ∀ d v, Rep g w d v → Rep g w (f d) v) {cs : List Dat} {vs : List Value} (h : RepL g w cs vs) : RepL g w (cs.map f) vs := by
  induction cs generalizing vs with
  | nil => exact h
  | cons d r ih =>
    simp only [RepL] at h
    obtain ⟨v, vr, rfl, hd, hl⟩ := h
    exact RepL_cons (hf d v hd) (ih hl)
theorem Rep_strip {g : Gh} {w : World} {d : Dat} {v : Value} (h : Rep g w d v) : Rep g w d.strip v := by
  cases d <;> simp only [Dat.strip] <;> try exact h
  · simp only [Rep] at h ⊢
    obtain ⟨vs, hv, hl, hn⟩ := h
    refine ⟨vs, hv, RepL_map (fun _ _ => Rep_strip1) hl, ?_⟩
    simp only [List.all_map]
    rw [← hn]
    congr 1
    funext d
    cases d <;> rfl
  · exact Rep_strip1 h
theorem isCell_strip1 (d : Dat) : d.strip1.isCell = d.isCell := by cases d <;> rfl
theorem Rep_norm {g : Gh} {w : World} {d : Dat} {v : Value} (h : Rep g w d v) : Rep g w d.norm v := by
  cases d <;> simp only [Dat.norm] <;> try exact h
  · simp only [Rep] at h ⊢
    obtain ⟨vs, hv, hl, hc⟩ := h
    refine ⟨vs, hv, RepL_map (fun _ _ => Rep_strip1) hl, ?_⟩
    simp only [List.all_map]
    rw [← hc]
    congr 1
    funext d
    exact isCell_strip1 d
  · simp only [Rep] at h ⊢
    obtain ⟨vs, hv, hl, hn⟩ := h
    refine ⟨vs, hv, RepL_map (fun _ _ => Rep_strip1) hl, ?_⟩
    simp only [List.all_map]
    rw [← hn]
    congr 1
    funext d
    cases d <;> rfl
  · exact Rep_strip1 h

theorem under_strip1 {n : Nat} (d : Dat) : d.strip1.under n = d.under n := by cases d <;> simp [Dat.strip1, Dat.under]
theorem underL_map {n : Nat} {f : Dat → Dat} (hf : ∀ d, (f d).under n = d.under n) : ∀ l : List Dat, Dat.underL n (l.map f) = Dat.underL n l
  | [] => rfl
  | d :: r => by simp only [List.map_cons, Dat.underL, hf, underL_map hf r]
theorem under_strip {n : Nat} (d : Dat) : d.strip.under n = d.under n := by
  cases d <;> simp only [Dat.strip, Dat.under]
  exact underL_map under_strip1 _
theorem under_norm {n : Nat} (d : Dat) : d.norm.under n = d.under n := by
  cases d <;> simp only [Dat.norm, Dat.under]
  all_goals exact underL_map under_strip1 _
theorem underL_get {n : Nat} : ∀ {l : List Dat}, Dat.underL n l = true → ∀ {i : Nat} {d : Dat}, l[i]? = some d → d.under n = true
  | [], _, i, d, h => by simp at h
  | c :: r, hu, i, d, h => by
    simp only [Dat.underL, Bool.and_eq_true] at hu
    cases i with
    | zero => simp at h; subst h; exact hu.1
    | succ i => exact underL_get hu.2 (by simpa using h)
theorem underL_mk {n : Nat} : ∀ {l : List Dat}, (∀ d : Dat, d ∈ l → d.under n = true) → Dat.underL n l = true
  | [], _ => rfl
  | c :: r, h => by simp only [Dat.underL, Bool.and_eq_true]; exact ⟨h c (by simp), underL_mk fun d hd => h d (by simp [hd])⟩
theorem underL_mem {n : Nat} : ∀ {l : List Dat}, Dat.underL n l = true → ∀ d : Dat, d ∈ l → d.under n = true
  | [], _, d, h => by simp at h
  | c :: r, hu, d, h => by
    simp only [Dat.underL, Bool.and_eq_true] at hu
    rcases List.mem_cons.1 h with rfl | h
    · exact hu.1
    · exact underL_mem hu.2 d h
theorem underLL_mem {n : Nat} : ∀ {l : List (List Dat)}, Dat.underLL n l = true → ∀ d ∈ l, Dat.underL n d = true
  | [], _, d, h => by simp at h
  | c :: r, hu, d, h => by
    simp only [Dat.underLL, Bool.and_eq_true] at hu
    rcases List.mem_cons.1 h with rfl | h
    · exact hu.1
    · exact underLL_mem hu.2 d h
theorem underLL_mk {n : Nat} : ∀ {l : List (List Dat)}, (∀ d ∈ l, Dat.underL n d = true) → Dat.underLL n l = true
  | [], _ => rfl
  | c :: r, h => by simp only [Dat.underLL, Bool.and_eq_true]; exact ⟨h c (by simp), underLL_mk fun d hd => h d (by simp [hd])⟩
mutual
theorem under_mono {n m : Nat} (hnm : n ≤ m) : ∀ d : Dat, d.under n = true → d.under m = true
  | .undef, _ | .int _ _, _ | .bool _, _ | .str _, _ | .nilp, _ | .nilf, _ | .nili, _ => by simp [Dat.under]
  | .agg cs, h | .tup cs, h | .rptr cs, h => by simp only [Dat.under] at h ⊢; exact underL_mono hnm cs h
  | .fn _ cs, h => by simp only [Dat.under] at h ⊢; exact underL_mono hnm cs h
  | .slice _ xs, h => by simp only [Dat.under] at h ⊢; exact underLL_mono hnm xs h
  | .ptr id _, h => by simp only [Dat.under, decide_eq_true_eq] at h ⊢; omega
  | .iface _ d, h => by simp only [Dat.under] at h ⊢; exact under_mono hnm d h
theorem underL_mono {n m : Nat} (hnm : n ≤ m) : ∀ l : List Dat, Dat.underL n l = true → Dat.underL m l = true
  | [], _ => rfl
  | d :: r, h => by
    simp only [Dat.underL, Bool.and_eq_true] at h ⊢
    exact ⟨under_mono hnm d h.1, underL_mono hnm r h.2⟩
theorem underLL_mono {n m : Nat} (hnm : n ≤ m) : ∀ l : List (List Dat), Dat.underLL n l = true → Dat.underLL m l = true
  | [], _ => rfl
  | d :: r, h => by
    simp only [Dat.underLL, Bool.and_eq_true] at h ⊢
    exact ⟨underL_mono hnm d h.1, underLL_mono hnm r h.2⟩
end
end Go.Mir
