/- From an argument, read as data, to the pure value it stands for. -/
import Derived.Test.YtlpfeikoniepiaaRRDoorMidRun
import Derived.Deep.Slices
import Derived.ChangeArms
set_option linter.all false
namespace Go.Mir
set_option linter.unusedVariables false
set_option linter.unusedSectionVars false
set_option linter.unusedSimpArgs false

/-- the kind of a cell -/
inductive CTy where
  | int (k : IntKind)
  | bool
  | str
  | sl (l : List CTy)
  deriving Inhabited

-- A value of that kind.
mutual
def HasTy : CTy → Dat → Prop
  | .int k, d => ∃ n, d = .int k n ∧ (Lit.int k n).wf = true
  | .bool, d => ∃ b, d = .bool b
  | .str, d => ∃ s : List UInt8, d = .str s ∧ s.length ≤ maxLen
  | .sl l, d => ∃ xs : List (List Dat), d = .slice false xs ∧ xs.length ≤ maxLen ∧ ∀ x ∈ xs, HasTys l x
def HasTys : List CTy → List Dat → Prop
  | [], ds => ds = []
  | t :: ts, ds => ∃ d r, ds = d :: r ∧ HasTy t d ∧ HasTys ts r
end

def layFs (lay : TypeId → Option (List CTy)) (sz : TypeId → Nat) : List Field → Nat → Option (List CTy)
  | [], _ => some []
  | f :: r, off => if f.offset = off then (lay f.type).bind fun l => if l.length = sz f.type then (layFs lay sz r (off + l.length)).map (l ++ ·) else none else none
def layP (P : Program) : Nat → TypeId → Option (List CTy)
  | 0, _ => none
  | d + 1, t => match P.underlying t with
    | some (.int k) => some [.int k]
    | some .bool => some [.bool]
    | some .string => some [.str]
    | some (.slice e) => (layP P d e).bind fun l => if l.length = P.cellsOf e ∧ 0 < l.length then some [.sl l] else none
    | some (.struct fs) => (layFs (layP P d) P.cellsOf fs.toList 0).bind fun l => if l.length = P.cellsOf t then some l else none
    | _ => none

theorem HasTys_append {l m : List CTy} {a b : List Dat} (h : HasTys l a) (k : HasTys m b) : HasTys (l ++ m) (a ++ b) := by
  induction l generalizing a with
  | nil => simp only [HasTys] at h; subst h; exact k
  | cons t ts ih =>
    simp only [HasTys] at h
    obtain ⟨d, r, rfl, h1, h2⟩ := h
    simp only [List.cons_append, HasTys]
    exact ⟨d, r ++ b, rfl, h1, ih h2⟩
theorem HasTys_len : ∀ {l : List CTy} {a : List Dat}, HasTys l a → a.length = l.length
  | [], a, h => by simp only [HasTys] at h; simp [h]
  | t :: ts, a, h => by
    simp only [HasTys] at h
    obtain ⟨d, r, rfl, _, h2⟩ := h
    simp [HasTys_len h2]
mutual
theorem HasTy_ok : ∀ {t : CTy} {d : Dat}, HasTy t d → d.isCell = true ∧ d.under 0 = true ∧ (∀ (g : Gh) (w : World) π v, Own g w π d v)
  | .int k, d, h => by simp only [HasTy] at h; obtain ⟨n, rfl, _⟩ := h; exact ⟨rfl, rfl, fun _ _ _ _ => trivial⟩
  | .bool, d, h => by simp only [HasTy] at h; obtain ⟨n, rfl⟩ := h; exact ⟨rfl, rfl, fun _ _ _ _ => trivial⟩
  | .str, d, h => by simp only [HasTy] at h; obtain ⟨n, rfl, _⟩ := h; exact ⟨rfl, rfl, fun _ _ _ _ => trivial⟩
  | .sl l, d, h => by
    simp only [HasTy] at h
    obtain ⟨xs, rfl, _, hx⟩ := h
    exact ⟨rfl, by simp only [Dat.under]; exact underLL_mk fun x hxm => HasTys_under (hx x hxm), fun _ _ _ _ => trivial⟩
theorem HasTys_under : ∀ {l : List CTy} {a : List Dat}, HasTys l a → Dat.underL 0 a = true
  | [], a, h => by simp only [HasTys] at h; subst h; rfl
  | t :: ts, a, h => by
    simp only [HasTys] at h
    obtain ⟨d, r, rfl, h1, h2⟩ := h
    simp only [Dat.underL, Bool.and_eq_true]
    exact ⟨(HasTy_ok h1).2.1, HasTys_under h2⟩
end
theorem HasTys_cell {l : List CTy} {a : List Dat} (h : HasTys l a) : a.all Dat.isCell = true := by
  induction l generalizing a with
  | nil => simp only [HasTys] at h; subst h; rfl
  | cons t ts ih =>
    simp only [HasTys] at h
    obtain ⟨d, r, rfl, h1, h2⟩ := h
    simp only [List.all_cons, Bool.and_eq_true]
    exact ⟨(HasTy_ok h1).1, ih h2⟩

/-- The ghost at a call's start: all that is there stays as it is. -/
def Gh.init (w : World) : Gh := { ρ := fun _ => 0, prot := fun b => match w.heap[b]? with | some (.cells c _ _) => c.size | _ => 0, lock := fun _ => none }
theorem init_st (w : World) : StOk (Gh.init w) w [] :=
  ⟨fun id c hc => by simp [St.get_nil, St.get_cons] at hc, fun id c hc => by simp [St.get_nil, St.get_cons] at hc, fun i j hi => by simp at hi, fun id hid => by simp at hid, fun b hb => ⟨by simp only [Gh.init, Array.getElem?_eq_none hb], rfl⟩⟩

theorem cell_prot {w : World} {b o : Nat} {u : Value} (h : w.cell? ⟨b, o, none⟩ = some u) : o < (Gh.init w).prot b := by
  simp only [World.cell?] at h
  simp only [Gh.init]
  split at h
  · rename_i c _ _ hc
    rw [hc]
    simp only [Option.isSome_none, Bool.false_eq_true, if_false] at h
    exact (Array.getElem?_eq_some_iff.1 h).1
  · cases h

theorem mapM_cells {w : World} {a : Addr} {n : Nat} {cs : List Value} (h : w.cells? 0 a n = some cs) : cs.length = n ∧ ∀ (i : Nat) v, cs[i]? = some v → w.cell? (a.add i) = some v := by
  simp only [World.cells?, Nat.zero_le, if_true] at h
  obtain ⟨h1, h2⟩ := mapM_get h
  rw [List.length_range] at h1
  refine ⟨h1, fun i v hv => ?_⟩
  have hlt : i < n := by rw [← h1]; exact (List.getElem?_eq_some_iff.1 hv).1
  exact h2 i i v (List.getElem?_range hlt) hv

section
variable {P : Program} {w : World} {H : Type} {enc : TypeId × Value → H} {spare : Nat → Bool} {held : Bool}

theorem trod_fields {d : Nat} (ih : ∀ (t : TypeId) (l : List CTy) (fuel : Nat) (cs : List Value) x, layP P d t = some l → DataW.trod enc P w 0 spare held fuel t cs = some x → ∃ ds, RepL (Gh.init w) w ds cs ∧ HasTys l ds) {fuel : Nat} {cs : List Value} :
    ∀ (fs : List Field) (off : Nat) (l : List CTy), layFs (layP P d) P.cellsOf fs off = some l → off + l.length = cs.length → (∀ f ∈ fs, ∃ x, DataW.trod enc P w 0 spare held fuel f.type ((cs.drop f.offset).take (P.cellsOf f.type)) = some x) →
      ∃ ds, RepL (Gh.init w) w ds (cs.drop off) ∧ HasTys l ds
  | [], off, l, hl, hoff, _ => by
    simp only [layFs, Option.some.injEq] at hl
    subst hl
    rw [List.drop_eq_nil_of_le (by simp at hoff; omega)]
    exact ⟨[], by simp [RepL], by simp [HasTys]⟩
  | f :: fs, off, l, hl, hoff, hf => by
    simp only [layFs] at hl
    split at hl
    · rename_i ho
      obtain ⟨m, hm, hl⟩ := Option.bind_eq_some_iff.1 hl
      split at hl
      · rename_i hml
        obtain ⟨r, hr, rfl⟩ := Option.map_eq_some_iff.1 hl
        obtain ⟨x, hx⟩ := hf f (by simp)
        obtain ⟨ds1, h1, h2⟩ := ih _ _ _ _ _ hm hx
        simp only [List.length_append] at hoff
        obtain ⟨ds2, h3, h4⟩ := trod_fields ih fs (off + m.length) r hr (by omega) fun f' hf' => hf f' (by simp [hf'])
        refine ⟨ds1 ++ ds2, ?_, HasTys_append h2 h4⟩
        rw [ho, ← hml] at h1
        have : cs.drop off = (cs.drop off).take m.length ++ cs.drop (off + m.length) := by
          rw [← List.drop_drop, List.take_append_drop]
        rw [this]
        exact RepL_append h1 h3
      · cases hl
    · cases hl

/-- WHAT IS READ STANDS FOR A PURE VALUE. -/
theorem trod_rep : ∀ (d : Nat) (t : TypeId) (l : List CTy) (fuel : Nat) (cs : List Value) x, layP P d t = some l → DataW.trod enc P w 0 spare held fuel t cs = some x → ∃ ds, RepL (Gh.init w) w ds cs ∧ HasTys l ds
  | 0, t, l, fuel, cs, x, hl, h => by simp [layP] at hl
  | d + 1, t, l, fuel, cs, x, hl, h => by
    have one : ∀ (c : Dat) (v : Value) (ty : CTy), cs = [v] → Rep (Gh.init w) w c v → HasTy ty c → ∃ ds, RepL (Gh.init w) w ds cs ∧ HasTys [ty] ds := by
      rintro c v ty rfl hr ht
      exact ⟨[c], RepL_cons hr (by simp [RepL]), by simp only [HasTys]; exact ⟨c, [], rfl, ht, rfl⟩⟩
    simp only [layP] at hl
    split at hl <;> rename_i hu
    · rename_i k
      injection hl with hl
      subst hl
      cases fuel with
      | zero => simp [DataW.trod] at h
      | succ fuel =>
        unfold DataW.trod at h
        rw [hu] at h
        split at h <;> simp_all
        exact one (.int _ _) _ _ rfl rfl (by simp only [HasTy]; exact ⟨_, rfl, h.1.2⟩)
    · injection hl with hl
      subst hl
      cases fuel with
      | zero => simp [DataW.trod] at h
      | succ fuel =>
        unfold DataW.trod at h
        rw [hu] at h
        split at h <;> simp_all
        rename_i b
        exact one (.bool b) _ _ rfl rfl (by simp only [HasTy]; exact ⟨b, rfl⟩)
    · injection hl with hl
      subst hl
      cases fuel with
      | zero => simp [DataW.trod] at h
      | succ fuel =>
        unfold DataW.trod at h
        rw [hu] at h
        split at h <;> simp_all
        rename_i s
        exact one (.str s.data.toList) _ _ rfl (by simp only [Rep]) (by simp only [HasTy]; exact ⟨_, rfl, by rw [Array.length_toList]; exact h.1⟩)
    · rename_i e
      obtain ⟨m, hm, hl⟩ := Option.bind_eq_some_iff.1 hl
      split at hl
      · rename_i hc
        obtain ⟨hml, hpos⟩ := hc
        injection hl with hl
        subst hl
        rcases Go.Deep.open_slice hu h with ⟨rfl, _⟩ | ⟨a, len, cap, mm, n, D, Pl, rfl, hb, hlc, hcm, hmm, rfl, hx⟩
        · exact one (.slice false []) _ _ rfl (by simp only [Rep]; exact ⟨none, 0, rfl, by simp, by simp, by simp⟩) (by simp only [HasTy]; exact ⟨[], rfl, by simp, by simp⟩)
        · have hlm : len ≤ mm := by rw [hmm]; split <;> omega
          have hel : ∀ i, i < len → ∃ (cs' : List Value) (ds : List Dat), cs'.length = P.cellsOf e ∧ (∀ (j : Nat) v, cs'[j]? = some v → w.cell? ((a.add (i * P.cellsOf e)).add j) = some v) ∧ RepL (Gh.init w) w ds cs' ∧ HasTys m ds := by
            intro i hi
            obtain ⟨cs', h1, h2⟩ := hx i (by omega)
            obtain ⟨h3, h4⟩ := mapM_cells h1
            obtain ⟨ds, h5, h6⟩ := trod_rep d e m n cs' _ hm h2
            exact ⟨cs', ds, h3, h4, h5, h6⟩
          -- the address is a plain one, if there is an element
          have hspot : 0 < len → a.spot = none := by
            intro h0
            obtain ⟨cs', ds, h3, h4, _, _⟩ := hel 0 h0
            have hlt : 0 < cs'.length := by omega
            have := h4 0 cs'[0] (List.getElem?_eq_getElem hlt)
            obtain ⟨ab, ao, as⟩ := a
            cases as with
            | none => rfl
            | some s =>
              exfalso
              simp [Addr.add, World.cell?] at this
              split at this <;> simp_all
          let row : Nat → List Dat := fun i => if hi : i < len then (hel i hi).choose_spec.choose else []
          have hrow : ∀ i (hi : i < len), ∃ cs' : List Value, cs'.length = P.cellsOf e ∧ (∀ (j : Nat) v, cs'[j]? = some v → w.cell? ((a.add (i * P.cellsOf e)).add j) = some v) ∧ RepL (Gh.init w) w (row i) cs' ∧ HasTys m (row i) := by
            intro i hi
            have := (hel i hi).choose_spec.choose_spec
            simp only [row, dif_pos hi]
            exact ⟨(hel i hi).choose, this⟩
          have hxs : ∀ (i : Nat) x, ((List.range len).map row)[i]? = some x → i < len ∧ x = row i := by
            intro i x hi
            have hlt : i < len := by have := (List.getElem?_eq_some_iff.1 hi).1; simpa using this
            rw [List.getElem?_map, List.getElem?_range hlt, Option.map_some, Option.some.injEq] at hi
            exact ⟨hlt, hi.symm⟩
          refine one (.slice false ((List.range len).map row)) _ _ rfl ?_ ?_
          · simp only [Rep]
            refine ⟨some a, cap, by simp, by simpa using hlc, by simp, fun hne => ?_⟩
            have h0 : 0 < len := by
              rcases Nat.eq_zero_or_pos len with h0 | h0
              · rw [h0] at hne; simp at hne
              · exact h0
            obtain ⟨ab, ao, as⟩ := a
            have has : as = none := hspot h0
            subst has
            refine ⟨ab, ao, P.cellsOf e, rfl, ?_, RepRows_mk fun i x hi => ?_⟩
            · simp only [List.length_map, List.length_range]
              obtain ⟨cs', h1, h2, h3, h4⟩ := hrow (len - 1) (by omega)
              have hlt : P.cellsOf e - 1 < cs'.length := by omega
              have := h2 _ _ (List.getElem?_eq_getElem hlt)
              simp only [Addr.add_lit] at this
              have := cell_prot this
              have e1 : ao + (len - 1) * P.cellsOf e + (P.cellsOf e - 1) + 1 = ao + len * P.cellsOf e := by
                have : len * P.cellsOf e = (len - 1) * P.cellsOf e + P.cellsOf e := by
                  rw [← Nat.succ_mul]; congr 1; omega
                omega
              omega
            · obtain ⟨hlt, rfl⟩ := hxs i x hi
              obtain ⟨cs', h1, h2, h3, h4⟩ := hrow i hlt
              refine ⟨by rw [HasTys_len h4]; exact hml, RepAt_mk fun j dd hj => ?_⟩
              obtain ⟨v, hv, hrv⟩ := RepL_get h3 hj
              have := h2 j v hv
              simp only [Addr.add_lit] at this
              exact ⟨v, this, List.all_eq_true.1 (HasTys_cell h4) dd (List.mem_of_getElem? hj), hrv⟩
          · simp only [HasTy]
            refine ⟨_, rfl, by simp; omega, fun x hx => ?_⟩
            obtain ⟨i, hi⟩ := List.getElem?_of_mem hx
            obtain ⟨hlt, rfl⟩ := hxs i x hi
            obtain ⟨cs', h1, h2, h3, h4⟩ := hrow i hlt
            exact h4
      · cases hl
    · rename_i fs
      obtain ⟨m, hm, hl⟩ := Option.bind_eq_some_iff.1 hl
      split at hl
      · rename_i hml
        injection hl with hl
        subst hl
        obtain ⟨xs, n, rfl, rfl, hlen, hxl, hxf⟩ := DataW.trod_struct hu h
        obtain ⟨ds, h1, h2⟩ := trod_fields (cs := cs) (fuel := n) (trod_rep d) fs.toList 0 m hm (by omega) fun f hf => by
          obtain ⟨i, hi⟩ := List.getElem?_of_mem hf
          have hlt : i < xs.length := by rw [hxl]; have := (List.getElem?_eq_some_iff.1 hi).1; simpa using this
          exact ⟨xs[i], by rw [hxf i f (by simpa using hi)]; exact List.getElem?_eq_getElem hlt⟩
        exact ⟨ds, by simpa using h1, h2⟩
      · cases hl
    · cases hl
end
end Go.Mir
