/- Regions whose order is open: whatever order, the same end. -/
import Derived.Test.YtlpfeikoniepiaaRRMirDraw2
import Derived.Orders
set_option linter.all false
namespace Go.Mir
set_option linter.unusedVariables false
set_option linter.unusedSectionVars false
set_option linter.unusedSimpArgs false

def Closed (ops : Array Oper) (S : Nat → Prop) : Prop := ∀ k o, ops[k]? = some o → S k → ∀ e ∈ o.after, Region.binds .any e = true → S e.on

/-- What the check gives. -/
structure Chk (ops : Array Oper) (ms : List MOper) (keep : List Nat) : Prop where
  len : ms.length = ops.size
  edge : ∀ k o, ops[k]? = some o → ∀ e ∈ o.after, Region.binds .any e = true → e.on < k
  rw : ∀ S, Closed ops S → ∀ (i j : Nat) (a b : MOper) (d : Nat), i ≠ j → ms[i]? = some a → ms[j]? = some b → a.dst = some d → d ∈ readsOf b → (i < j → S j → S i) ∧ (j < i → S i → S j)
  ww : ∀ (i j : Nat) (a b : MOper) (d : Nat), i ≠ j → ms[i]? = some a → ms[j]? = some b → a.dst = some d → b.dst ≠ some d
  tk : ∀ (i j : Nat) (a b : MOper) (t : Nat), i ≠ j → ms[i]? = some a → ms[j]? = some b → t ∈ takesOf a.op → t ∉ readsOf b
  st : ∀ S, Closed ops S → ∀ (i j : Nat) (a b : MOper), i ≠ j → ms[i]? = some a → ms[j]? = some b → isW a.op = true → (isW b.op = true ∨ isR b.op = true ∨ isAlloc b.op = true) → (i < j → S j → S i) ∧ (j < i → S i → S j)
  al : ∀ (i j : Nat) (a b : MOper) (d : Nat), i ≠ j → ms[i]? = some a → ms[j]? = some b → isAlloc a.op = true → isW b.op = false → a.dst = some d → d ∉ readsOf b
  drw : ∀ (i : Nat) (a : MOper), ms[i]? = some a → drawable a.op = true
  alo : ∀ (i : Nat) (a : MOper), ms[i]? = some a → isAlloc a.op = true → a.guard = none ∧ (∃ t, a.dst = some t) ∧ ∃ z, a.op = .alloc z ∧ z.all Dat.safe = true ∧ Dat.underL 0 z = true
  tkk : ∀ (i : Nat) (a : MOper) (t : Nat), ms[i]? = some a → t ∈ takesOf a.op → t ∉ keep

theorem mem_union {a b : List Nat} {i : Nat} (h : i ∈ union a b) : i ∈ a ∨ i ∈ b := by
  simp only [union, List.mem_append, List.mem_filter] at h
  exact h.imp id And.left
theorem precStep_mem {ps : List (List Nat)} {o : Oper} {i : Nat} (h : i ∈ precStep ps o) : ∃ e ∈ o.after, Region.binds .any e = true ∧ (i = e.on ∨ ∃ l, ps[e.on]? = some l ∧ i ∈ l) := by
  unfold precStep at h
  have key : ∀ (l : List Edge) (acc : List Nat), (∀ e ∈ l, e ∈ o.after) → i ∈ l.foldl (fun acc e => if Region.binds .any e then union acc (union [e.on] (ps.getD e.on [])) else acc) acc →
      i ∈ acc ∨ ∃ e ∈ o.after, Region.binds .any e = true ∧ (i = e.on ∨ ∃ l, ps[e.on]? = some l ∧ i ∈ l) := by
    intro l
    induction l with
    | nil => exact fun acc _ h => .inl h
    | cons e l ih =>
      intro acc hl h
      simp only [List.foldl_cons] at h
      rcases ih _ (fun e he => hl e (by simp [he])) h with h | h
      · split at h
        · rename_i hb
          rcases mem_union h with h | h
          · exact .inl h
          · refine .inr ⟨e, hl e (by simp), hb, ?_⟩
            rcases mem_union h with h | h
            · exact .inl (by simpa using h)
            · refine .inr ?_
              rw [List.getD_eq_getElem?_getD] at h
              cases hg : ps[e.on]? with
              | none => rw [hg] at h; simp at h
              | some l' => rw [hg] at h; exact ⟨l', rfl, by simpa using h⟩
        · exact .inl h
      · exact .inr h
  rcases key o.after.toList [] (fun e he => by simpa using he) h with h | h
  · simp at h
  · exact h

/-- lists of what must come before -/
def PrecOk (ops : Array Oper) (ps : List (List Nat)) : Prop := ∀ k l, ps[k]? = some l → ∀ i ∈ l, ∃ o, ops[k]? = some o ∧ ∃ e ∈ o.after, Region.binds .any e = true ∧ (i = e.on ∨ (e.on < k ∧ ∃ l', ps[e.on]? = some l' ∧ i ∈ l'))
theorem precs_ok {ops : Array Oper} : ∀ {l : List Oper} {ps : List (List Nat)}, ops.toList.drop ps.length = l → PrecOk ops ps → PrecOk ops (precs l ps)
  | [], ps, _, h => h
  | o :: r, ps, hd, h => by
    have ho : ops[ps.length]? = some o := by
      have : (ops.toList.drop ps.length)[0]? = some o := by rw [hd]; rfl
      rw [List.getElem?_drop] at this
      simpa using this
    simp only [precs]
    refine precs_ok ?_ fun k l hk i hi => ?_
    · have : ops.toList.drop (ps.length + 1) = (ops.toList.drop ps.length).drop 1 := by rw [List.drop_drop]
      simp only [List.length_append, List.length_cons, List.length_nil]
      rw [Nat.zero_add, this, hd]
      rfl
    · rcases Nat.lt_trichotomy k ps.length with hlt | rfl | hgt
      · rw [List.getElem?_append_left hlt] at hk
        obtain ⟨o', ho', e, he, hb, hor⟩ := h k l hk i hi
        refine ⟨o', ho', e, he, hb, hor.imp id fun ⟨h1, l', h2, h3⟩ => ⟨h1, l', ?_, h3⟩⟩
        rw [List.getElem?_append_left (by omega)]
        exact h2
      · rw [List.getElem?_append_right (Nat.le_refl _)] at hk
        simp only [Nat.sub_self, List.getElem?_cons_zero, Option.some.injEq] at hk
        subst hk
        obtain ⟨e, he, hb, hor⟩ := precStep_mem hi
        refine ⟨o, ho, e, he, hb, hor.imp id fun ⟨l', h2, h3⟩ => ?_⟩
        have hlt := (List.getElem?_eq_some_iff.1 h2).1
        exact ⟨hlt, l', by rw [List.getElem?_append_left hlt]; exact h2, h3⟩
      · rw [List.getElem?_append_right (by omega)] at hk
        rw [List.getElem?_eq_none (by simp; omega)] at hk
        cases hk
theorem precs_closed {ops : Array Oper} {S : Nat → Prop} (hS : Closed ops S) {ps : List (List Nat)} (h : PrecOk ops ps) : ∀ k l, ps[k]? = some l → ∀ i ∈ l, S k → S i := by
  intro k
  induction k using Nat.strongRecOn with
  | _ k ih =>
    intro l hk i hi hs
    obtain ⟨o, ho, e, he, hb, hor⟩ := h k l hk i hi
    have hse := hS k o ho hs e he hb
    rcases hor with rfl | ⟨hlt, l', hl', hi'⟩
    · exact hse
    · exact ih e.on hlt l' hl' i hi' hse

theorem precs_length : ∀ (l : List Oper) (ps : List (List Nat)), (precs l ps).length = ps.length + l.length
  | [], ps => rfl
  | o :: r, ps => by
    simp only [precs, precs_length r]
    simp
    omega
theorem chk_of {ops : Array Oper} {ms : List MOper} {keep : List Nat} (hlen : ms.length = ops.size) (h : drawOk ops.toList ms keep = true) : Chk ops ms keep := by
  simp only [drawOk, Bool.and_eq_true] at h
  obtain ⟨⟨h1, h2⟩, h3⟩ := h
  have hps : PrecOk ops (precs ops.toList []) := precs_ok (l := ops.toList) (ps := []) rfl fun k l hk => by simp at hk
  have hpl : (precs ops.toList []).length = ops.size := by rw [precs_length]; simp
  have item : ∀ (i : Nat) (a : MOper), ms[i]? = some a → ∃ p, (precs ops.toList [])[i]? = some p ∧ ((a, p), i) ∈ (ms.zip (precs ops.toList [])).zipIdx := by
    intro i a ha
    have hlt := (List.getElem?_eq_some_iff.1 ha).1
    have hp : (precs ops.toList [])[i]? = some (precs ops.toList [])[i] := List.getElem?_eq_getElem (by omega)
    refine ⟨_, hp, List.mem_of_getElem? (i := i) ?_⟩
    rw [List.getElem?_zipIdx, (List.getElem?_zip_eq_some (z := (a, (precs ops.toList [])[i]))).2 ⟨ha, hp⟩]
    simp
  have pair : ∀ (i j : Nat) (a b : MOper), i ≠ j → ms[i]? = some a → ms[j]? = some b → ∃ p q, (precs ops.toList [])[i]? = some p ∧ (precs ops.toList [])[j]? = some q ∧ pairOk ((a, p), i) ((b, q), j) = true := by
    intro i j a b hij ha hb
    obtain ⟨p, hp, hip⟩ := item i a ha
    obtain ⟨q, hq, hjq⟩ := item j b hb
    exact ⟨p, q, hp, hq, List.all_eq_true.1 (List.all_eq_true.1 h3 _ hip) _ hjq⟩
  have bef : ∀ S, Closed ops S → ∀ (i j : Nat) (p q : List Nat), i ≠ j → (precs ops.toList [])[i]? = some p → (precs ops.toList [])[j]? = some q → before i j p q = true → (i < j → S j → S i) ∧ (j < i → S i → S j) := by
    intro S hS i j p q hij hp hq hb
    unfold before at hb
    refine ⟨fun hlt hs => ?_, fun hlt hs => ?_⟩
    · rw [if_pos hlt] at hb
      exact precs_closed hS hps j q hq i (by simpa using hb) hs
    · rw [if_neg (by omega)] at hb
      exact precs_closed hS hps i p hp j (by simpa using hb) hs
  refine ⟨hlen, fun k o ho e he hb => ?_, fun S hS i j a b d hij ha hb hd hr => ?_, fun i j a b d hij ha hb hd hd2 => ?_, fun i j a b t hij ha hb ht hr => ?_, fun S hS i j a b hij ha hb hw hor => ?_, fun i j a b d hij ha hb hal hw hd hr => ?_, fun i a ha => ?_, fun i a ha hal => ?_, fun i a t ha ht hk => ?_⟩
  · have : (o, k) ∈ ops.toList.zipIdx := List.mem_of_getElem? (i := k) (by rw [List.getElem?_zipIdx]; simp [ho])
    have := List.all_eq_true.1 (List.all_eq_true.1 h1 _ this) e (by simpa using he)
    simpa [hb] using this
  · obtain ⟨p, q, hp, hq, hpr⟩ := pair i j a b hij ha hb
    refine bef S hS i j p q hij hp hq ?_
    simp only [pairOk, Bool.or_eq_true, beq_iff_eq, hij, false_or, Bool.and_eq_true, hd] at hpr
    have := hpr.1.1.1.2
    simpa [hr] using this
  · obtain ⟨p, q, hp, hq, hpr⟩ := pair i j a b hij ha hb
    simp only [pairOk, Bool.or_eq_true, beq_iff_eq, hij, false_or, Bool.and_eq_true, hd] at hpr
    have := hpr.1.1.1.1
    simp [hd2] at this
  · obtain ⟨p, q, hp, hq, hpr⟩ := pair i j a b hij ha hb
    simp only [pairOk, Bool.or_eq_true, beq_iff_eq, hij, false_or, Bool.and_eq_true] at hpr
    have := List.all_eq_true.1 hpr.1.1.2 t ht
    simp [hr] at this
  · obtain ⟨p, q, hp, hq, hpr⟩ := pair i j a b hij ha hb
    refine bef S hS i j p q hij hp hq ?_
    simp only [pairOk, Bool.or_eq_true, beq_iff_eq, hij, false_or, Bool.and_eq_true] at hpr
    have := hpr.1.2
    rcases hor with hor | hor | hor <;> simpa [hw, hor] using this
  · obtain ⟨p, q, hp, hq, hpr⟩ := pair i j a b hij ha hb
    simp only [pairOk, Bool.or_eq_true, beq_iff_eq, hij, false_or, Bool.and_eq_true] at hpr
    have := hpr.2
    simp [hal, hw, hd, hr] at this
  · obtain ⟨p, hp, hip⟩ := item i a ha
    have := List.all_eq_true.1 h2 _ hip
    simp only [oneItemOk, Bool.and_eq_true] at this
    exact this.1.1.1
  · obtain ⟨p, hp, hip⟩ := item i a ha
    have := List.all_eq_true.1 h2 _ hip
    simp only [oneItemOk, Bool.and_eq_true, hal, Bool.not_true, Bool.false_or] at this
    refine ⟨by simpa using this.1.2.1, Option.isSome_iff_exists.1 this.1.2.2, ?_⟩
    have hz := this.1.1.2
    cases ho : a.op <;> rw [ho] at hal <;> simp only [isAlloc, Bool.false_eq_true] at hal
    rw [ho] at hz
    simp only [allocOk, Bool.and_eq_true] at hz
    exact ⟨_, rfl, hz.1, hz.2⟩
  · obtain ⟨p, hp, hip⟩ := item i a ha
    have := List.all_eq_true.1 h2 _ hip
    simp only [oneItemOk, Bool.and_eq_true] at this
    have := List.all_eq_true.1 this.2 t ht
    simp [hk] at this
end Go.Mir
