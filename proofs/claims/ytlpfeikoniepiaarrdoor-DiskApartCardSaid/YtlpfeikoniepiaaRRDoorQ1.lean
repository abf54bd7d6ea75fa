/- Files by rising names: found, put. Plain law, no program. -/
import Derived.Test.YtlpfeikoniepiaaRRDoorD6
set_option linter.all false
namespace Go.Mir.D

theorem checkL_low : ∀ {l : List FileD} {a b : Txt}, checkL l b = true → (less a b = true ∨ a = b) → checkL l a = true
  | [], _, _, _, _ => rfl
  | f :: r, a, b, h, hab => by
    simp only [checkL, Bool.and_eq_true] at h ⊢
    refine ⟨⟨h.1.1, ?_, h.1.2.2⟩, h.2⟩
    rcases hab with hab | rfl
    · exact less_trans hab h.1.2.1
    · exact h.1.2.1
theorem checkL_mem : ∀ {l : List FileD} {a : Txt}, checkL l a = true → ∀ f ∈ l, less a f.name = true ∧ nameP f.name = true ∧ goodF f = true
  | [], _, _, f, hf => by cases hf
  | x :: r, a, h, f, hf => by
    simp only [checkL, Bool.and_eq_true] at h
    rcases List.mem_cons.1 hf with rfl | hf
    · exact ⟨h.1.2.1, h.1.1, h.1.2.2⟩
    · obtain ⟨h1, h2⟩ := checkL_mem h.2 f hf
      exact ⟨less_trans h.1.2.1 h1, h2⟩
def getS : List FileD → Txt → Option FileD
  | [], _ => none
  | x :: r, nm => if x.name = nm then some x else getS r nm
theorem getP_eq : ∀ (l : List FileD) (nm : Txt), getP l nm = match getS l nm with | some f => (f, true) | none => (zeroF, false)
  | [], nm => by simp [getP, getS]
  | x :: r, nm => by
    have ih := getP_eq r nm
    unfold getS
    by_cases h : x.name = nm
    · rw [if_pos h]
      simp [getP, List.findIdx_cons, h]
    · rw [if_neg h, ← ih]
      simp [getP, List.findIdx_cons, h]
theorem getS_mem : ∀ {l : List FileD} {nm : Txt} {f : FileD}, getS l nm = some f → f ∈ l ∧ f.name = nm
  | [], nm, f, h => by simp [getS] at h
  | x :: r, nm, f, h => by
    unfold getS at h
    split at h
    · rename_i hx
      injection h with h
      subst h
      exact ⟨by simp, hx⟩
    · obtain ⟨h1, h2⟩ := getS_mem h
      exact ⟨by simp [h1], h2⟩
theorem getS_none : ∀ {l : List FileD} {nm : Txt}, getS l nm = none → ∀ f ∈ l, f.name ≠ nm
  | [], nm, _, f, hf => by cases hf
  | x :: r, nm, h, f, hf => by
    unfold getS at h
    split at h
    · cases h
    · rename_i hx
      rcases List.mem_cons.1 hf with rfl | hf
      · exact hx
      · exact getS_none h f hf
theorem getS_low {l : List FileD} {a nm : Txt} (h : checkL l a = true) (hn : less a nm = false) : getS l nm = none := by
  cases hg : getS l nm with
  | none => rfl
  | some f =>
    obtain ⟨h1, rfl⟩ := getS_mem hg
    have := (checkL_mem h f h1).1
    rw [hn] at this
    cases this
/-- put, as a recursion -/
def insF : List FileD → Txt → FileD → List FileD
  | [], _, f => if f.b = [] then [] else [f]
  | x :: r, nm, f => if less x.name nm = true then x :: insF r nm f else (if f.b = [] then [] else [f]) ++ (if x.name = nm then r else x :: r)
theorem plIdx_cons (x : FileD) (r : List FileD) (nm : Txt) : plIdx (x :: r) nm = if less x.name nm = true then plIdx r nm + 1 else 0 := by
  unfold plIdx
  rw [List.findIdx_cons]
  cases less x.name nm <;> simp
theorem isF_opt (l : List FileD) (nm : Txt) : isF l nm = ((l[plIdx l nm]?).map fun f => decide (f.name = nm)).getD false := by
  unfold isF
  split
  · rename_i h; rw [List.getElem?_eq_getElem h]; rfl
  · rename_i h; rw [List.getElem?_eq_none (by omega)]; rfl
theorem isF_cons (x : FileD) (r : List FileD) (nm : Txt) : isF (x :: r) nm = if less x.name nm = true then isF r nm else decide (x.name = nm) := by
  rw [isF_opt, isF_opt, plIdx_cons]
  cases hl : less x.name nm <;> simp
theorem putF_eq : ∀ (l : List FileD) (nm : Txt) (f : FileD), putF l nm f = insF l nm f
  | [], nm, f => by simp [putF, insF, plIdx, isF]
  | x :: r, nm, f => by
    have ih := putF_eq r nm f
    unfold insF
    rw [← ih]
    unfold putF
    rw [plIdx_cons, isF_cons]
    cases hl : less x.name nm with
    | true =>
      simp only [if_true]
      cases hi : isF r nm <;> simp
    | false =>
      by_cases hx : x.name = nm
      · simp [hx]
      · simp [hx]
theorem isF_get : ∀ {l : List FileD} {a nm : Txt}, checkL l a = true → isF l nm = (getS l nm).isSome
  | [], a, nm, _ => by simp [isF, getS]
  | x :: r, a, nm, h => by
    simp only [checkL, Bool.and_eq_true] at h
    rw [isF_cons]
    unfold getS
    cases hl : less x.name nm with
    | true =>
      have hne := less_ne hl
      rw [if_pos rfl, if_neg hne]
      exact isF_get h.2
    | false =>
      rw [if_neg (by simp)]
      by_cases hx : x.name = nm
      · simp [hx]
      · rw [if_neg hx, getS_low h.2 hl]
        simp [hx]
theorem fileAt_get {l : List FileD} {nm : Txt} (h : checkL l [] = true) : fileAt l nm = (getS l nm).getD ⟨nm, [], 0⟩ := by
  have key : ∀ {l : List FileD} {a nm : Txt}, checkL l a = true → isF l nm = true → l.getD (plIdx l nm) zeroF = (getS l nm).getD ⟨nm, [], 0⟩ := by
    intro l
    induction l with
    | nil => intro a nm _ hi; simp [isF] at hi
    | cons x r ih =>
      intro a nm h hi
      simp only [checkL, Bool.and_eq_true] at h
      rw [isF_cons] at hi
      rw [plIdx_cons]
      unfold getS
      cases hl : less x.name nm with
      | true =>
        rw [hl, if_pos rfl] at hi
        rw [if_pos rfl, if_neg (less_ne hl)]
        simpa using ih h.2 hi
      | false =>
        rw [hl] at hi
        simp only [Bool.false_eq_true, if_false, decide_eq_true_eq] at hi
        simp [hi]
  unfold fileAt
  rw [isF_get h]
  split
  · rename_i hs
    exact key h (by rw [isF_get h]; exact hs)
  · rename_i hs
    cases hg : getS l nm with
    | none => rfl
    | some f => rw [hg] at hs; simp at hs
theorem getS_ins : ∀ {l : List FileD} {a nm : Txt} {f : FileD}, checkL l a = true → f.name = nm → ∀ q, getS (insF l nm f) q = if q = nm then (if f.b = [] then none else some f) else getS l q
  | [], a, nm, f, _, hf, q => by
    unfold insF
    by_cases hb : f.b = []
    · rw [if_pos hb, if_pos hb]; simp [getS]
    · rw [if_neg hb, if_neg hb]
      by_cases hq : q = nm
      · simp [getS, hf, hq]
      · simp [getS, hf, hq, Ne.symm hq]
  | x :: r, a, nm, f, h, hf, q => by
    simp only [checkL, Bool.and_eq_true] at h
    unfold insF
    cases hl : less x.name nm with
    | true =>
      have hne := less_ne hl
      rw [if_pos rfl]
      simp only [getS]
      rw [getS_ins h.2 hf q]
      by_cases hx : x.name = q
      · rw [if_pos hx, if_pos hx, if_neg (by rw [← hx]; exact hne)]
      · rw [if_neg hx, if_neg hx]
    | false =>
      rw [if_neg (by simp)]
      by_cases hx : x.name = nm
      · rw [if_pos hx]
        have hlow : getS r nm = none := getS_low h.2 (by rw [hx]; exact less_irrefl _)
        by_cases hb : f.b = []
        · rw [if_pos hb, if_pos hb, List.nil_append]
          by_cases hq : q = nm
          · rw [if_pos hq, hq, hlow]
          · simp only [getS]
            rw [if_neg hq, if_neg (by rw [hx]; exact Ne.symm hq)]
        · rw [if_neg hb, if_neg hb]
          simp only [List.singleton_append, getS]
          by_cases hq : q = nm
          · rw [if_pos hq, if_pos (by rw [hf]; exact hq.symm)]
          · rw [if_neg hq, if_neg (by rw [hf]; exact Ne.symm hq), if_neg (by rw [hx]; exact Ne.symm hq)]
      · rw [if_neg hx]
        by_cases hb : f.b = []
        · rw [if_pos hb, if_pos hb, List.nil_append]
          by_cases hq : q = nm
          · rw [if_pos hq, hq]
            simp only [getS]
            rw [if_neg hx, getS_low h.2 hl]
          · rw [if_neg hq]
        · rw [if_neg hb, if_neg hb]
          simp only [List.singleton_append, getS]
          by_cases hq : q = nm
          · rw [if_pos hq, if_pos (by rw [hf]; exact hq.symm)]
          · rw [if_neg hq, if_neg (by rw [hf]; exact Ne.symm hq)]
theorem checkL_ins : ∀ {l : List FileD} {a nm : Txt} {f : FileD}, checkL l a = true → less a nm = true → nameP nm = true → f.name = nm → (f.b ≠ [] → goodF f = true) → checkL (insF l nm f) a = true
  | [], a, nm, f, _, ha, hn, hf, hg => by
    unfold insF
    split
    · rfl
    · rename_i hb
      simp [checkL, hf, hn, ha, hg hb]
  | x :: r, a, nm, f, h, ha, hn, hf, hg => by
    have h0 := h
    simp only [checkL, Bool.and_eq_true] at h
    unfold insF
    cases hl : less x.name nm with
    | true =>
      rw [if_pos rfl]
      simp only [checkL, Bool.and_eq_true]
      exact ⟨h.1, checkL_ins h.2 hl hn hf hg⟩
    | false =>
      rw [if_neg (by simp)]
      have htot := less_total x.name nm
      rw [hl, Bool.false_or] at htot
      have hr : checkL (if x.name = nm then r else x :: r) nm = true := by
        by_cases hx : x.name = nm
        · rw [if_pos hx, ← hx]; exact h.2
        · rw [if_neg hx]
          simp only [checkL, Bool.and_eq_true]
          refine ⟨⟨h.1.1, ?_, h.1.2.2⟩, h.2⟩
          cases hlt : less nm x.name with
          | true => rfl
          | false => rw [hlt] at htot; simp [hx] at htot
      by_cases hb : f.b = []
      · rw [if_pos hb, List.nil_append]
        exact checkL_low hr (.inl ha)
      · rw [if_neg hb, List.singleton_append]
        simp only [checkL, Bool.and_eq_true]
        exact ⟨⟨by rw [hf]; exact hn, by rw [hf]; exact ha, hg hb⟩, by rw [hf]; exact hr⟩
theorem used_ins : ∀ {l : List FileD} {a nm : Txt} {f : FileD}, checkL l a = true → usedP (insF l nm f) + ((getS l nm).getD ⟨nm, [], 0⟩).b.length = usedP l + f.b.length
  | [], a, nm, f, _ => by
    unfold insF
    split
    · rename_i hb; simp [usedP, getS, hb]
    · simp [usedP, getS]
  | x :: r, a, nm, f, h => by
    simp only [checkL, Bool.and_eq_true] at h
    unfold insF getS
    cases hl : less x.name nm with
    | true =>
      rw [if_pos rfl, if_neg (less_ne hl)]
      have ih := used_ins (f := f) (nm := nm) h.2
      unfold usedP at ih ⊢
      simp only [List.map_cons, List.sum_cons]
      omega
    | false =>
      rw [if_neg (by simp)]
      have e : usedP (if f.b = [] then ([] : List FileD) else [f]) = f.b.length := by
        split
        · rename_i hb; simp [usedP, hb]
        · simp [usedP]
      by_cases hx : x.name = nm
      · rw [if_pos hx, if_pos hx]
        unfold usedP at e ⊢
        simp only [List.map_append, List.sum_append, List.map_cons, List.sum_cons, Option.getD_some]
        omega
      · rw [if_neg hx, if_neg hx, getS_low h.2 hl]
        unfold usedP at e ⊢
        simp only [List.map_append, List.sum_append, List.map_cons, List.sum_cons, Option.getD_none, List.length_nil]
        omega
theorem files_ext : ∀ {l m : List FileD} {a b : Txt}, checkL l a = true → checkL m b = true → (∀ q, getS l q = getS m q) → l = m
  | [], [], _, _, _, _, _ => rfl
  | [], y :: m, _, _, _, _, h => by have := h y.name; simp [getS] at this
  | x :: l, [], _, _, _, _, h => by have := h x.name; simp [getS] at this
  | x :: l, y :: m, a, b, h1, h2, h => by
    simp only [checkL, Bool.and_eq_true] at h1 h2
    have hx := h x.name
    have hy := h y.name
    simp only [getS, if_true] at hx hy
    have hp : x.name = y.name := by
      by_cases hp : x.name = y.name
      · exact hp
      · rw [if_neg (Ne.symm hp)] at hx
        rw [if_neg hp] at hy
        have m1 := (getS_mem hx.symm).1
        have m2 := (getS_mem hy).1
        have g1 := (checkL_mem h2.2 x m1).1
        have g2 := (checkL_mem h1.2 y m2).1
        rw [less_asymm g1] at g2
        cases g2
    rw [if_pos hp.symm] at hx
    obtain rfl : x = y := by injection hx
    congr 1
    refine files_ext h1.2 h2.2 fun q => ?_
    have := h q
    simp only [getS] at this
    by_cases hq : x.name = q
    · rw [getS_low h1.2 (by rw [hq]; exact less_irrefl _), getS_low h2.2 (by rw [hq]; exact less_irrefl _)]
    · rw [if_neg hq, if_neg hq] at this; exact this
end Go.Mir.D
