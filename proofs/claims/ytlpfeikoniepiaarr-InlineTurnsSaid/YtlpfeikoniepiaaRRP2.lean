/- Batches that come, one behind the other: what the last ones were. Plain law, no program. -/
import Derived.Test.YtlpfeikoniepiaaRRP1
set_option linter.all false
namespace Go.Mir.A
abbrev Tk := Batch × Int
/-- is a batch one of the last of its producer that were taken (the youngest first)? -/
def dupR : List Tk → Batch → Int → Nat → Bool
  | [], _, _, _ => false
  | t :: r, b, base, n => if t.1.pid ≠ b.pid then dupR r b base n else if 3 < n + 1 ∨ t.1.epoch ≠ b.epoch then false else
      if t.1.seq = b.seq ∧ t.1.recs.length = b.recs.length then decide (t.2 = base) else dupR r b base (n + 1)
def seenOf (t : Tk) : Seen := ⟨t.1.seq, t.1.recs.length, t.2⟩
/-- the last ones of a producer's epoch -/
def runs (pid epoch : Int) : List Tk → Nat → List Seen
  | [], _ => []
  | _ :: _, 0 => []
  | t :: r, k + 1 => if t.1.pid ≠ pid then runs pid epoch r (k + 1) else if t.1.epoch ≠ epoch then [] else seenOf t :: runs pid epoch r k
theorem runs_zero (pid epoch : Int) (l : List Tk) : runs pid epoch l 0 = [] := by cases l <;> rfl
theorem dupR_runs (b : Batch) (base : Int) : ∀ (l : List Tk) (n k : Nat), n + k = 3 → dupR l b base n = match (runs b.pid b.epoch l k).find? (qSeen b) with
    | some s => decide (s.base = base)
    | none => false := by
  intro l
  induction l with
  | nil => intro n k _; rfl
  | cons t r ih =>
    intro n k hk
    cases k with
    | zero =>
      obtain rfl : n = 3 := by omega
      have := ih 3 0 rfl
      rw [runs_zero] at this ⊢
      unfold dupR
      split
      · exact this
      · simp
    | succ k =>
      unfold dupR runs
      split
      · exact ih n (k + 1) hk
      · rename_i h1
        by_cases h2 : t.1.epoch ≠ b.epoch
        · rw [if_pos (.inr h2), if_pos h2]; rfl
        · rw [if_neg (by omega), if_neg h2, List.find?_cons]
          by_cases h3 : t.1.seq = b.seq ∧ t.1.recs.length = b.recs.length
          · have : qSeen b (seenOf t) = true := by simp [qSeen, seenOf, h3.1, h3.2]
            rw [if_pos h3, this]
            rfl
          · have : qSeen b (seenOf t) = false := by
              rw [Bool.eq_false_iff]
              intro hq
              unfold qSeen at hq
              rw [Bool.and_eq_true] at hq
              have q1 : t.1.seq = b.seq := of_decide_eq_true hq.1
              have q2 : (t.1.recs.length : Int) = b.recs.length := of_decide_eq_true hq.2
              exact h3 ⟨q1, by omega⟩
            rw [if_neg h3, this]
            exact ih (n + 1) k (by omega)
theorem runs_take (pid epoch : Int) : ∀ (l : List Tk) (k : Nat), runs pid epoch l k = (runs pid epoch l (k + 1)).take k := by
  intro l
  induction l with
  | nil => intro k; simp [runs]
  | cons t r ih =>
    intro k
    cases k with
    | zero => simp [runs_zero]
    | succ k =>
      by_cases h1 : t.1.pid ≠ pid
      · simp only [runs, if_pos h1]; exact ih (k + 1)
      · by_cases h2 : t.1.epoch ≠ epoch
        · simp only [runs, if_neg h1, if_pos h2]; rfl
        · simp only [runs, if_neg h1, if_neg h2, List.take_succ_cons]; rw [← ih k]
theorem runs_none {pid epoch : Int} : ∀ (l : List Tk) (k : Nat), (∀ t ∈ l, t.1.pid = pid → t.1.epoch ≠ epoch) → runs pid epoch l k = [] := by
  intro l
  induction l with
  | nil => intro k _; rfl
  | cons t r ih =>
    intro k h
    cases k with
    | zero => exact runs_zero _ _ _
    | succ k =>
      unfold runs
      split
      · exact ih _ fun x hx => h x (List.mem_cons_of_mem _ hx)
      · rename_i h1
        rw [if_pos (h t (List.mem_cons_self ..) (Decidable.not_not.1 h1))]
theorem runs_filter {pid other epoch : Int} (h : pid ≠ other) : ∀ (l : List Tk) (k : Nat), runs pid epoch (l.filter fun t => decide (t.1.pid ≠ other)) k = runs pid epoch l k := by
  intro l
  induction l with
  | nil => intro k; rfl
  | cons t r ih =>
    intro k
    cases k with
    | zero => rw [runs_zero, runs_zero]
    | succ k =>
      by_cases h1 : t.1.pid ≠ other
      · rw [List.filter_cons_of_pos (by simpa using h1)]
        simp only [runs, ih]
      · rw [List.filter_cons_of_neg (by simpa using h1)]
        have : t.1.pid ≠ pid := by simp only [ne_eq, Decidable.not_not] at h1; omega
        simp only [runs, if_pos this]
        exact ih (k + 1)
/-- how the producers and what was taken hang together -/
def Rel (P : List Prod) (T : List Tk) : Prop := ∀ pid : Int, ((findP P pid).2 = true → (findP P pid).1.seen.reverse = runs pid (findP P pid).1.epoch T.reverse 3 ∧ ∀ t ∈ T, t.1.pid = pid → t.1.epoch ≤ (findP P pid).1.epoch) ∧ ((findP P pid).2 = false → ∀ t ∈ T, t.1.pid ≠ pid)
theorem okAll_ge {n : Int} : ∀ (l : List Seen) (least : Int), okAll l least n = true → ∀ s ∈ l, least ≤ s.seq := by
  intro l
  induction l with
  | nil => intro _ _ s hs; cases hs
  | cons x r ih =>
    intro least h s hs
    simp only [okAll, okS, Bool.and_eq_true, decide_eq_true_eq] at h
    rcases List.mem_cons.1 hs with rfl | hs
    · exact h.1.1.1.1
    · have := ih _ h.2 s hs; omega
theorem okAll_uniq {n : Int} : ∀ (l : List Seen) (least : Int), okAll l least n = true → ∀ s ∈ l, ∀ s' ∈ l, s.seq = s'.seq → s = s' := by
  intro l
  induction l with
  | nil => intro _ _ s hs; cases hs
  | cons x r ih =>
    intro least h s hs s' hs' he
    simp only [okAll, okS, Bool.and_eq_true, decide_eq_true_eq] at h
    rcases List.mem_cons.1 hs with k1 | k1
    · rcases List.mem_cons.1 hs' with k2 | k2
      · rw [k1, k2]
      · have := okAll_ge _ _ h.2 s' k2; rw [k1] at he; omega
    · rcases List.mem_cons.1 hs' with k2 | k2
      · have := okAll_ge _ _ h.2 s k1; rw [k2] at he; omega
      · exact ih _ h.2 s k1 s' k2 he
/-- a duplicate is one of the last ones, with its base -/
theorem dup_is {P : List Prod} {T : List Tk} {b : Batch} (hm : mayPs P 0 = true) (hb : mayB b = true) (hr : Rel P T) : (checkP P b).2.1 = (decide ((checkP P b).2.2 = 0) && dupR T.reverse b (checkP P b).1 0) := by
  rw [dupR_runs b _ _ 0 3 rfl, checkP_eq, if_neg (by rw [hm, hb]; simp)]
  obtain ⟨r1, r2⟩ := hr b.pid
  rcases hf : findP P b.pid with ⟨p, known⟩
  rw [hf] at r1 r2
  cases known with
  | false =>
    have := runs_none (epoch := b.epoch) T.reverse 3 fun t ht hp => absurd hp (r2 rfl t (List.mem_reverse.1 ht))
    rw [this]
    simp only [Bool.false_eq_true, false_and, if_false, List.find?_nil, Bool.and_false]
    split <;> rfl
  | true =>
    obtain ⟨r3, r4⟩ := r1 rfl
    simp only [true_and] at r3 r4 ⊢
    have hk := mayPs_mem hm p (findP_mem hf).1
    simp only [knownP, Bool.and_eq_true] at hk
    by_cases e1 : b.epoch < p.epoch
    · rw [if_pos e1]; rfl
    · rw [if_neg e1]
      by_cases e2 : b.epoch = p.epoch
      · rw [if_pos e2, e2, ← r3]
        unfold dupOr
        cases h1 : p.seen.find? (qSeen b) with
        | none =>
          have : p.seen.reverse.find? (qSeen b) = none := by
            rw [List.find?_eq_none] at h1 ⊢
            exact fun s hs => h1 s (List.mem_reverse.1 hs)
          rw [this]
          simp only [Bool.and_false]
          split <;> rfl
        | some s =>
          have q1 := List.find?_some h1
          have m1 := List.mem_of_find?_eq_some h1
          cases h2 : p.seen.reverse.find? (qSeen b) with
          | none =>
            rw [List.find?_eq_none] at h2
            exact absurd q1 (h2 s (List.mem_reverse.2 m1))
          | some s' =>
            have q2 := List.find?_some h2
            have m2 := List.mem_reverse.1 (List.mem_of_find?_eq_some h2)
            simp only [qSeen, Bool.and_eq_true, decide_eq_true_eq] at q1 q2
            obtain rfl := okAll_uniq _ _ hk.2 s m1 s' m2 (by omega)
            simp
      · rw [if_neg e2]
        have : runs b.pid b.epoch T.reverse 3 = [] := runs_none _ _ fun t ht hp => by have := r4 t (List.mem_reverse.1 ht) hp; omega
        rw [this]
        simp only [List.find?_nil, Bool.and_false]
        split <;> rfl
theorem rel_nil : Rel [] [] := fun pid => ⟨fun h => by simp [findP_nil] at h, fun _ t ht => by cases ht⟩
theorem rel_take {P : List Prod} {T : List Tk} {b : Batch} {i : Int} (h : (checkP P b).2 = (false, 0)) (hr : Rel P T) : Rel (insP P (newP (baseP P b) b i)) (T ++ [(b, i)]) := by
  obtain ⟨h1, h2, h3, h4, h5, h6, h7, h8⟩ := check_ok h
  intro pid
  rw [findP_ins]
  have hpid : (newP (baseP P b) b i).pid = b.pid := h3
  rw [hpid]
  by_cases hp : b.pid = pid
  · subst hp
    rw [if_pos rfl]
    refine ⟨fun _ => ?_, fun hh => by cases hh⟩
    have he : (newP (baseP P b) b i).epoch = b.epoch := h4
    rw [he]
    obtain ⟨r1, r2⟩ := hr b.pid
    have hle : ∀ t ∈ T, t.1.pid = b.pid → t.1.epoch ≤ b.epoch := by
      intro t ht htp
      rcases hf : findP P b.pid with ⟨p, known⟩
      rw [hf] at r1 r2
      cases known with
      | false => exact absurd htp (r2 rfl t ht)
      | true =>
        have r4 := (r1 rfl).2 t ht htp
        rw [checkP_eq, if_neg (by rw [h1, h2]; simp), hf] at h
        simp only [true_and] at h
        by_cases e1 : b.epoch < p.epoch
        · rw [if_pos e1] at h; simp at h
        · simp only at r4; omega
    have hbs : (baseP P b).seen.reverse = runs b.pid b.epoch T.reverse 3 := by
      unfold baseP
      by_cases hc : (findP P b.pid).2 = true ∧ (findP P b.pid).1.epoch = b.epoch
      · rw [if_pos hc, (r1 hc.1).1, hc.2]
      · rw [if_neg hc]
        refine (runs_none _ _ fun t ht htp => ?_).symm
        have ht := List.mem_reverse.1 ht
        intro heq
        apply hc
        cases hk : (findP P b.pid).2 with
        | false => exact absurd htp (r2 hk t ht)
        | true =>
          refine ⟨rfl, ?_⟩
          have r4 := (r1 hk).2 t ht htp
          rw [checkP_eq, if_neg (by rw [h1, h2]; simp), hk] at h
          simp only [true_and] at h
          by_cases e1 : b.epoch < (findP P b.pid).1.epoch
          · rw [if_pos e1] at h; simp at h
          · omega
    refine ⟨?_, ?_⟩
    · rw [List.reverse_append]
      show (cutS ((baseP P b).seen ++ [⟨b.seq, b.recs.length, i⟩]) (baseP P b).seen.length).reverse = runs b.pid b.epoch ((b, i) :: T.reverse) 3
      have : runs b.pid b.epoch ((b, i) :: T.reverse) 3 = seenOf (b, i) :: runs b.pid b.epoch T.reverse 2 := by simp [runs]
      rw [this, runs_take b.pid b.epoch T.reverse 2, ← hbs]
      unfold cutS
      split
      · rename_i h3'
        rcases hs : (baseP P b).seen with _ | ⟨x, _ | ⟨y, _ | ⟨z, _ | ⟨u, w⟩⟩⟩⟩ <;> rw [hs] at h3' <;> simp at h3'
        simp [seenOf]
      · rename_i h3'
        rw [List.reverse_append, List.take_of_length_le (by rw [List.length_reverse]; omega)]
        rfl
    · intro t ht htp
      rcases List.mem_append.1 ht with ht | ht
      · exact hle t ht htp
      · simp only [List.mem_singleton] at ht; subst ht; exact Int.le_refl _
  · rw [if_neg hp]
    obtain ⟨r1, r2⟩ := hr pid
    refine ⟨fun hk => ?_, fun hk t ht => ?_⟩
    · obtain ⟨r3, r4⟩ := r1 hk
      refine ⟨?_, fun t ht htp => ?_⟩
      · rw [List.reverse_append]
        show _ = runs pid _ ((b, i) :: T.reverse) 3
        have : runs pid (findP P pid).1.epoch ((b, i) :: T.reverse) 3 = runs pid (findP P pid).1.epoch T.reverse 3 := by simp [runs, hp]
        rw [this]; exact r3
      · rcases List.mem_append.1 ht with ht | ht
        · exact r4 t ht htp
        · simp only [List.mem_singleton] at ht; subst ht; exact absurd htp hp
    · rcases List.mem_append.1 ht with ht | ht
      · exact r2 hk t ht
      · simp only [List.mem_singleton] at ht; subst ht; exact hp
def clearP (l : List Prod) (pid : Int) : List Prod := if (findP l pid).2 = true then setP l { (findP l pid).1 with seen := [] } else l
theorem clear_may {P : List Prod} (pid : Int) (h : mayPs P 0 = true) : mayPs (clearP P pid) 0 = true := by
  unfold clearP
  split
  · rename_i hk
    rcases hf : findP P pid with ⟨p, known⟩
    rw [hf] at hk
    obtain rfl : known = true := hk
    have hp := mayPs_mem h p (findP_mem hf).1
    have hp' := hp
    simp only [knownP, okAll, Bool.and_eq_true, decide_eq_true_eq] at hp'
    rw [setP_eq]
    refine mayPs_ins _ ?_ _ _ h (by simp only; omega)
    simp only [knownP, okAll, List.length_nil, Nat.zero_le, decide_true, Bool.and_true, Bool.and_eq_true, decide_eq_true_eq]
    omega
  · exact h
theorem rel_clear {P : List Prod} {T : List Tk} (pid : Int) (hr : Rel P T) : Rel (clearP P pid) (T.filter fun t => decide (t.1.pid ≠ pid)) := by
  have hno : ∀ t ∈ T.filter fun t => decide (t.1.pid ≠ pid), t.1.pid ≠ pid := fun t ht => by simpa using (List.mem_filter.1 ht).2
  have hin : ∀ t ∈ T.filter fun t => decide (t.1.pid ≠ pid), t ∈ T := fun t ht => (List.mem_filter.1 ht).1
  intro q
  have hfind : q ≠ pid → findP (clearP P pid) q = findP P q := by
    intro hq
    unfold clearP
    split
    · rename_i hk
      rcases hf : findP P pid with ⟨p, known⟩
      rw [hf] at hk
      obtain rfl : known = true := hk
      rw [setP_eq, findP_ins, if_neg]
      show ¬ p.pid = q
      rw [(findP_mem hf).2]; exact fun h => hq h.symm
    · rfl
  by_cases hq : q = pid
  · subst hq
    refine ⟨fun hk => ⟨?_, fun t ht htp => absurd htp (hno t ht)⟩, fun _ => hno⟩
    rw [runs_none _ _ fun t ht htp => absurd htp (hno t (List.mem_reverse.1 ht))]
    unfold clearP at hk ⊢
    by_cases hk2 : (findP P q).2 = true
    · rw [if_pos hk2] at hk ⊢
      rcases hf : findP P q with ⟨p, known⟩
      rw [hf] at hk2
      obtain rfl : known = true := hk2
      rw [setP_eq, findP_ins, if_pos (show p.pid = q from (findP_mem hf).2)]
      rfl
    · rw [if_neg hk2] at hk; exact absurd hk hk2
  · rw [hfind hq]
    obtain ⟨r1, r2⟩ := hr q
    refine ⟨fun hk => ⟨?_, fun t ht htp => (r1 hk).2 t (hin t ht) htp⟩, fun hk t ht => r2 hk t (hin t ht)⟩
    rw [← List.filter_reverse, runs_filter hq]
    exact (r1 hk).1
end Go.Mir.A
