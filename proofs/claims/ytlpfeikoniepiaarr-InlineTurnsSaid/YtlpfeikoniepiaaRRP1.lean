/- Producers in order: put in, found, known. Plain law, no program. -/
import Derived.Test.YtlpfeikoniepiaaRRL22
set_option linter.all false
namespace Go.Mir.A

/-- a producer put in its place -/
def insP : List Prod → Prod → List Prod
  | [], q => [q]
  | p :: r, q => if p.pid < q.pid then p :: insP r q else if p.pid = q.pid then q :: r else q :: p :: r
theorem place_cons (p : Prod) (r : List Prod) (pid : Int) : place (p :: r) pid = if pid ≤ p.pid then 0 else place r pid + 1 := by
  unfold place
  rw [List.findIdx_cons]
  by_cases h : pid ≤ p.pid <;> simp [h]
theorem there_cons (p : Prod) (r : List Prod) (pid : Int) : there (p :: r) pid = if pid ≤ p.pid then decide (p.pid = pid) else there r pid := by
  unfold there
  rw [place_cons]
  by_cases h : pid ≤ p.pid
  · simp [h]
  · simp only [h, if_false]
    by_cases h2 : place r pid < r.length
    · simp [h2]
    · simp [h2]
theorem setP_eq (q : Prod) : ∀ l : List Prod, setP l q = insP l q := by
  intro l
  induction l with
  | nil => simp [setP, insP, place, there]
  | cons p r ih =>
    unfold setP at ih ⊢
    rw [place_cons, there_cons, insP]
    by_cases h1 : p.pid < q.pid
    · have h2 : ¬ q.pid ≤ p.pid := by omega
      simp only [h1, h2, if_true, if_false]
      rw [← ih]
      by_cases h3 : there r q.pid = true <;> simp [h3]
    · have h2 : q.pid ≤ p.pid := by omega
      by_cases h3 : p.pid = q.pid
      · simp [h3]
      · simp [h1, h2, h3]
theorem findP_nil (pid : Int) : findP [] pid = (zeroP, false) := rfl
theorem findP_cons (p : Prod) (r : List Prod) (pid : Int) : findP (p :: r) pid = if p.pid = pid then (p, true) else findP r pid := by
  unfold findP
  rw [List.findIdx_cons]
  by_cases h : p.pid = pid
  · simp [h]
  · simp only [h, decide_false, cond_false, if_false, List.length_cons, Nat.add_lt_add_iff_right, List.getElem_cons_succ]
theorem findP_ins (q : Prod) (pid : Int) : ∀ l : List Prod, findP (insP l q) pid = if q.pid = pid then (q, true) else findP l pid := by
  intro l
  induction l with
  | nil => simp [insP, findP_cons]
  | cons p r ih =>
    rw [insP]
    split
    · rename_i h
      rw [findP_cons, findP_cons, ih]
      by_cases h1 : p.pid = pid
      · rw [if_pos h1, if_pos h1, if_neg (by omega)]
      · rw [if_neg h1, if_neg h1]
    · rename_i h
      split
      · rename_i h2
        rw [findP_cons, findP_cons]
        by_cases h3 : q.pid = pid
        · rw [if_pos h3, if_pos h3]
        · rw [if_neg h3, if_neg h3, if_neg (by omega)]
      · rw [findP_cons]
theorem insP_comm (a b : Prod) (hab : a.pid ≠ b.pid) : ∀ l : List Prod, insP (insP l a) b = insP (insP l b) a := by
  intro l
  induction l with
  | nil =>
    simp only [insP]
    by_cases h1 : a.pid < b.pid
    · have h2 : ¬ b.pid < a.pid := by omega
      have h3 : ¬ b.pid = a.pid := by omega
      simp [h1, h2, h3, insP]
    · have h2 : b.pid < a.pid := by omega
      have h3 : ¬ a.pid = b.pid := by omega
      simp [h1, h2, h3, insP]
  | cons p r ih =>
    by_cases a1 : p.pid < a.pid
    · by_cases b1 : p.pid < b.pid
      · simp only [insP, a1, b1, if_true, ih]
      · by_cases b2 : p.pid = b.pid
        · have c1 : b.pid < a.pid := by omega
          simp [insP, a1, b1, b2, c1]
        · have c1 : b.pid < a.pid := by omega
          simp [insP, a1, b1, b2, c1]
    · by_cases a2 : p.pid = a.pid
      · by_cases b1 : p.pid < b.pid
        · have c1 : a.pid < b.pid := by omega
          simp [insP, a1, a2, b1, c1]
        · have b2 : ¬ p.pid = b.pid := by omega
          have c1 : b.pid < a.pid := by omega
          have c2 : ¬ a.pid < b.pid := by omega
          have c3 : ¬ a.pid = b.pid := by omega
          simp [insP, a1, a2, b1, b2, c1, c2, c3]
      · by_cases b1 : p.pid < b.pid
        · have c1 : a.pid < b.pid := by omega
          simp [insP, a1, a2, b1, c1]
        · by_cases b2 : p.pid = b.pid
          · have c1 : a.pid < b.pid := by omega
            have c2 : ¬ b.pid < a.pid := by omega
            have c3 : ¬ b.pid = a.pid := by omega
            simp [insP, a1, a2, b1, b2, c1, c2, c3]
          · by_cases c1 : a.pid < b.pid
            · have c2 : ¬ b.pid < a.pid := by omega
              have c3 : ¬ b.pid = a.pid := by omega
              simp [insP, a1, a2, b1, b2, c1, c2, c3]
            · have c2 : b.pid < a.pid := by omega
              have c3 : ¬ a.pid = b.pid := by omega
              simp [insP, a1, a2, b1, b2, c1, c2, c3]
theorem mayPs_ins (q : Prod) (hk : knownP q = true) : ∀ (l : List Prod) (last : Int), mayPs l last = true → last < q.pid → mayPs (insP l q) last = true := by
  intro l
  induction l with
  | nil => intro last _ h; simp [insP, mayPs, h, hk]
  | cons p r ih =>
    intro last h hq
    simp only [mayPs, Bool.and_eq_true, decide_eq_true_eq] at h
    rw [insP]
    split
    · rename_i h1
      simp [mayPs, h.1.1, h.1.2, ih p.pid h.2 h1]
    · split
      · rename_i h2
        simp [mayPs, hq, hk]
        rw [← h2]; exact h.2
      · simp [mayPs, hq, hk, h.1.2, h.2]
        omega
theorem okAll_mono {n : Int} : ∀ (l : List Seen) (a b : Int), a ≤ b → okAll l b n = true → okAll l a n = true := by
  intro l a b hab h
  cases l with
  | nil => simp only [okAll, decide_eq_true_eq] at h ⊢; omega
  | cons s r =>
    simp only [okAll, okS, Bool.and_eq_true, decide_eq_true_eq] at h ⊢
    refine ⟨⟨⟨⟨by omega, h.1.1.1.2⟩, h.1.1.2⟩, h.1.2⟩, h.2⟩
theorem okAll_snoc {n n' : Int} (s : Seen) (hs : s.seq = n) (hc : 1 ≤ s.count ∧ s.count ≤ 4) (hb : -1 ≤ s.base ∧ s.base ≤ 1048576) (hn : n' = s.seq + s.count) : ∀ (l : List Seen) (least : Int), okAll l least n = true → okAll (l ++ [s]) least n' = true := by
  intro l
  induction l with
  | nil =>
    intro least h
    simp only [okAll, okS, List.nil_append, Bool.and_eq_true, decide_eq_true_eq] at h ⊢
    omega
  | cons x r ih =>
    intro least h
    simp only [okAll, okS, List.cons_append, Bool.and_eq_true, decide_eq_true_eq] at h ⊢
    exact ⟨⟨⟨⟨h.1.1.1.1, by omega⟩, h.1.1.2⟩, h.1.2⟩, ih _ h.2⟩
theorem okAll_cut {n : Int} (l : List Seen) (k : Nat) (h : okAll l 0 n = true) : okAll (cutS l k) 0 n = true := by
  unfold cutS
  split
  · cases l with
    | nil => exact h
    | cons s r =>
      simp only [okAll, okS, Bool.and_eq_true, decide_eq_true_eq] at h
      exact okAll_mono r 0 _ (by omega) h.2
  · exact h
theorem mayB_get {b : Batch} (h : mayB b = true) : 1 ≤ b.pid ∧ b.pid ≤ 8 ∧ 0 ≤ b.epoch ∧ b.epoch ≤ 100 ∧ 0 ≤ b.seq ∧ 1 ≤ b.recs.length ∧ b.recs.length ≤ 4 ∧ b.seq + b.recs.length ≤ 1048576 := by
  simp only [mayB, Bool.and_eq_true, decide_eq_true_eq] at h
  omega
/-- a batch that is taken goes on just where its producer stands -/
theorem check_ok {l : List Prod} {b : Batch} (h : (checkP l b).2 = (false, 0)) : mayPs l 0 = true ∧ mayB b = true ∧ (baseP l b).pid = b.pid ∧ (baseP l b).epoch = b.epoch ∧ (baseP l b).next = b.seq ∧ okAll (baseP l b).seen 0 b.seq = true ∧ (baseP l b).seen.length ≤ 3 ∧ (baseP l b).seen.find? (qSeen b) = none := by
  obtain ⟨h1, h2⟩ := checkP_may (show (checkP l b).2.2 = 0 by rw [h])
  refine ⟨h1, h2, ?_⟩
  rw [checkP_eq, if_neg (by rw [h1, h2]; simp)] at h
  unfold baseP
  rcases hf : findP l b.pid with ⟨p, known⟩
  rw [hf] at h
  cases known with
  | false =>
    simp at h
    have h0 : b.seq = 0 := by
      by_cases h0 : b.seq = 0
      · exact h0
      · rw [if_neg h0] at h; simp at h
    simp [h0, okAll]
  | true =>
    obtain ⟨hp, hpp⟩ := findP_mem hf
    have hk := mayPs_mem h1 p hp
    simp only [true_and] at h
    by_cases e1 : b.epoch < p.epoch
    · rw [if_pos e1] at h; simp at h
    · rw [if_neg e1] at h
      by_cases e2 : b.epoch = p.epoch
      · rw [if_pos e2] at h
        rw [if_pos ⟨rfl, e2.symm⟩]
        unfold dupOr at h
        cases hfd : p.seen.find? (qSeen b) with
        | some s => rw [hfd] at h; simp at h
        | none =>
          rw [hfd] at h
          have hn : b.seq = p.next := by
            by_cases hn : b.seq = p.next
            · exact hn
            · simp [hn] at h
          refine ⟨hpp, e2.symm, hn.symm, ?_, knownP_len hk, rfl⟩
          simp only [knownP, Bool.and_eq_true] at hk
          rw [hn]; exact hk.2
      · rw [if_neg e2] at h
        rw [if_neg (fun hh => e2 hh.2.symm)]
        have h0 : b.seq = 0 := by
          by_cases h0 : b.seq = 0
          · exact h0
          · rw [if_neg h0] at h; simp at h
        simp [h0, okAll]
theorem newP_known {l : List Prod} {b : Batch} {base : Int} (h : (checkP l b).2 = (false, 0)) (hb : -1 ≤ base ∧ base ≤ 1048576) : knownP (newP (baseP l b) b base) = true ∧ (newP (baseP l b) b base).next = b.seq + b.recs.length := by
  obtain ⟨h1, h2, h3, h4, h5, h6, h7, -⟩ := check_ok h
  obtain ⟨k1, k2, k3, k4, k5, k6, k7, k8⟩ := mayB_get h2
  have hw : IntKind.wrap .i64 (b.seq + b.recs.length) = b.seq + b.recs.length := wrap64 (by omega) (by omega)
  refine ⟨?_, hw⟩
  have hc := okAll_cut _ (baseP l b).seen.length (okAll_snoc (n' := b.seq + b.recs.length) ⟨b.seq, b.recs.length, base⟩ rfl ⟨by simp; omega, by simp; omega⟩ hb rfl _ 0 h6)
  have hlen : (cutS ((baseP l b).seen ++ [⟨b.seq, b.recs.length, base⟩]) (baseP l b).seen.length).length ≤ 3 := by
    unfold cutS
    split
    · simp; omega
    · simp; omega
  unfold knownP newP
  simp only [h3, h4, hw, hc, hlen, Bool.and_true, Bool.and_eq_true, decide_eq_true_eq]
  exact ⟨by omega, trivial⟩
theorem take_ok {l : List Prod} {b : Batch} {base : Int} (h : (checkP l b).2 = (false, 0)) (hb : -1 ≤ base ∧ base ≤ 1048576) : takeP l b base = (insP l (newP (baseP l b) b base), 0) := by
  unfold takeP
  rw [if_neg (by omega), h, setP_eq]
  simp
theorem take_err {l : List Prod} {b : Batch} {base : Int} (hb : -1 ≤ base ∧ base ≤ 1048576) (h : (takeP l b base).2 = 0) : (checkP l b).2 = (false, 0) := by
  unfold takeP at h
  rw [if_neg (by omega)] at h
  split at h
  · rename_i h1; exact absurd h h1
  · rename_i h1
    simp only [ne_eq, Decidable.not_not] at h1
    split at h
    · cases h
    · rename_i h2
      exact Prod.ext (by simpa using h2) h1
theorem take_may {l : List Prod} {b : Batch} {base : Int} (h : (checkP l b).2 = (false, 0)) (hb : -1 ≤ base ∧ base ≤ 1048576) : mayPs (insP l (newP (baseP l b) b base)) 0 = true := by
  obtain ⟨h1, h2, h3, -⟩ := check_ok h
  refine mayPs_ins _ (newP_known h hb).1 l 0 h1 ?_
  show 0 < (baseP l b).pid
  have := (mayB_get h2).1
  omega
/-- what a batch is hangs on its own producer alone -/
theorem check_other {l m : List Prod} {b : Batch} (hl : mayPs l 0 = mayPs m 0) (hf : findP l b.pid = findP m b.pid) : checkP l b = checkP m b ∧ baseP l b = baseP m b := by
  refine ⟨?_, ?_⟩
  · rw [checkP_eq, checkP_eq, hl, hf]
  · unfold baseP; rw [hf]
/-- two batches of unlike producers -/
theorem apart {l : List Prod} {a b : Batch} {x y : Int} (hab : a.pid ≠ b.pid) (hx : -1 ≤ x ∧ x ≤ 1048576) (hy : -1 ≤ y ∧ y ≤ 1048576) (h1 : (takeP l a x).2 = 0) (h2 : (takeP l b y).2 = 0) :
    (takeP (takeP l a x).1 b y).2 = 0 ∧ (takeP (takeP l b y).1 a x).2 = 0 ∧ (takeP (takeP l a x).1 b y).1 = (takeP (takeP l b y).1 a x).1 ∧ mayPs (takeP (takeP l a x).1 b y).1 0 = true ∧ findP (takeP l a x).1 b.pid = findP l b.pid := by
  have ca := take_err hx h1
  have cb := take_err hy h2
  have ha := check_ok ca
  have hb := check_ok cb
  rw [take_ok ca hx, take_ok cb hy]
  simp only
  have fb : findP (insP l (newP (baseP l a) a x)) b.pid = findP l b.pid := by
    rw [findP_ins, if_neg]
    show ¬ (baseP l a).pid = b.pid
    rw [ha.2.2.1]; exact hab
  have fa : findP (insP l (newP (baseP l b) b y)) a.pid = findP l a.pid := by
    rw [findP_ins, if_neg]
    show ¬ (baseP l b).pid = a.pid
    rw [hb.2.2.1]; exact fun h => hab h.symm
  obtain ⟨c1, c2⟩ := check_other (l := insP l (newP (baseP l a) a x)) (m := l) (b := b) (by rw [take_may ca hx, ha.1]) fb
  obtain ⟨c3, c4⟩ := check_other (l := insP l (newP (baseP l b) b y)) (m := l) (b := a) (by rw [take_may cb hy, hb.1]) fa
  have k1 : (checkP (insP l (newP (baseP l a) a x)) b).2 = (false, 0) := by rw [c1]; exact cb
  have k2 : (checkP (insP l (newP (baseP l b) b y)) a).2 = (false, 0) := by rw [c3]; exact ca
  rw [take_ok k1 hy, take_ok k2 hx, c2, c4]
  refine ⟨rfl, rfl, ?_, ?_, fb⟩
  · refine insP_comm _ _ ?_ l
    show (baseP l a).pid ≠ (baseP l b).pid
    rw [ha.2.2.1, hb.2.2.1]; exact hab
  · have := take_may k1 hy
    rw [c2] at this
    exact this
end Go.Mir.A
