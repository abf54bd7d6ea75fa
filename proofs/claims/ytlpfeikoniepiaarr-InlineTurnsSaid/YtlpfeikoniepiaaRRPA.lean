/- What a part that comes of entries is. Plain law, no program. -/
import Derived.Test.YtlpfeikoniepiaaRRJA
set_option linter.all false
namespace Go.Mir.A

def last3 (l : List Seen) : List Seen := l.drop (l.length - 3)
def seenB (b : Batch) : Seen := ⟨b.seq, b.recs.length, -1⟩
theorem last3_len (l : List Seen) : (last3 l).length ≤ 3 := by unfold last3; rw [List.length_drop]; omega
theorem last3_short {l : List Seen} (h : l.length ≤ 3) : last3 l = l := by unfold last3; rw [show l.length - 3 = 0 by omega, List.drop_zero]
theorem last3_app (l : List Seen) (s : Seen) : last3 (last3 l ++ [s]) = last3 (l ++ [s]) := by
  unfold last3
  simp only [List.length_append, List.length_drop, List.length_cons, List.length_nil]
  by_cases h : l.length ≤ 3
  · rw [show l.length - 3 = 0 by omega, List.drop_zero, Nat.sub_zero]
  · rw [List.drop_append_of_le_length (by rw [List.length_drop]; omega), List.drop_append_of_le_length (by omega), List.drop_drop]
    congr 2
    omega
theorem cutS_last3 {l : List Seen} (h : l.length ≤ 3) (s : Seen) : cutS (l ++ [s]) l.length = last3 (l ++ [s]) := by
  unfold cutS last3
  simp only [List.length_append, List.length_cons, List.length_nil]
  by_cases h3 : l.length = 3
  · rw [if_pos h3, h3]
  · rw [if_neg h3, show l.length + (0 + 1) - 3 = 0 by omega, List.drop_zero]
/-- batches, one right behind the other, from a sequence on -/
def chain : List Batch → Int → Int → Bool
  | [], a, e => decide (a = e)
  | b :: l, a, e => decide (b.seq = a) && chain l (a + b.recs.length) e
theorem chain_snoc : ∀ (l : List Batch) (a : Int) (b : Batch), chain l a b.seq = true → chain (l ++ [b]) a (b.seq + b.recs.length) = true
  | [], a, b, h => by simp only [chain, decide_eq_true_eq] at h; simp [chain, h]
  | c :: l, a, b, h => by
    simp only [chain, Bool.and_eq_true, decide_eq_true_eq] at h
    simp only [List.cons_append, chain, Bool.and_eq_true, decide_eq_true_eq]
    exact ⟨h.1, chain_snoc l _ b h.2⟩
/-- how an open transaction and its producer hang together -/
structure OpenRel (P : Prod) (o : Opn) (E : List Seen) : Prop where
  epoch : P.epoch = o.epoch
  some : o.bats ≠ []
  len : o.bats.length ≤ 8
  bat : ∀ b ∈ o.bats, mayB b = true ∧ b.pid = o.pid ∧ b.epoch = o.epoch ∧ b.txn = true
  first : ∃ a : Int, chain o.bats a P.next = true ∧ okAll E 0 a = true
  seen : P.seen = last3 (E ++ o.bats.map seenB)
structure goodRow (fin : Int) (r : Row) : Prop where
  off : 0 ≤ r.off ∧ r.off < fin
  pid : 1 ≤ r.pid ∧ r.pid ≤ 8
  seq : 0 ≤ r.seq ∧ r.seq ≤ 1048575
  key : r.key.length ≤ 16
  value : r.value.length ≤ 16
structure Good (p : Part) : Prop where
  fin : 0 ≤ p.fin ∧ p.fin ≤ 1048576
  nrows : (p.rows.length : Int) ≤ p.fin
  rows : ∀ r ∈ p.rows, goodRow p.fin r
  opn : risen p.opn 0 = true ∧ ∀ o ∈ p.opn, o.pid ≤ 8
  prods : mayPs p.prods 0 = true
  rel : ∀ o ∈ p.opn, (findP p.prods o.pid).2 = true ∧ ∃ E, OpenRel (findP p.prods o.pid).1 o E
theorem risen_len : ∀ (l : List Opn) (a : Int), 0 ≤ a → risen l a = true → (∀ o ∈ l, o.pid ≤ 8) → a + l.length ≤ 8 ∨ l = []
  | [], a, _, _, _ => .inr rfl
  | o :: l, a, h0, h, hp => by
    simp only [risen, Bool.and_eq_true, decide_eq_true_eq] at h
    have h1 := hp o (List.mem_cons_self ..)
    refine .inl ?_
    rcases risen_len l o.pid (by omega) h.2 (fun x hx => hp x (List.mem_cons_of_mem _ hx)) with h2 | h2
    · simp only [List.length_cons]; omega
    · subst h2; simp; omega
theorem mayPs_len : ∀ (l : List Prod) (a : Int), 0 ≤ a → mayPs l a = true → a + l.length ≤ 8 ∨ l = []
  | [], a, _, _ => .inr rfl
  | p :: l, a, h0, h => by
    simp only [mayPs, Bool.and_eq_true, decide_eq_true_eq] at h
    have h1 := h.1.2
    simp only [knownP, Bool.and_eq_true, decide_eq_true_eq] at h1
    refine .inl ?_
    rcases mayPs_len l p.pid (by omega) h.2 with h2 | h2
    · simp only [List.length_cons]; omega
    · subst h2; simp; omega
theorem good_ok {p : Part} (h : Good p) : okPt 850 p := by
  have h1 : p.opn.length ≤ 8 := by
    rcases risen_len p.opn 0 (Int.le_refl _) h.opn.1 h.opn.2 with k | k
    · omega
    · rw [k]; simp
  have h2 : p.prods.length ≤ 8 := by
    rcases mayPs_len p.prods 0 (Int.le_refl _) h.prods with k | k
    · omega
    · rw [k]; simp
  refine ⟨?_, by omega, fun o ho => ?_, ⟨by omega, fun x hx => ?_⟩, h.fin⟩
  · have := h.nrows; have := h.fin; omega
  · obtain ⟨-, E, hE⟩ := h.rel o ho
    exact ⟨hE.len, fun b hb => (hE.bat b hb).1⟩
  · have hk := mayPs_mem h.prods x hx
    exact ⟨by have := knownP_len hk; omega, rngS_known hk⟩
theorem good_zero : Good zeroPt := ⟨by decide, by decide, (fun r hr => by cases hr), ⟨rfl, fun o ho => by cases ho⟩, rfl, fun o ho => by cases ho⟩
end Go.Mir.A
/- Each entry leaves a part as it may be. Plain law, no program. -/
namespace Go.Mir.A

theorem goodRow_up {a b : Int} {r : Row} (h : goodRow a r) (hab : a ≤ b) : goodRow b r := ⟨⟨h.off.1, by have := h.off.2; omega⟩, h.pid, h.seq, h.key, h.value⟩
theorem rowsB_good {b : Batch} (hb : mayB b = true) {f : Int} (hf : 0 ≤ f) : ∀ r ∈ rowsB b f, goodRow (f + b.recs.length) r := by
  intro r hr
  unfold rowsB at hr
  obtain ⟨i, hi, rfl⟩ := List.mem_mapIdx.1 hr
  have hg := mayB_get hb
  have hany : b.recs.any badR = false := by
    rw [mayB_of (by omega)] at hb
    simpa using hb
  have hbr := List.any_eq_false.1 hany _ (List.getElem_mem hi)
  simp only [badR, Bool.or_eq_true, decide_eq_true_eq, not_or] at hbr
  exact ⟨by simp only [rowAt]; rw [if_neg (by omega)]; omega, by simp only [rowAt]; omega, by simp only [rowAt]; omega, by simp only [rowAt]; omega, by simp only [rowAt]; omega⟩
theorem addAll_good : ∀ (l : List Batch) (p : Part), (∀ b ∈ l, mayB b = true) → 0 ≤ p.fin → (p.rows.length : Int) ≤ p.fin → (∀ r ∈ p.rows, goodRow p.fin r) →
    (((l.foldl addP p).rows.length : Int) ≤ (l.foldl addP p).fin) ∧ ∀ r ∈ (l.foldl addP p).rows, goodRow (l.foldl addP p).fin r
  | [], p, _, _, h2, h3 => ⟨h2, h3⟩
  | b :: l, p, hb, h1, h2, h3 => by
    rw [List.foldl_cons]
    refine addAll_good l (addP p b) (fun x hx => hb x (List.mem_cons_of_mem _ hx)) (by simp only [addP]; omega) ?_ fun r hr => ?_
    · simp only [addP, List.length_append, rowsB_len]; omega
    · simp only [addP, List.mem_append] at hr ⊢
      rcases hr with hr | hr
      · exact goodRow_up (h3 r hr) (by omega)
      · exact rowsB_good (hb b (List.mem_cons_self ..)) h1 r hr
theorem risen_mem : ∀ {l : List Opn} {a : Int}, risen l a = true → ∀ o ∈ l, a < o.pid
  | [], a, _, o, ho => by cases ho
  | x :: l, a, h, o, ho => by
    simp only [risen, Bool.and_eq_true, decide_eq_true_eq] at h
    rcases List.mem_cons.1 ho with rfl | ho
    · exact h.1
    · have := risen_mem h.2 o ho; omega
theorem risen_low : ∀ {l : List Opn} {a b : Int}, risen l b = true → a ≤ b → risen l a = true
  | [], _, _, _, _ => rfl
  | x :: l, a, b, h, hab => by
    simp only [risen, Bool.and_eq_true, decide_eq_true_eq] at h ⊢
    exact ⟨by omega, h.2⟩
theorem risen_filter (q : Opn → Bool) : ∀ (l : List Opn) (a : Int), risen l a = true → risen (l.filter q) a = true
  | [], a, _ => rfl
  | x :: l, a, h => by
    simp only [risen, Bool.and_eq_true, decide_eq_true_eq] at h
    rw [List.filter_cons]
    split
    · simp only [risen, Bool.and_eq_true, decide_eq_true_eq]; exact ⟨h.1, risen_filter q l _ h.2⟩
    · exact risen_filter q l a (risen_low h.2 (by omega))
theorem risen_put (n : Opn) : ∀ (l : List Opn) (a : Int), risen l a = true → a < n.pid → risen ((l.filter fun o => decide (o.pid < n.pid)) ++ [n] ++ l.filter fun o => decide (n.pid < o.pid)) a = true
  | [], a, _, h => by simp [risen, h]
  | x :: l, a, h, hn => by
    simp only [risen, Bool.and_eq_true, decide_eq_true_eq] at h
    by_cases h1 : x.pid < n.pid
    · have h2 : ¬ n.pid < x.pid := by omega
      rw [List.filter_cons_of_pos (by simpa using h1), List.filter_cons_of_neg (by simpa using h2)]
      simp only [List.cons_append, risen, Bool.and_eq_true, decide_eq_true_eq]
      exact ⟨h.1, risen_put n l x.pid h.2 h1⟩
    · have hbig : ∀ o ∈ l, x.pid < o.pid := risen_mem h.2
      have e1 : (l.filter fun o => decide (o.pid < n.pid)) = [] := List.filter_eq_nil_iff.2 fun o ho => by have := hbig o ho; simp; omega
      rw [List.filter_cons_of_neg (by simpa using h1), e1]
      by_cases h2 : n.pid < x.pid
      · have e2 : (l.filter fun o => decide (n.pid < o.pid)) = l := List.filter_eq_self.2 fun o ho => by have := hbig o ho; simp; omega
        rw [List.filter_cons_of_pos (by simpa using h2), e2]
        simp only [List.nil_append, List.cons_append, risen, Bool.and_eq_true, decide_eq_true_eq]
        exact ⟨hn, h2, h.2⟩
      · have e2 : (l.filter fun o => decide (n.pid < o.pid)) = l := List.filter_eq_self.2 fun o ho => by have := hbig o ho; simp; omega
        rw [List.filter_cons_of_neg (by simpa using h2), e2]
        simp only [List.nil_append, List.cons_append, risen, Bool.and_eq_true, decide_eq_true_eq]
        exact ⟨hn, risen_low h.2 (by omega)⟩
theorem find_take {l : List Prod} {b : Batch} {base : Int} (hb : -1 ≤ base ∧ base ≤ 1048576) (h : (takeP l b base).2 = 0) (pid : Int) : findP (takeP l b base).1 pid = if pid = b.pid then (newP (baseP l b) b base, true) else findP l pid := by
  have hc := take_err hb h
  rw [take_ok hc hb, findP_ins]
  show (if (baseP l b).pid = pid then _ else _) = _
  rw [(check_ok hc).2.2.1]
  by_cases hp : pid = b.pid
  · rw [if_pos hp.symm, if_pos hp]
  · rw [if_neg fun e => hp e.symm, if_neg hp]
theorem find_clear {l : List Prod} {x pid : Int} (h : pid ≠ x) : findP (clearP l x) pid = findP l pid := by
  unfold clearP
  split
  · rename_i hk
    rcases hf : findP l x with ⟨p, known⟩
    rw [hf] at hk
    obtain rfl : known = true := hk
    rw [setP_eq, findP_ins, if_neg]
    show ¬ p.pid = pid
    rw [(findP_mem hf).2]; exact fun e => h e.symm
  · rfl
theorem good_next {p q : Part} {x : Entry} (hp : Good p) (h : nextP p x = some q) : Good q := by
  obtain ⟨-, hm, hs, hfin⟩ := nextP_ok (good_ok hp) h
  have hK := mayE_K hm
  have hf := hp.fin
  have hn := hp.nrows
  unfold stepP at hs
  split at hs
  · rename_i hk0
    have hb := mayE_B hm hk0
    have hbg := mayB_get hb
    unfold dataP at hs
    by_cases hc : (takeP p.prods x.b (if x.b.txn then -1 else p.fin)).2 ≠ 0 ∨ ((openP p x.b.pid).2 = true ∧ x.b.txn = false) ∨ ((openP p x.b.pid).2 = true ∧ (openP p x.b.pid).1.epoch ≠ x.b.epoch) ∨ (openP p x.b.pid).1.bats.length = 8
    · rw [if_pos hc] at hs; cases hs
    · rw [if_neg hc] at hs
      simp only [not_or, ne_eq, Decidable.not_not] at hc
      obtain ⟨c1, c2, c3, c4⟩ := hc
      cases ht : x.b.txn with
      | true =>
        rw [if_pos ht] at hs c1
        injection hs with hs
        subst hs
        have hck := take_err (by omega) c1
        obtain ⟨k1, k2, k3, k4, k5, k6, k7, k8⟩ := check_ok hck
        have hmp : mayPs (takeP p.prods x.b (-1)).1 0 = true := by rw [take_ok hck (by omega)]; exact take_may hck (by omega)
        have hnp := (newP_known (base := -1) hck (by omega)).2
        refine ⟨hf, hn, hp.rows, ⟨risen_put _ _ _ hp.opn.1 (by simp only [openP_pid]; omega), fun o ho => ?_⟩, hmp, fun o ho => ?_⟩
        · simp only [withP, List.mem_append, List.mem_filter, List.mem_singleton] at ho
          rcases ho with (ho | rfl) | ho
          · exact hp.opn.2 o ho.1
          · simp only [openP_pid]; omega
          · exact hp.opn.2 o ho.1
        · show (findP (takeP p.prods x.b (-1)).1 o.pid).2 = true ∧ ∃ E, OpenRel (findP (takeP p.prods x.b (-1)).1 o.pid).1 o E
          have hoth : o ∈ p.opn → o.pid ≠ x.b.pid → (findP (takeP p.prods x.b (-1)).1 o.pid).2 = true ∧ ∃ E, OpenRel (findP (takeP p.prods x.b (-1)).1 o.pid).1 o E := by
            intro ho hne
            rw [find_take (by omega) c1, if_neg hne]
            exact hp.rel o ho
          simp only [withP, openP_pid, List.mem_append, List.mem_filter, List.mem_singleton, decide_eq_true_eq] at ho
          rcases ho with (ho | rfl) | ho
          · exact hoth ho.1 (by omega)
          · rw [find_take (by omega) c1]
            simp only [if_true, true_and]
            have hcut : (newP (baseP p.prods x.b) x.b (-1)).seen = last3 ((baseP p.prods x.b).seen ++ [seenB x.b]) := cutS_last3 k7 _
            cases hopen : (openP p x.b.pid).2 with
            | true =>
              obtain ⟨ho1, ho2⟩ := openP_mem hopen
              obtain ⟨r1, E, r2⟩ := hp.rel _ ho1
              rw [ho2] at r1 r2
              have hep : (openP p x.b.pid).1.epoch = x.b.epoch := Decidable.byContradiction fun hh => c3 ⟨hopen, hh⟩
              have hbase : baseP p.prods x.b = (findP p.prods x.b.pid).1 := by
                unfold baseP
                rw [if_pos ⟨r1, by rw [r2.epoch, hep]⟩]
              rw [hbase] at k5 hcut
              obtain ⟨a, ha1, ha2⟩ := r2.first
              refine ⟨E, ⟨?_, by simp, ?_, ?_, ⟨a, ?_, ha2⟩, ?_⟩⟩
              · show (baseP p.prods x.b).epoch = _; rw [k4]
              · have := r2.len; simp; omega
              · intro b hb'
                simp only [List.mem_append, List.mem_singleton] at hb'
                rcases hb' with hb' | rfl
                · obtain ⟨z1, z2, z3, z4⟩ := r2.bat b hb'
                  exact ⟨z1, by rw [z2, ho2], by rw [z3, hep], z4⟩
                · exact ⟨hb, rfl, rfl, ht⟩
              · rw [hnp]
                exact chain_snoc _ _ _ (k5 ▸ ha1)
              · rw [hbase] at *
                rw [hcut, r2.seen, last3_app, List.map_append, List.append_assoc]; rfl
            | false =>
              rw [(openP_not hopen).1]
              refine ⟨(baseP p.prods x.b).seen, ⟨?_, by simp, by simp, ?_, ⟨x.b.seq, ?_, k6⟩, hcut⟩⟩
              · show (baseP p.prods x.b).epoch = _; rw [k4]
              · intro b hb'
                simp only [List.nil_append, List.mem_singleton] at hb'
                subst hb'
                exact ⟨hb, rfl, rfl, ht⟩
              · rw [hnp]; simp [chain]
          · exact hoth ho.1 (by omega)
      | false =>
        rw [if_neg (by simp [ht])] at hs
        rw [if_neg (by simp [ht])] at c1
        injection hs with hs
        subst hs
        have hopen : (openP p x.b.pid).2 = false := by
          cases ho : (openP p x.b.pid).2 with
          | true => exact absurd ⟨ho, ht⟩ c2
          | false => rfl
        have hno := (openP_not hopen).2
        have hck := take_err (by omega) c1
        have hmp : mayPs (takeP p.prods x.b p.fin).1 0 = true := by rw [take_ok hck (by omega)]; exact take_may hck (by omega)
        refine ⟨⟨by simp only [addP]; omega, hfin⟩, by simp only [addP, List.length_append, rowsB_len]; omega, fun r hr => ?_, hp.opn, hmp, fun o ho => ?_⟩
        · simp only [addP, List.mem_append] at hr ⊢
          rcases hr with hr | hr
          · exact goodRow_up (hp.rows r hr) (by omega)
          · exact rowsB_good hb hf.1 r hr
        · show (findP (takeP p.prods x.b p.fin).1 o.pid).2 = true ∧ ∃ E, OpenRel (findP (takeP p.prods x.b p.fin).1 o.pid).1 o E
          rw [find_take (by omega) c1, if_neg (hno o ho)]
          exact hp.rel o ho
  split at hs
  · unfold markP at hs
    split at hs
    · cases hs
    · injection hs with hs
      have hbats : ∀ b ∈ (openP p x.b.pid).1.bats, mayB b = true := (openP_bats (good_ok hp) x.b.pid).2
      obtain ⟨g1, g2⟩ := addAll_good (openP p x.b.pid).1.bats (awayP p x.b.pid) hbats hf.1 hn hp.rows
      obtain ⟨f1, f2, f3, f4, f5⟩ := addAll_facts (openP p x.b.pid).1.bats (awayP p x.b.pid)
      have a1 : (awayP p x.b.pid).fin = p.fin := rfl
      have a2 : (awayP p x.b.pid).opn = p.opn.filter fun o => !decide (o.pid = x.b.pid) := rfl
      have hrel : ∀ o ∈ p.opn.filter (fun o => !decide (o.pid = x.b.pid)), (findP (clearP p.prods x.b.pid) o.pid).2 = true ∧ ∃ E, OpenRel (findP (clearP p.prods x.b.pid) o.pid).1 o E := by
        intro o ho
        obtain ⟨h1, h2⟩ := List.mem_filter.1 ho
        rw [find_clear (by simpa using h2)]
        exact hp.rel o h1
      have hop : risen (p.opn.filter fun o => !decide (o.pid = x.b.pid)) 0 = true ∧ ∀ o ∈ p.opn.filter (fun o => !decide (o.pid = x.b.pid)), o.pid ≤ 8 := ⟨risen_filter _ _ _ hp.opn.1, fun o ho => hp.opn.2 o (List.mem_filter.1 ho).1⟩
      cases hy : x.yes with
      | true =>
        rw [hy] at hs
        simp only [if_true] at hs
        rw [← hs] at hfin ⊢
        simp only at hfin
        refine ⟨⟨by simp only [f2, a1]; omega, hfin⟩, by simp only; omega, fun r hr => goodRow_up (g2 r hr) (by simp only; omega), ?_, clear_may _ hp.prods, ?_⟩
        · simp only [f3, a2]; exact hop
        · simp only [f3, a2]; exact hrel
      | false =>
        rw [hy] at hs
        simp only [Bool.false_eq_true, if_false] at hs
        rw [← hs] at hfin ⊢
        simp only [a1] at hfin
        refine ⟨⟨by simp only [a1]; omega, by simp only [a1]; omega⟩, by simp only [a1]; show (p.rows.length : Int) ≤ _; omega, fun r hr => goodRow_up (hp.rows r hr) (by simp only [a1]; omega), hop, clear_may _ hp.prods, hrel⟩
  split at hs
  · unfold cutP at hs
    split at hs
    · cases hs
    · injection hs with hs
      subst hs
      refine ⟨hf, ?_, fun r hr => hp.rows r (List.mem_filter.1 hr).1, hp.opn, hp.prods, hp.rel⟩
      have : (p.rows.filter fun r => decide (x.off ≤ r.off)).length ≤ p.rows.length := List.length_filter_le ..
      simp only; omega
  split at hs
  · rename_i g0 g1 g2 g5
    unfold rowP at hs
    injection hs with hs
    subst hs
    unfold mayK at hK
    rw [if_neg (by omega), if_neg (by omega), if_neg (by omega), if_neg (by omega), if_neg (by omega), if_pos g5] at hK
    simp only [okPid, okIn, Bool.and_eq_true, decide_eq_true_eq] at hK
    refine ⟨⟨by simp only; omega, hfin⟩, by simp; omega, fun r hr => ?_, hp.opn, hp.prods, hp.rel⟩
    simp only [List.mem_append, List.mem_singleton] at hr ⊢
    rcases hr with hr | rfl
    · exact goodRow_up (hp.rows r hr) (by omega)
    · exact ⟨by simp only; omega, by simp only; omega, by simp only; omega, hK.2.2.1, hK.2.2.2⟩
  split at hs
  · rename_i g0 g1 g2 g5 g6
    unfold stateP at hs
    split at hs
    · cases hs
    · rename_i ho
      injection hs with hs
      subst hs
      have hno := (openP_not (by simpa using ho)).2
      have hkn : knownP x.prod = true := by
        unfold mayK at hK
        rw [if_neg (by omega), if_neg (by omega), if_neg (by omega), if_neg (by omega), if_neg (by omega), if_neg (by omega)] at hK
        exact hK
      have hpid : 0 < x.prod.pid := by
        simp only [knownP, Bool.and_eq_true, decide_eq_true_eq] at hkn
        omega
      refine ⟨hf, hn, hp.rows, hp.opn, ?_, fun o ho => ?_⟩
      · simp only [setP_eq]; exact mayPs_ins _ hkn _ _ hp.prods hpid
      · simp only [setP_eq, findP_ins]
        rw [if_neg fun e => hno o ho e.symm]
        exact hp.rel o ho
  · cases hs
end Go.Mir.A
/- The log of a part, folded. Plain law, no program. -/
namespace Go.Mir.A

theorem sameRcs_refl (l : List Rec) : sameRcs l l = true := by
  induction l with
  | nil => rfl
  | cons s r ih => simp [sameRcs, sameRc, ih]
theorem sameE_refl (x : Entry) : sameE x x = true := by simp [sameE, sameW, sameBt, sameP_refl, sameRcs_refl]
theorem mayE_row {f : Int} {r : Row} (h : goodRow f r) : mayE (rowE r) = true := by
  have hk : keptE (rowE r) = rowE r := by simp [keptE, rowE, zeroE]
  have h1 := h.pid; have h2 := h.seq; have h3 := h.key; have h4 := h.value
  rw [mayE, hk, sameE_refl]
  simp [mayK, rowE, okPid, okIn, h1, h2, h3, h4, zeroE]
theorem mayE_state {x : Prod} (h : knownP x = true) : mayE { zeroE with kind := 6, prod := x } = true := by
  have hk : keptE { zeroE with kind := 6, prod := x } = { zeroE with kind := 6, prod := x } := by simp [keptE, zeroE]
  rw [mayE, hk, sameE_refl]
  simp [mayK, h, zeroE]
theorem mayE_data {b : Batch} (h : mayB b = true) : mayE (dataE b) = true := by
  have hk : keptE (dataE b) = dataE b := by simp [keptE, dataE, zeroE]
  rw [mayE, hk, sameE_refl]
  simp [mayK, h, dataE, zeroE]
theorem fold_rows : ∀ (l : List Row) (k : Nat) (R : List Row), (∀ r ∈ l, ∃ f, goodRow f r) → k + l.length ≤ 1048576 → foldP (l.map rowE) ⟨0, k, R, [], []⟩ = some ⟨0, (k + l.length : Nat), R ++ l.mapIdx (fun i r => { r with off := ((k + i : Nat) : Int) }), [], []⟩
  | [], k, R, _, _ => by simp [foldP]
  | r :: l, k, R, hg, hk => by
    obtain ⟨f, hf⟩ := hg r (List.mem_cons_self ..)
    have hn : nextP ⟨0, k, R, [], []⟩ (rowE r) = some ⟨0, (k + 1 : Nat), R ++ [{ r with off := (k : Int) }], [], []⟩ := by
      unfold nextP
      rw [mayE_row hf]
      simp only [Bool.true_eq_false, if_false, stepP]
      rw [if_neg (by simp [rowE]), if_neg (by simp [rowE]), if_neg (by simp [rowE]), if_pos (by simp [rowE])]
      simp only [rowP, Option.bind_some]
      rw [if_neg (by simp only [List.length_cons] at hk; omega)]
      simp [rowE]
    rw [List.map_cons, foldP, hn, Option.bind_some, fold_rows l (k + 1) _ (fun x hx => hg x (List.mem_cons_of_mem _ hx)) (by simp only [List.length_cons] at hk; omega)]
    simp only [List.length_cons, List.mapIdx_cons, List.append_assoc, List.singleton_append, Nat.add_zero, Option.some.injEq, Part.mk.injEq, true_and, and_true]
    refine ⟨by omega, ?_⟩
    congr 2
    congr 1
    funext i r
    rw [show k + 1 + i = k + (i + 1) by omega]
theorem insP_last : ∀ (l : List Prod) (q : Prod), (∀ x ∈ l, x.pid < q.pid) → insP l q = l ++ [q]
  | [], q, _ => rfl
  | x :: l, q, h => by
    rw [insP, if_pos (h x (List.mem_cons_self ..)), insP_last l q fun y hy => h y (List.mem_cons_of_mem _ hy)]; rfl
theorem ahead_pid (p : Part) (x : Prod) : (aheadP p x).pid = x.pid := by unfold aheadP; split <;> rfl
theorem mayPs_gt : ∀ {l : List Prod} {a : Int}, mayPs l a = true → ∀ x ∈ l, a < x.pid
  | [], a, _, x, hx => by cases hx
  | y :: l, a, h, x, hx => by
    simp only [mayPs, Bool.and_eq_true, decide_eq_true_eq] at h
    rcases List.mem_cons.1 hx with rfl | hx
    · exact h.1.1
    · have := mayPs_gt h.2 x hx; omega
theorem fold_states (p : Part) (n : Nat) (R : List Row) (hn : n ≤ 1048576) : ∀ (l L : List Prod) (a : Int), mayPs l a = true → (∀ x ∈ l, knownP (aheadP p x) = true) → (∀ y ∈ L, y.pid ≤ a) → foldP (l.map (stateE p)) ⟨0, n, R, [], L⟩ = some ⟨0, n, R, [], L ++ l.map (aheadP p)⟩
  | [], L, a, _, _, _ => by simp [foldP]
  | x :: l, L, a, hm, hk, hL => by
    simp only [mayPs, Bool.and_eq_true, decide_eq_true_eq] at hm
    have hkx := hk x (List.mem_cons_self ..)
    have hins : insP L (aheadP p x) = L ++ [aheadP p x] := insP_last _ _ fun y hy => by rw [ahead_pid]; have := hL y hy; omega
    have hnx : nextP ⟨0, n, R, [], L⟩ (stateE p x) = some ⟨0, n, R, [], L ++ [aheadP p x]⟩ := by
      unfold nextP
      rw [show mayE (stateE p x) = true from mayE_state hkx]
      simp only [Bool.true_eq_false, if_false, stepP]
      rw [if_neg (by simp [stateE]), if_neg (by simp [stateE]), if_neg (by simp [stateE]), if_neg (by simp [stateE]), if_pos (by simp [stateE])]
      simp only [stateP]
      rw [if_neg (by simp [openP])]
      simp only [Option.bind_some, setP_eq]
      rw [if_neg (by omega)]
      show some (Part.mk 0 n R [] (insP L (aheadP p x))) = _
      rw [hins]
    rw [List.map_cons, foldP, hnx, Option.bind_some, fold_states p n R hn l _ x.pid hm.2 (fun y hy => hk y (List.mem_cons_of_mem _ hy)) fun y hy => by
      rcases List.mem_append.1 hy with hy | hy
      · have := hL y hy; omega
      · simp only [List.mem_singleton] at hy; subst hy; rw [ahead_pid]; exact Int.le_refl _]
    simp
theorem last3_apps (X : List Seen) : ∀ (Y : List Seen), last3 (last3 X ++ Y) = last3 (X ++ Y) := by
  intro Y
  unfold last3
  simp only [List.length_append, List.length_drop]
  by_cases h : X.length ≤ 3
  · rw [show X.length - 3 = 0 by omega, List.drop_zero, Nat.sub_zero]
  · rw [List.drop_append, List.drop_append, List.drop_drop, List.length_drop]
    congr 2 <;> omega
theorem insP_over (A B : Prod) (h : A.pid = B.pid) : ∀ l : List Prod, insP (insP l A) B = insP l B
  | [] => by simp [insP, h]
  | x :: l => by
    rw [insP, insP]
    by_cases h1 : x.pid < A.pid
    · rw [if_pos h1, if_pos (by omega), insP, if_pos (by omega), insP_over A B h l]
    · rw [if_neg h1]
      by_cases h2 : x.pid = A.pid
      · rw [if_pos h2, insP, if_neg (by omega), if_pos h, if_neg (by omega), if_pos (by omega)]
      · rw [if_neg h2, insP, if_neg (by omega), if_pos h, if_neg (by omega), if_neg (by omega)]
theorem okAll_lt {n : Int} : ∀ {l : List Seen} {a : Int}, okAll l a n = true → ∀ s ∈ l, s.seq < n
  | [], _, _, s, hs => by cases hs
  | x :: l, a, h, s, hs => by
    simp only [okAll, okS, Bool.and_eq_true, decide_eq_true_eq] at h
    rcases List.mem_cons.1 hs with rfl | hs
    · have hle : ∀ (l : List Seen) (a : Int), okAll l a n = true → a ≤ n := by
        intro l
        induction l with
        | nil => intro a h; simpa [okAll] using h
        | cons y r ih => intro a h; simp only [okAll, okS, Bool.and_eq_true, decide_eq_true_eq] at h; have := ih _ h.2; omega
      have := hle _ _ h.2
      omega
    · exact okAll_lt h.2 s hs
theorem okAll_drop {n : Int} : ∀ (l : List Seen) (k : Nat), okAll l 0 n = true → okAll (l.drop k) 0 n = true
  | l, 0, h => by simpa using h
  | [], k + 1, h => by simpa using h
  | x :: l, k + 1, h => by
    simp only [okAll, okS, Bool.and_eq_true, decide_eq_true_eq] at h
    rw [List.drop_succ_cons]
    exact okAll_drop l k (okAll_mono l 0 _ (by omega) h.2)
theorem okAll_last3 {n : Int} {l : List Seen} (h : okAll l 0 n = true) : okAll (last3 l) 0 n = true := okAll_drop l _ h
/-- a batch that goes on where its producer stands is taken -/
theorem take_goes {L : List Prod} {b : Batch} {P : Prod} (hm : mayPs L 0 = true) (hb : mayB b = true) (hf : findP L b.pid = (P, true)) (he : P.epoch = b.epoch) (hn : P.next = b.seq) (ho : okAll P.seen 0 b.seq = true) (h3 : P.seen.length ≤ 3) :
    takeP L b (-1) = (insP L ⟨b.pid, b.epoch, b.seq + b.recs.length, last3 (P.seen ++ [seenB b])⟩, 0) := by
  have hnone : P.seen.find? (qSeen b) = none := by
    rw [List.find?_eq_none]
    intro s hs
    have := okAll_lt ho s hs
    simp only [qSeen, Bool.and_eq_true, decide_eq_true_eq, not_and]
    omega
  have hck : (checkP L b).2 = (false, 0) := by
    rw [checkP_eq, if_neg (by rw [hm, hb]; simp), hf]
    simp only [true_and]
    rw [if_neg (by omega), if_pos he.symm]
    unfold dupOr
    rw [hnone]
    simp [hn]
  have hbase : baseP L b = P := by unfold baseP; rw [if_pos ⟨by rw [hf], by rw [hf]; exact he⟩, hf]
  have hnp := (newP_known (base := -1) hck (by omega)).2
  have hck2 := check_ok hck
  rw [take_ok hck (by omega), hbase]
  rw [hbase] at hnp hck2
  have : newP P b (-1) = ⟨b.pid, b.epoch, b.seq + b.recs.length, last3 (P.seen ++ [seenB b])⟩ := by
    have h1 : (newP P b (-1)).seen = last3 (P.seen ++ [seenB b]) := cutS_last3 h3 _
    rw [← h1, ← hnp, ← hck2.2.2.1, ← he]
    rfl
  rw [this]
end Go.Mir.A
/- The log of a part, folded: its open transactions. Plain law, no program. -/
namespace Go.Mir.A

theorem risen_uniq : ∀ {l : List Opn} {a : Int}, risen l a = true → ∀ x ∈ l, ∀ y ∈ l, x.pid = y.pid → x = y
  | [], _, _, x, hx, _, _, _ => by cases hx
  | z :: l, a, h, x, hx, y, hy, he => by
    simp only [risen, Bool.and_eq_true, decide_eq_true_eq] at h
    rcases List.mem_cons.1 hx with h1 | h1
    · rcases List.mem_cons.1 hy with h2 | h2
      · rw [h1, h2]
      · have := risen_mem h.2 y h2; rw [h1] at he; omega
    · rcases List.mem_cons.1 hy with h2 | h2
      · have := risen_mem h.2 x h1; rw [h2] at he; omega
      · exact risen_uniq h.2 x h1 y h2 he
theorem openP_of {p : Part} {a : Int} (h : risen p.opn a = true) {o : Opn} (ho : o ∈ p.opn) : openP p o.pid = (o, true) := by
  cases hk : (openP p o.pid).2 with
  | true =>
    obtain ⟨h1, h2⟩ := openP_mem hk
    exact Prod.ext (risen_uniq h _ h1 _ ho h2) hk
  | false => exact absurd rfl ((openP_not hk).2 o ho)
theorem chain_ge : ∀ {l : List Batch} {a e : Int}, chain l a e = true → ∀ b ∈ l, a ≤ b.seq
  | [], _, _, _, b, hb => by cases hb
  | c :: l, a, e, h, b, hb => by
    simp only [chain, Bool.and_eq_true, decide_eq_true_eq] at h
    rcases List.mem_cons.1 hb with rfl | hb
    · omega
    · have := chain_ge h.2 b hb; omega
theorem last3_big (X Y : List Seen) (h : 3 ≤ Y.length) : last3 (X ++ Y) = last3 Y := by
  unfold last3
  rw [List.drop_append, List.length_append, List.drop_of_length_le (by omega), List.nil_append]
  congr 1
  omega
theorem ahead_open {p : Part} (hp : Good p) {o : Opn} (ho : o ∈ p.opn) : ∃ (P : Prod) (E : List Seen) (a : Int), findP p.prods o.pid = (P, true) ∧ aheadP p P = ⟨o.pid, o.epoch, a, E⟩ ∧ okAll E 0 a = true ∧ E.length ≤ 3 ∧ chain o.bats a P.next = true ∧ P.seen = last3 (E ++ o.bats.map seenB) ∧
    P.pid = o.pid ∧ P.epoch = o.epoch ∧ (∀ b ∈ o.bats, mayB b = true ∧ b.pid = o.pid ∧ b.epoch = o.epoch ∧ b.txn = true) ∧ o.bats.length ≤ 8 ∧ o.bats ≠ [] ∧ knownP (aheadP p P) = true := by
  obtain ⟨r1, E0, r2⟩ := hp.rel o ho
  rcases hf : findP p.prods o.pid with ⟨P, known⟩
  rw [hf] at r1 r2
  obtain rfl : known = true := r1
  simp only at r2
  obtain ⟨hPm, hPp⟩ := findP_mem hf
  obtain ⟨a, hch, hE0⟩ := r2.first
  have hop := openP_of hp.opn.1 ho
  have hkn := mayPs_mem hp.prods P hPm
  have hkn' := hkn
  simp only [knownP, Bool.and_eq_true, decide_eq_true_eq] at hkn'
  cases hb : o.bats with
  | nil => exact absurd hb r2.some
  | cons b0 bs =>
    have ha0 : b0.seq = a := by
      rw [hb] at hch
      simp only [chain, Bool.and_eq_true, decide_eq_true_eq] at hch
      exact hch.1
    have hmb0 := mayB_get ((r2.bat b0 (by rw [hb]; exact List.mem_cons_self ..)).1)
    have hB : ∀ s ∈ o.bats.map seenB, ¬ s.seq < a := by
      intro s hs
      obtain ⟨b, hb', rfl⟩ := List.mem_map.1 hs
      have := chain_ge hch b hb'
      simp only [seenB]; omega
    have hlen : 1 ≤ (o.bats.map seenB).length := by rw [hb]; simp
    have hfil : P.seen.filter (fun s => decide (s.seq < b0.seq)) = E0.drop (E0.length + (o.bats.map seenB).length - 3) := by
      rw [r2.seen, ha0]
      unfold last3
      rw [List.length_append, List.drop_append, List.filter_append]
      have e1 : (E0.drop (E0.length + (o.bats.map seenB).length - 3)).filter (fun s => decide (s.seq < a)) = E0.drop (E0.length + (o.bats.map seenB).length - 3) :=
        List.filter_eq_self.2 fun s hs => by simpa using okAll_lt hE0 s (List.mem_of_mem_drop hs)
      have e2 : ((o.bats.map seenB).drop (E0.length + (o.bats.map seenB).length - 3 - E0.length)).filter (fun s => decide (s.seq < a)) = [] :=
        List.filter_eq_nil_iff.2 fun s hs => by simpa using hB s (List.mem_of_mem_drop hs)
      rw [e1, e2, List.append_nil]
    have hah : aheadP p P = ⟨o.pid, o.epoch, a, E0.drop (E0.length + (o.bats.map seenB).length - 3)⟩ := by
      unfold aheadP
      rw [hPp, hop, hb]
      simp only
      rw [← hb, hfil, r2.epoch, ha0]
    have hEk := okAll_drop E0 (E0.length + (o.bats.map seenB).length - 3) hE0
    refine ⟨P, _, a, rfl, hah, hEk, by rw [List.length_drop]; omega, hb ▸ hch, ?_, hPp, r2.epoch, hb ▸ r2.bat, hb ▸ r2.len, by simp, ?_⟩
    · rw [← hb, r2.seen]
      by_cases h3 : 3 ≤ (o.bats.map seenB).length
      · rw [last3_big _ _ h3, last3_big _ _ h3]
      · unfold last3
        simp only [List.length_append, List.length_drop]
        rw [List.drop_append, List.drop_append, List.drop_drop, List.length_drop]
        congr 2 <;> omega
    · rw [hah]
      simp only [knownP, Bool.and_eq_true, decide_eq_true_eq]
      refine ⟨⟨⟨⟨⟨⟨?_, ?_⟩, ?_⟩, ?_⟩, ?_, ?_⟩, ?_⟩, hEk⟩
      · have := hkn'; omega
      · have := hkn'; omega
      · have := hkn'; have := r2.epoch; omega
      · have := hkn'; have := r2.epoch; omega
      · omega
      · omega
      · rw [List.length_drop]; omega
def cur (pid e : Int) : List Batch → List Opn
  | [] => []
  | l => [⟨pid, e, l⟩]
theorem open_cur {D : List Opn} {pid e : Int} {pre : List Batch} {s n : Int} {R : List Row} {L : List Prod} (hD : ∀ o ∈ D, o.pid < pid) : (openP ⟨s, n, R, D ++ cur pid e pre, L⟩ pid).1.bats = pre ∧ (openP ⟨s, n, R, D ++ cur pid e pre, L⟩ pid).1.pid = pid ∧ ((openP ⟨s, n, R, D ++ cur pid e pre, L⟩ pid).2 = true → (openP ⟨s, n, R, D ++ cur pid e pre, L⟩ pid).1.epoch = e) := by
  have hf : D.filter (fun o => decide (o.pid = pid)) = [] := List.filter_eq_nil_iff.2 fun o ho => by have := hD o ho; simp; omega
  unfold openP
  simp only [List.filter_append, hf, List.nil_append]
  cases pre with
  | nil => simp [cur]
  | cons b r => simp [cur]
/-- the batches of one open transaction, one after the other -/
theorem replay_one {n : Int} {R : List Row} {D : List Opn} {pid e : Int} (hn : n ≤ 1048576) (hD : ∀ o ∈ D, o.pid < pid) : ∀ (bs pre : List Batch) (L : List Prod) (a en : Int) (S : List Seen), pre.length + bs.length ≤ 8 → Good ⟨0, n, R, D ++ cur pid e pre, L⟩ → (∀ b ∈ bs, mayB b = true ∧ b.pid = pid ∧ b.epoch = e ∧ b.txn = true) →
    chain bs a en = true → findP L pid = (⟨pid, e, a, S⟩, true) → okAll S 0 a = true → S.length ≤ 3 →
    ∃ L', foldP (bs.map dataE) ⟨0, n, R, D ++ cur pid e pre, L⟩ = some ⟨0, n, R, D ++ cur pid e (pre ++ bs), L'⟩ ∧ Good ⟨0, n, R, D ++ cur pid e (pre ++ bs), L'⟩ ∧ findP L' pid = (⟨pid, e, en, last3 (S ++ bs.map seenB)⟩, true) ∧ ∀ q, q ≠ pid → findP L' q = findP L q
  | [], pre, L, a, en, S, _, hg, _, hch, hf, _, h3 => by
    simp only [chain, decide_eq_true_eq] at hch
    subst hch
    refine ⟨L, by simp [foldP], by simpa using hg, ?_, fun _ _ => rfl⟩
    rw [hf]; simp [last3_short h3]
  | b :: bs, pre, L, a, en, S, h8, hg, hb, hch, hf, hok, h3 => by
    obtain ⟨b1, b2, b3, b4⟩ := hb b (List.mem_cons_self ..)
    simp only [chain, Bool.and_eq_true, decide_eq_true_eq] at hch
    simp only [List.length_cons] at h8
    obtain ⟨o1, o2, o3⟩ := open_cur (s := 0) (n := n) (R := R) (L := L) (pre := pre) (e := e) hD
    have ht := take_goes hg.prods b1 (by rw [b2]; exact hf) b3.symm hch.1.symm (by rw [hch.1]; exact hok) h3
    have hnx : nextP ⟨0, n, R, D ++ cur pid e pre, L⟩ (dataE b) = some ⟨0, n, R, D ++ cur pid e (pre ++ [b]), insP L ⟨pid, e, b.seq + b.recs.length, last3 (S ++ [seenB b])⟩⟩ := by
      unfold nextP
      rw [mayE_data b1]
      simp only [Bool.true_eq_false, if_false, stepP]
      rw [if_pos (by simp [dataE])]
      unfold dataP
      have hdb : (dataE b).b = b := rfl
      simp only [hdb, b4, if_true, ht, b2]
      rw [if_neg]
      · simp only [Option.bind_some, withP, o1, o2]
        rw [if_neg (by omega)]
        have f1 : (D ++ cur pid e pre).filter (fun o => decide (o.pid < pid)) = D := by
          rw [List.filter_append, List.filter_eq_self.2 fun o ho => by simpa using hD o ho]
          cases pre <;> simp [cur]
        have f2 : (D ++ cur pid e pre).filter (fun o => decide (pid < o.pid)) = [] := by
          rw [List.filter_append, List.filter_eq_nil_iff.2 fun o ho => by have := hD o ho; simp; omega]
          cases pre <;> simp [cur]
        rw [f1, f2, b3]
        cases pre <;> simp [cur]
      · simp only [not_or, ne_eq, Decidable.not_not]
        exact ⟨by simp, by simp, fun hh => hh.2 ((o3 hh.1).trans b3.symm), by rw [o1]; omega⟩
    have hg1 := good_next hg hnx
    obtain ⟨L', k1, k2, k3, k4⟩ := replay_one hn hD bs (pre ++ [b]) (insP L ⟨pid, e, b.seq + b.recs.length, last3 (S ++ [seenB b])⟩) (a + b.recs.length) en (last3 (S ++ [seenB b])) (by simp; omega) hg1 (fun x hx => hb x (List.mem_cons_of_mem _ hx)) hch.2
      (by rw [findP_ins, if_pos rfl, hch.1]) (by
        have hbg := mayB_get b1
        refine okAll_last3 (okAll_snoc (n := a) (seenB b) hch.1 ⟨?_, ?_⟩ ⟨?_, ?_⟩ ?_ S 0 hok) <;> simp only [seenB] <;> omega) (last3_len _)
    refine ⟨L', ?_, ?_, ?_, fun q hq => ?_⟩
    · rw [List.map_cons, foldP, hnx, Option.bind_some, k1]
      simp
    · simpa using k2
    · rw [k3, last3_apps]
      simp
    · rw [k4 q hq, findP_ins, if_neg fun h => hq h.symm]
end Go.Mir.A
/- The log of a part is folded to the part, its rows from 0 on. Plain law, no program. -/
namespace Go.Mir.A

theorem foldP_app : ∀ (A B : List Entry) (p : Part), foldP (A ++ B) p = (foldP A p).bind (foldP B)
  | [], B, p => rfl
  | x :: A, B, p => by
    simp only [List.cons_append, foldP]
    cases nextP p x with
    | none => rfl
    | some q => exact foldP_app A B q
theorem foldP_good : ∀ {l : List Entry} {p q : Part}, Good p → foldP l p = some q → Good q
  | [], p, q, hp, h => by simp only [foldP, Option.some.injEq] at h; subst h; exact hp
  | x :: l, p, q, hp, h => by
    simp only [foldP, Option.bind_eq_some_iff] at h
    obtain ⟨r, hr, h⟩ := h
    exact foldP_good (good_next hp hr) h
theorem findP_map (f : Prod → Prod) (hf : ∀ x, (f x).pid = x.pid) (q : Int) : ∀ l : List Prod, findP (l.map f) q = if (findP l q).2 = true then (f (findP l q).1, true) else (zeroP, false)
  | [] => rfl
  | x :: l => by
    rw [List.map_cons, findP_cons, findP_cons, hf]
    by_cases h : x.pid = q
    · rw [if_pos h, if_pos h]; rfl
    · rw [if_neg h, if_neg h]; exact findP_map f hf q l
theorem findP_gt {l : List Prod} {a q : Int} (h : mayPs l a = true) (hq : q ≤ a) : findP l q = (zeroP, false) := by
  rcases hf : findP l q with ⟨p, k⟩
  cases k with
  | true =>
    obtain ⟨h1, h2⟩ := findP_mem hf
    have := mayPs_gt h p h1
    omega
  | false => rw [(findP_none hf).1]
theorem prods_ext : ∀ {l m : List Prod} {a b : Int}, mayPs l a = true → mayPs m b = true → (∀ q, findP l q = findP m q) → l = m
  | [], [], _, _, _, _, _ => rfl
  | [], y :: m, _, _, _, _, h => by have := h y.pid; rw [findP_cons, if_pos rfl] at this; simp [findP_nil] at this
  | x :: l, [], _, _, _, _, h => by have := h x.pid; rw [findP_cons, if_pos rfl] at this; simp [findP_nil] at this
  | x :: l, y :: m, a, b, h1, h2, h => by
    simp only [mayPs, Bool.and_eq_true, decide_eq_true_eq] at h1 h2
    have hx := h x.pid
    have hy := h y.pid
    rw [findP_cons, if_pos rfl, findP_cons] at hx
    rw [findP_cons, findP_cons, if_pos rfl] at hy
    have hp : x.pid = y.pid := by
      by_cases hp : x.pid = y.pid
      · exact hp
      · rw [if_neg fun e => hp e.symm] at hx
        rw [if_neg hp] at hy
        have m1 := (findP_mem hx.symm).1
        have m2 := (findP_mem hy).1
        have g1 := mayPs_gt h2.2 x m1
        have g2 := mayPs_gt h1.2 y m2
        omega
    rw [if_pos hp.symm] at hx
    obtain rfl : x = y := by injection hx
    congr 1
    refine prods_ext h1.2 h2.2 fun q => ?_
    have := h q
    rw [findP_cons, findP_cons] at this
    by_cases hq : x.pid = q
    · rw [findP_gt h1.2 (by omega), findP_gt h2.2 (by omega)]
    · rw [if_neg hq, if_neg hq] at this; exact this
theorem risen_split : ∀ {D : List Opn} {o : Opn} {rest : List Opn} {a : Int}, risen (D ++ o :: rest) a = true → ∀ x ∈ D, x.pid < o.pid
  | [], _, _, _, _, x, hx => by cases hx
  | y :: D, o, rest, a, h, x, hx => by
    simp only [List.cons_append, risen, Bool.and_eq_true, decide_eq_true_eq] at h
    rcases List.mem_cons.1 hx with rfl | hx
    · exact risen_mem h.2 o (by simp)
    · exact risen_split h.2 x hx
theorem replay_all {p : Part} (hp : Good p) {n : Int} {R : List Row} (hn : n ≤ 1048576) : ∀ (rest D : List Opn) (L : List Prod), p.opn = D ++ rest → Good ⟨0, n, R, D, L⟩ → (∀ o ∈ D, findP L o.pid = findP p.prods o.pid) → (∀ q, (∀ o ∈ D, o.pid ≠ q) → findP L q = findP (p.prods.map (aheadP p)) q) →
    ∃ L', foldP (openEs rest) ⟨0, n, R, D, L⟩ = some ⟨0, n, R, p.opn, L'⟩ ∧ Good ⟨0, n, R, p.opn, L'⟩ ∧ (∀ o ∈ p.opn, findP L' o.pid = findP p.prods o.pid) ∧ (∀ q, (∀ o ∈ p.opn, o.pid ≠ q) → findP L' q = findP (p.prods.map (aheadP p)) q)
  | [], D, L, hD, hg, h1, h2 => by
    rw [List.append_nil] at hD
    rw [hD]
    exact ⟨L, rfl, hg, h1, h2⟩
  | o :: rest, D, L, hD, hg, h1, h2 => by
    have hlt : ∀ x ∈ D, x.pid < o.pid := risen_split (hD ▸ hp.opn.1)
    obtain ⟨P, E, a, k1, k2, k3, k4, k5, k6, k7, k8, k9, k10, k11, -⟩ := ahead_open hp (show o ∈ p.opn by rw [hD]; simp)
    have hfL : findP L o.pid = (⟨o.pid, o.epoch, a, E⟩, true) := by
      rw [h2 o.pid fun x hx => by have := hlt x hx; omega, findP_map _ (ahead_pid p), k1]
      simp only [if_true, k2]
    obtain ⟨L1, r1, r2, r3, r4⟩ := replay_one (n := n) (R := R) (D := D) (e := o.epoch) hn hlt o.bats [] L a P.next E (by simpa using k10) (by simpa [cur] using hg) k9 k5 hfL k3 k4
    have hcur : cur o.pid o.epoch ([] ++ o.bats) = [o] := by
      rw [List.nil_append]
      cases hb : o.bats with
      | nil => exact absurd hb k11
      | cons b bs => simp only [cur]; rw [← hb]
    rw [hcur] at r1 r2
    have hP : (⟨o.pid, o.epoch, P.next, last3 (E ++ o.bats.map seenB)⟩ : Prod) = P := by rw [← k6, ← k7, ← k8]
    rw [hP] at r3
    obtain ⟨L', s1, s2, s3, s4⟩ := replay_all hp (n := n) (R := R) hn rest (D ++ [o]) L1 (by rw [hD]; simp) r2
      (fun x hx => by
        rcases List.mem_append.1 hx with hx | hx
        · rw [r4 x.pid (by have := hlt x hx; omega)]; exact h1 x hx
        · simp only [List.mem_singleton] at hx; subst hx; rw [r3, k1])
      (fun q hq => by
        rw [r4 q fun e => hq o (by simp) e.symm]
        exact h2 q fun x hx => hq x (by simp [hx]))
    refine ⟨L', ?_, s2, s3, s4⟩
    have : openEs (o :: rest) = o.bats.map dataE ++ openEs rest := by simp [openEs]
    rw [this, foldP_app]
    have hc0 : (⟨0, n, R, D, L⟩ : Part) = ⟨0, n, R, D ++ cur o.pid o.epoch [], L⟩ := by simp [cur]
    rw [hc0, r1, Option.bind_some, s1]
def numbered (l : List Row) : List Row := l.mapIdx fun i r => { r with off := (i : Int) }
def backP (p : Part) : Part := ⟨0, p.rows.length, numbered p.rows, p.opn, p.prods⟩
theorem ahead_known {p : Part} (hp : Good p) {x : Prod} (hx : x ∈ p.prods) : knownP (aheadP p x) = true := by
  cases hk : (openP p x.pid).2 with
  | false =>
    have : aheadP p x = x := by unfold aheadP; rw [(openP_not hk).1]
    rw [this]; exact mayPs_mem hp.prods x hx
  | true =>
    obtain ⟨h1, h2⟩ := openP_mem hk
    obtain ⟨P, E, a, k1, k2, k3, k4, k5, k6, k7, k8, k9, k10, k11, k12⟩ := ahead_open hp h1
    have hPx : P = x := by
      have hf : ∀ (l : List Prod) (a : Int), mayPs l a = true → ∀ y ∈ l, findP l y.pid = (y, true) := by
        intro l
        induction l with
        | nil => intro _ _ y hy; cases hy
        | cons z l ih =>
          intro a h y hy
          simp only [mayPs, Bool.and_eq_true, decide_eq_true_eq] at h
          rw [findP_cons]
          rcases List.mem_cons.1 hy with rfl | hy
          · rw [if_pos rfl]
          · have := mayPs_gt h.2 y hy
            rw [if_neg (by omega)]
            exact ih _ h.2 y hy
      have := hf _ _ hp.prods x hx
      rw [h2, this] at k1
      injection k1 with k1
      exact k1.symm
    rw [← hPx]; exact k12
theorem log_back {p : Part} (hp : Good p) : foldP (logP p) zeroPt = some (backP p) ∧ Good (backP p) := by
  have hn : p.rows.length ≤ 1048576 := by have := hp.nrows; have := hp.fin; omega
  have f1 : foldP (p.rows.map rowE) zeroPt = some ⟨0, p.rows.length, numbered p.rows, [], []⟩ := by
    have := fold_rows p.rows 0 [] (fun r hr => ⟨_, hp.rows r hr⟩) (by omega)
    simp only [Nat.zero_add, List.nil_append] at this
    exact this
  have f2 := fold_states p p.rows.length (numbered p.rows) hn p.prods [] 0 hp.prods (fun x hx => ahead_known hp hx) (fun y hy => by cases hy)
  rw [List.nil_append] at f2
  have g2 := foldP_good (foldP_good good_zero f1) f2
  obtain ⟨L', s1, s2, s3, s4⟩ := replay_all hp (n := p.rows.length) (R := numbered p.rows) (by omega) p.opn [] (p.prods.map (aheadP p)) (by simp) g2 (fun o ho => by cases ho) (fun q _ => rfl)
  have hL : L' = p.prods := by
    refine prods_ext s2.prods hp.prods fun q => ?_
    by_cases hq : ∃ o ∈ p.opn, o.pid = q
    · obtain ⟨o, ho, rfl⟩ := hq
      exact s3 o ho
    · have hno : ∀ o ∈ p.opn, o.pid ≠ q := fun o ho e => hq ⟨o, ho, e⟩
      rw [s4 q hno, findP_map _ (ahead_pid p)]
      rcases hf : findP p.prods q with ⟨x, k⟩
      cases k with
      | false => rw [(findP_none hf).1]; rfl
      | true =>
        have hxp := (findP_mem hf).2
        have hno2 : (openP p x.pid).2 = false := by
          cases hk : (openP p x.pid).2 with
          | true => exact absurd (by rw [(openP_mem hk).2, hxp]) (hno _ (openP_mem hk).1)
          | false => rfl
        have : aheadP p x = x := by unfold aheadP; rw [(openP_not hno2).1]
        simp only [if_true, this]
  subst hL
  refine ⟨?_, s2⟩
  unfold logP
  rw [foldP_app, f1, Option.bind_some, foldP_app, f2, Option.bind_some, s1]
  rfl
theorem log_same (p : Part) : logP (backP p) = logP p := by
  have h1 : (numbered p.rows).map rowE = p.rows.map rowE := by
    refine List.ext_getElem (by simp [numbered]) fun i h1 h2 => ?_
    simp [numbered, rowE]
  have h2 : ∀ x, stateE (backP p) x = stateE p x := fun x => by
    unfold stateE aheadP
    rw [openP_opn (show (backP p).opn = p.opn from rfl)]
  unfold logP
  rw [show (backP p).rows = numbered p.rows from rfl, h1, show (backP p).prods = p.prods from rfl, show (backP p).opn = p.opn from rfl, List.map_congr_left fun x _ => h2 x]
theorem good_row_ok {f : Int} {r : Row} (h : goodRow f r) (hf : f ≤ 1048576) : okRow r = true := by
  have := h.off
  simp only [okRow, mayE_row h, Bool.and_true, Bool.and_eq_true, decide_eq_true_eq]
  omega
end Go.Mir.A
