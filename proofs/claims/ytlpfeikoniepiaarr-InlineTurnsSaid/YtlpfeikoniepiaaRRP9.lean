/- Two entries of unlike producers, one behind the other, may be turned about, if one of them is a transaction's data. Plain law, no program. -/
import Derived.Test.YtlpfeikoniepiaaRRPA
set_option linter.all false
namespace Go.Mir.A

theorem openP_awayF (p : Part) (x pid : Int) : openP (awayP p x) pid = if pid = x then (⟨pid, 0, []⟩, false) else openP p pid := by
  unfold openP awayP
  simp only
  rw [List.filter_filter]
  by_cases h : pid = x
  · rw [if_pos h]
    have h1 : (p.opn.filter fun a => decide (a.pid = pid) && !decide (a.pid = x)) = [] := List.filter_eq_nil_iff.2 fun a _ => by simp; omega
    rw [h1]
  · rw [if_neg h]
    have h1 : (p.opn.filter fun a => decide (a.pid = pid) && !decide (a.pid = x)) = p.opn.filter fun a => decide (a.pid = pid) := List.filter_congr fun a _ => by
      by_cases ha : a.pid = pid
      · simp [ha, h]
      · simp [ha]
    rw [h1]
theorem openP_cons (s f : Int) (R : List Row) (o : Opn) (l : List Opn) (P : List Prod) (pid : Int) : openP ⟨s, f, R, o :: l, P⟩ pid = if o.pid = pid then (o, true) else openP ⟨s, f, R, l, P⟩ pid := by
  unfold openP
  by_cases h : o.pid = pid
  · simp [List.filter_cons, h]
  · simp [List.filter_cons, h]
theorem openP_gt {l : List Opn} {a q : Int} (h : risen l a = true) (hq : q ≤ a) (s f : Int) (R : List Row) (P : List Prod) : openP ⟨s, f, R, l, P⟩ q = (⟨q, 0, []⟩, false) := by
  have h1 : (l.filter fun o => decide (o.pid = q)) = [] := List.filter_eq_nil_iff.2 fun o ho => by
    have := risen_mem h o ho
    simp only [decide_eq_true_eq]; omega
  unfold openP
  simp only [h1]
theorem opn_ext (s f : Int) (R : List Row) (P : List Prod) : ∀ {l m : List Opn} {a b : Int}, risen l a = true → risen m b = true → (∀ q, openP ⟨s, f, R, l, P⟩ q = openP ⟨s, f, R, m, P⟩ q) → l = m
  | [], [], _, _, _, _, _ => rfl
  | [], y :: m, _, _, _, _, h => by have := h y.pid; rw [openP_cons, if_pos rfl] at this; simp [openP] at this
  | x :: l, [], _, _, _, _, h => by have := h x.pid; rw [openP_cons, if_pos rfl] at this; simp [openP] at this
  | x :: l, y :: m, a, b, h1, h2, h => by
    simp only [risen, Bool.and_eq_true, decide_eq_true_eq] at h1 h2
    have hx := h x.pid
    have hy := h y.pid
    rw [openP_cons, if_pos rfl, openP_cons] at hx
    rw [openP_cons, openP_cons, if_pos rfl] at hy
    have hp : x.pid = y.pid := by
      by_cases hp : x.pid = y.pid
      · exact hp
      · rw [if_neg fun e => hp e.symm] at hx
        rw [if_neg hp] at hy
        have m1 := openP_mem (p := ⟨s, f, R, m, P⟩) (pid := x.pid) (by rw [← hx])
        have m2 := openP_mem (p := ⟨s, f, R, l, P⟩) (pid := y.pid) (by rw [hy])
        rw [← hx] at m1
        rw [hy] at m2
        have g1 := risen_mem h2.2 x m1.1
        have g2 := risen_mem h1.2 y m2.1
        omega
    rw [if_pos hp.symm] at hx
    obtain rfl : x = y := by injection hx
    congr 1
    refine opn_ext s f R P h1.2 h2.2 fun q => ?_
    have := h q
    rw [openP_cons, openP_cons] at this
    by_cases hq : x.pid = q
    · rw [openP_gt h1.2 (by omega), openP_gt h2.2 (by omega)]
    · rw [if_neg hq, if_neg hq] at this; exact this
theorem part_ext {p q : Part} (hp : Good p) (hq : Good q) (h1 : p.start = q.start) (h2 : p.fin = q.fin) (h3 : p.rows = q.rows) (h4 : ∀ pid, openP p pid = openP q pid) (h5 : ∀ pid, findP p.prods pid = findP q.prods pid) : p = q := by
  have e5 := prods_ext hp.prods hq.prods h5
  have e4 := opn_ext p.start p.fin p.rows p.prods hp.opn.1 hq.opn.1 fun pid => by
    rw [← openP_opn (p := p) rfl pid, h4 pid, openP_opn (p := q) (q := ⟨p.start, p.fin, p.rows, q.opn, p.prods⟩) rfl pid]
  cases p; cases q
  simp only at h1 h2 h3 e4 e5
  subst h1 h2 h3 e4 e5
  rfl
/-- the rows of batches, from an offset on -/
def addsR : List Batch → Int → List Row
  | [], _ => []
  | b :: l, f => rowsB b f ++ addsR l (f + b.recs.length)
theorem addAll_app : ∀ (l : List Batch) (p : Part), (l.foldl addP p).rows = p.rows ++ addsR l p.fin
  | [], p => by simp [addsR]
  | b :: l, p => by
    rw [List.foldl_cons, addAll_app l]
    simp [addsR, addP]
theorem take_dep {l m : List Prod} {b : Batch} {base : Int} (hl : mayPs l 0 = true) (hm : mayPs m 0 = true) (h : findP l b.pid = findP m b.pid) : (takeP l b base).2 = (takeP m b base).2 ∧ newP (baseP l b) b base = newP (baseP m b) b base := by
  have hc : checkP l b = checkP m b := by unfold checkP; simp only [hl, hm, h]
  refine ⟨?_, by unfold baseP; rw [h]⟩
  unfold takeP
  rw [hc]
  split
  · rfl
  · split
    · rfl
    · split <;> rfl
theorem find_clearF (l : List Prod) (x : Int) : findP (clearP l x) x = if (findP l x).2 = true then ({ (findP l x).1 with seen := [] }, true) else findP l x := by
  unfold clearP
  split
  · rename_i hk
    rcases hf : findP l x with ⟨p, known⟩
    rw [hf] at hk
    obtain rfl : known = true := hk
    rw [setP_eq, findP_ins]
    exact if_pos (findP_mem hf).2
  · rfl

/-- What an entry of a producer does, at parts that are alike in what it looks at. -/
structure Like (x : Entry) (p q p' q' : Part) : Prop where
  start : q.start = p.start ∧ q'.start = p'.start
  rows : ∃ (add : List Row) (n : Int), q.rows = p.rows ++ add ∧ q'.rows = p'.rows ++ add ∧ q.fin = p.fin + n ∧ q'.fin = p'.fin + n ∧ (x.kind = 0 → x.b.txn = true → add = [] ∧ n = 0)
  opn : ∀ pid, pid ≠ x.b.pid → openP q pid = openP p pid ∧ openP q' pid = openP p' pid
  opnS : openP q x.b.pid = openP q' x.b.pid
  prods : ∀ pid, pid ≠ x.b.pid → findP q.prods pid = findP p.prods pid ∧ findP q'.prods pid = findP p'.prods pid
  prodsS : findP q.prods x.b.pid = findP q'.prods x.b.pid

theorem like_next {x : Entry} {p q p' : Part} (hk : x.kind = 0 ∨ x.kind = 1) (hp : Good p) (hp' : Good p') (hf : findP p.prods x.b.pid = findP p'.prods x.b.pid) (ho : openP p x.b.pid = openP p' x.b.pid)
    (hfin : (x.kind = 0 ∧ x.b.txn = true) ∨ p.fin = p'.fin) (h : nextP p x = some q) : ∃ q', nextP p' x = some q' ∧ Like x p q p' q' := by
  obtain ⟨-, hm, hs, hq⟩ := nextP_ok (good_ok hp) h
  have key : ∃ q', stepP p' x = some q' ∧ Like x p q p' q' := by
    unfold stepP at hs ⊢
    rcases hk with hk | hk
    · rw [if_pos hk] at hs ⊢
      unfold dataP at hs ⊢
      cases ht : x.b.txn with
      | true =>
        simp only [ht, if_true] at hs ⊢
        obtain ⟨d1, d2⟩ := take_dep (base := -1) hp.prods hp'.prods hf
        rw [← ho, ← d1]
        split at hs
        · cases hs
        · rename_i hc
          rw [if_neg hc]
          injection hs with hs
          have he : (takeP p.prods x.b (-1)).2 = 0 := by
            by_cases he : (takeP p.prods x.b (-1)).2 = 0
            · exact he
            · exact absurd (.inl he) hc
          have hpid := openP_pid p x.b.pid
          refine ⟨_, rfl, ?_⟩
          subst hs
          refine ⟨⟨rfl, rfl⟩, ⟨[], 0, by simp [withP], by simp [withP], by simp [withP], by simp [withP], fun _ _ => ⟨rfl, rfl⟩⟩, fun pid hn => ?_, ?_, fun pid hn => ?_, ?_⟩
          · rw [openP_with, openP_with, hpid, if_neg hn, if_neg hn]
            exact ⟨openP_opn rfl pid, openP_opn rfl pid⟩
          · rw [openP_with, openP_with, hpid, if_pos rfl, if_pos rfl]
          · show findP (takeP p.prods x.b (-1)).1 pid = _ ∧ findP (takeP p'.prods x.b (-1)).1 pid = _
            rw [find_take (by omega) he, find_take (by omega) (d1 ▸ he), if_neg hn, if_neg hn]
            exact ⟨rfl, rfl⟩
          · show findP (takeP p.prods x.b (-1)).1 x.b.pid = findP (takeP p'.prods x.b (-1)).1 x.b.pid
            rw [find_take (by omega) he, find_take (by omega) (d1 ▸ he), if_pos rfl, if_pos rfl, d2]
      | false =>
        have hfe : p.fin = p'.fin := by
          rcases hfin with ⟨_, h⟩ | h
          · rw [ht] at h; cases h
          · exact h
        have hr := hp.fin
        simp only [ht, Bool.false_eq_true, if_false] at hs ⊢
        rw [← hfe]
        obtain ⟨d1, d2⟩ := take_dep (base := p.fin) hp.prods hp'.prods hf
        rw [← ho, ← d1]
        split at hs
        · cases hs
        · rename_i hc
          rw [if_neg hc]
          injection hs with hs
          have he : (takeP p.prods x.b p.fin).2 = 0 := by
            by_cases he : (takeP p.prods x.b p.fin).2 = 0
            · exact he
            · exact absurd (.inl he) hc
          refine ⟨_, rfl, ?_⟩
          subst hs
          refine ⟨⟨rfl, rfl⟩, ⟨rowsB x.b p.fin, x.b.recs.length, by simp [addP], by simp [addP, hfe], by simp [addP], by simp [addP, hfe], fun _ h => by rw [ht] at h; cases h⟩, fun pid hn => ⟨openP_opn rfl pid, openP_opn rfl pid⟩, ?_, fun pid hn => ?_, ?_⟩
          · exact (openP_opn rfl _).trans (ho.trans (openP_opn rfl _).symm)
          · show findP (takeP p.prods x.b p.fin).1 pid = _ ∧ findP (takeP p'.prods x.b p.fin).1 pid = _
            rw [find_take (by omega) he, find_take (by omega) (d1 ▸ he), if_neg hn, if_neg hn]
            exact ⟨rfl, rfl⟩
          · show findP (takeP p.prods x.b p.fin).1 x.b.pid = findP (takeP p'.prods x.b p.fin).1 x.b.pid
            rw [find_take (by omega) he, find_take (by omega) (d1 ▸ he), if_pos rfl, if_pos rfl, d2]
    · have hfe : p.fin = p'.fin := by
        rcases hfin with ⟨h, _⟩ | h
        · omega
        · exact h
      rw [if_neg (by omega), if_pos hk] at hs ⊢
      unfold markP at hs ⊢
      rw [← ho]
      split at hs
      · cases hs
      · rename_i hc
        rw [if_neg hc]
        injection hs with hs
        refine ⟨_, rfl, ?_⟩
        subst hs
        have hP : ∀ pid, (pid ≠ x.b.pid → findP (clearP p.prods x.b.pid) pid = findP p.prods pid ∧ findP (clearP p'.prods x.b.pid) pid = findP p'.prods pid) := fun pid hn => ⟨find_clear hn, find_clear hn⟩
        have hS : findP (clearP p.prods x.b.pid) x.b.pid = findP (clearP p'.prods x.b.pid) x.b.pid := by rw [find_clearF, find_clearF, hf]
        have hO : ∀ (P : Part) (Q : Part), Q.opn = (awayP P x.b.pid).opn → ∀ pid, openP Q pid = if pid = x.b.pid then (⟨pid, 0, []⟩, false) else openP P pid := fun P Q hQ pid => by rw [openP_opn hQ, openP_awayF]
        cases hy : x.yes with
        | true =>
          obtain ⟨a1, a2, a3, a4, a5⟩ := addAll_facts (openP p x.b.pid).1.bats (awayP p x.b.pid)
          obtain ⟨b1, b2, b3, b4, b5⟩ := addAll_facts (openP p x.b.pid).1.bats (awayP p' x.b.pid)
          have a6 := addAll_app (openP p x.b.pid).1.bats (awayP p x.b.pid)
          have b6 := addAll_app (openP p x.b.pid).1.bats (awayP p' x.b.pid)
          simp only [if_true]
          refine ⟨⟨a5, b5⟩, ⟨addsR (openP p x.b.pid).1.bats p.fin, recsOf (openP p x.b.pid).1.bats + 1, a6, ?_, ?_, ?_, fun h => by omega⟩, fun pid hn => ?_, ?_, hP, hS⟩
          · rw [show p.fin = (awayP p' x.b.pid).fin from hfe]; exact b6
          · show _ + 1 = _
            rw [a2]; simp only [awayP]; omega
          · show _ + 1 = _
            rw [b2]; simp only [awayP]; omega
          · refine ⟨?_, ?_⟩
            · refine (hO p _ ?_ pid).trans (if_neg hn); exact a3
            · refine (hO p' _ ?_ pid).trans (if_neg hn); exact b3
          · refine ((hO p _ ?_ _).trans (if_pos rfl)).trans ((hO p' _ ?_ _).trans (if_pos rfl)).symm
            · exact a3
            · exact b3
        | false =>
          simp only [Bool.false_eq_true, if_false]
          refine ⟨⟨rfl, rfl⟩, ⟨[], 1, by simp [awayP], by simp [awayP], rfl, rfl, fun h => by omega⟩, fun pid hn => ?_, ?_, hP, hS⟩
          · refine ⟨?_, ?_⟩
            · refine (hO p _ ?_ pid).trans (if_neg hn); rfl
            · refine (hO p' _ ?_ pid).trans (if_neg hn); rfl
          · refine ((hO p _ ?_ _).trans (if_pos rfl)).trans ((hO p' _ ?_ _).trans (if_pos rfl)).symm
            · rfl
            · rfl
  obtain ⟨q', h1, h2⟩ := key
  refine ⟨q', ?_, h2⟩
  obtain ⟨add, n, -, -, e1, e2, e3⟩ := h2.rows
  have hle : ¬ 1048576 < q'.fin := by
    rcases hfin with ⟨k1, k2⟩ | k
    · have := (e3 k1 k2).2; have := hp'.fin; omega
    · omega
  unfold nextP
  rw [if_neg (by rw [hm]; simp), h1, Option.bind_some, if_neg hle]
theorem turns {a b : Entry} {p p1 p2 : Part} (hp : Good p) (ha : a.kind = 0) (hat : a.b.txn = true) (hb : b.kind = 0 ∨ b.kind = 1) (hn : a.b.pid ≠ b.b.pid) (h1 : nextP p a = some p1) (h2 : nextP p1 b = some p2) : ∃ r, nextP p b = some r ∧ nextP r a = some p2 := by
  have hp1 := good_next hp h1
  have hp2 := good_next hp1 h2
  obtain ⟨_, -, La⟩ := like_next (.inl ha) hp hp rfl rfl (.inr rfl) h1
  obtain ⟨add0, n0, e1, -, e2, -, e3⟩ := La.rows
  obtain ⟨rfl, rfl⟩ := e3 ha hat
  rw [List.append_nil] at e1
  rw [Int.add_zero] at e2
  obtain ⟨r, hr, Lb⟩ := like_next (p' := p) hb hp1 hp (La.prods _ hn.symm).1 (La.opn _ hn.symm).1 (.inr e2) h2
  have hgr := good_next hp hr
  obtain ⟨r2, hr2, Lc⟩ := like_next (p' := r) (.inl ha) hp hgr (Lb.prods _ hn).2.symm (Lb.opn _ hn).2.symm (.inl ⟨ha, hat⟩) h1
  refine ⟨r, hr, ?_⟩
  rw [hr2]
  congr 1
  have hgr2 := good_next hgr hr2
  obtain ⟨add, n, f1, f2, f3, f4, -⟩ := Lb.rows
  obtain ⟨add1, n1, g1, g2, g3, g4, g5⟩ := Lc.rows
  obtain ⟨rfl, rfl⟩ := g5 ha hat
  refine part_ext hgr2 hp2 ?_ ?_ ?_ (fun pid => ?_) fun pid => ?_
  · rw [Lc.start.2, Lb.start.2, Lb.start.1, La.start.1]
  · omega
  · rw [g2, f2, f1, e1, List.append_nil]
  · by_cases k1 : pid = a.b.pid
    · subst k1
      rw [← Lc.opnS, (Lb.opn _ hn).1]
    · rw [(Lc.opn _ k1).2]
      by_cases k2 : pid = b.b.pid
      · subst k2
        rw [Lb.opnS]
      · rw [(Lb.opn _ k2).2, (Lb.opn _ k2).1, (La.opn _ k1).1]
  · by_cases k1 : pid = a.b.pid
    · subst k1
      rw [← Lc.prodsS, (Lb.prods _ hn).1]
    · rw [(Lc.prods _ k1).2]
      by_cases k2 : pid = b.b.pid
      · subst k2
        rw [Lb.prodsS]
      · rw [(Lb.prods _ k2).2, (Lb.prods _ k2).1, (La.prods _ k1).1]
/-- the log with two entries turned about -/
def turned (l : List Entry) (k : Nat) (a b : Entry) : List Entry := (l.set k b).set (k + 1) a
theorem turned_split : ∀ (A : List Entry) (x y a b : Entry) (B : List Entry), turned (A ++ x :: y :: B) A.length a b = A ++ b :: a :: B
  | [], x, y, a, b, B => rfl
  | c :: A, x, y, a, b, B => by
    have := turned_split A x y a b B
    unfold turned at this ⊢
    simpa using this
theorem turned_fold {l : List Entry} {k : Nat} (h : k + 1 < l.length) {p : Part} (ha : (l[k]).kind = 0) (hat : (l[k]).b.txn = true) (hb : (l[k + 1]).kind = 0 ∨ (l[k + 1]).kind = 1) (hn : (l[k]).b.pid ≠ (l[k + 1]).b.pid)
    (hf : foldP l zeroPt = some p) : foldP (turned l k l[k] l[k + 1]) zeroPt = some p := by
  have hl : l = l.take k ++ l[k] :: l[k + 1] :: l.drop (k + 2) := by
    conv => lhs; rw [← List.take_append_drop k l]
    rw [List.drop_eq_getElem_cons (by omega : k < l.length), List.drop_eq_getElem_cons h]
  have ht : turned l k l[k] l[k + 1] = l.take k ++ l[k + 1] :: l[k] :: l.drop (k + 2) := by
    have := turned_split (l.take k) l[k] l[k + 1] l[k] l[k + 1] (l.drop (k + 2))
    rw [← hl, List.length_take, show min k l.length = k by omega] at this
    exact this
  rw [ht]
  rw [hl, foldP_app] at hf
  rw [foldP_app]
  obtain ⟨p0, h0, hf⟩ := Option.bind_eq_some_iff.1 hf
  rw [h0, Option.bind_some]
  simp only [foldP] at hf ⊢
  obtain ⟨p1, h1, hf⟩ := Option.bind_eq_some_iff.1 hf
  obtain ⟨p2, h2, hf⟩ := Option.bind_eq_some_iff.1 hf
  obtain ⟨r, k1, k2⟩ := turns (foldP_good good_zero h0) ha hat hb hn h1 h2
  rw [k1, Option.bind_some, k2, Option.bind_some, hf]
end Go.Mir.A
