/- What stands in an open transaction. Plain law, no program. -/
import Derived.Test.YtlpfeikoniepiaaRRIB
set_option linter.all false
namespace Go.Mir.A

def dt (pid : Int) (x : Entry) : Bool := decide (x.kind = 0) && (x.b.txn && decide (x.b.pid = pid))
def mk (pid : Int) (x : Entry) : Bool := decide (x.kind = 1) && decide (x.b.pid = pid)
def btStep (pid : Int) (f : List Batch) (x : Entry) : List Batch := if mk pid x then [] else if dt pid x then f ++ [x.b] else f
def bt (L : List Entry) (pid : Int) : List Batch := L.foldl (btStep pid) []
theorem bt_snoc (L : List Entry) (x : Entry) (pid : Int) : bt (L ++ [x]) pid = btStep pid (bt L pid) x := by simp [bt, List.foldl_append]
theorem bt_split (pid : Int) : ∀ (B : List Entry) (A : List Entry), (∀ x ∈ B, mk pid x = false) → bt (A ++ B) pid = bt A pid ++ (B.filter (dt pid)).map Entry.b
  | [], A, _ => by simp
  | x :: B, A, h => by
    rw [show A ++ x :: B = (A ++ [x]) ++ B by simp, bt_split pid B (A ++ [x]) fun y hy => h y (List.mem_cons_of_mem _ hy), bt_snoc]
    have hx := h x (List.mem_cons_self ..)
    cases hd : dt pid x <;> simp [btStep, hx, hd, List.filter_cons]
theorem bt_mark {L : List Entry} {x : Entry} {pid : Int} (h : mk pid x = true) : bt (L ++ [x]) pid = [] := by rw [bt_snoc, btStep, if_pos h]
theorem openP_pid (p : Part) (pid : Int) : (openP p pid).1.pid = pid := by
  cases h : (openP p pid).2 with
  | true => exact (openP_mem h).2
  | false => rw [(openP_not h).1]
theorem openP_opn {p q : Part} (h : p.opn = q.opn) (pid : Int) : openP p pid = openP q pid := by unfold openP; rw [h]
def BtInv (p : Part) (L : List Entry) : Prop := ∀ pid, (openP p pid).1.bats = bt L pid
theorem bt_zero : BtInv zeroPt [] := fun pid => rfl
theorem openP_with (p : Part) (n : Opn) (pid : Int) : openP (withP p n) pid = if pid = n.pid then (n, true) else openP p pid := by
  have key : ∀ l : List Opn, ((l.filter fun o => decide (o.pid < n.pid)) ++ [n] ++ l.filter fun o => decide (n.pid < o.pid)).filter (fun o => decide (o.pid = pid)) = if pid = n.pid then [n] else l.filter fun o => decide (o.pid = pid) := by
    intro l
    rw [List.filter_append, List.filter_append, List.filter_filter, List.filter_filter]
    by_cases h : pid = n.pid
    · rw [if_pos h]
      have h1 : (l.filter fun a => decide (a.pid = pid) && decide (a.pid < n.pid)) = [] := List.filter_eq_nil_iff.2 fun a _ => by simp; omega
      have h2 : (l.filter fun a => decide (a.pid = pid) && decide (n.pid < a.pid)) = [] := List.filter_eq_nil_iff.2 fun a _ => by simp; omega
      rw [h1, h2]
      simp [h]
    · rw [if_neg h]
      have h0 : [n].filter (fun o => decide (o.pid = pid)) = [] := by simp; omega
      rw [h0, List.append_nil]
      rcases Int.lt_or_gt_of_ne h with hlt | hgt
      · have h2 : (l.filter fun a => decide (a.pid = pid) && decide (n.pid < a.pid)) = [] := List.filter_eq_nil_iff.2 fun a _ => by simp; omega
        rw [h2, List.append_nil]
        refine List.filter_congr fun a _ => ?_
        by_cases ha : a.pid = pid
        · simp [ha, hlt]
        · simp [ha]
      · have h1 : (l.filter fun a => decide (a.pid = pid) && decide (a.pid < n.pid)) = [] := List.filter_eq_nil_iff.2 fun a _ => by simp; omega
        rw [h1, List.nil_append]
        refine List.filter_congr fun a _ => ?_
        by_cases ha : a.pid = pid
        · simp [ha, hgt]
        · simp [ha]
  unfold openP withP
  simp only
  rw [key]
  by_cases h : pid = n.pid
  · rw [if_pos h, if_pos h]
  · rw [if_neg h, if_neg h]
theorem openP_away (p : Part) (x pid : Int) : (openP (awayP p x) pid).1.bats = if pid = x then [] else (openP p pid).1.bats := by
  unfold openP awayP
  simp only
  rw [List.filter_filter]
  by_cases h : pid = x
  · rw [if_pos h]
    have h1 : (p.opn.filter fun a => decide (a.pid = pid) && !decide (a.pid = x)) = [] := List.filter_eq_nil_iff.2 fun a _ => by simp; omega
    rw [h1]
  · rw [if_neg h]
    have h1 : (p.opn.filter fun a => decide (a.pid = pid) && !decide (a.pid = x)) = p.opn.filter fun a => decide (a.pid = pid) := List.filter_congr fun a _ => by
      by_cases ha : a.pid = pid
      · simp [ha, h]
      · simp [ha]
    rw [h1]
theorem addP_indep : ∀ (l : List Batch) (p q : Part), p.rows = q.rows → p.fin = q.fin → (l.foldl addP p).rows = (l.foldl addP q).rows ∧ (l.foldl addP p).fin = (l.foldl addP q).fin
  | [], p, q, h1, h2 => ⟨h1, h2⟩
  | b :: l, p, q, h1, h2 => by
    rw [List.foldl_cons, List.foldl_cons]
    exact addP_indep l (addP p b) (addP q b) (by simp only [addP]; rw [h1, h2]) (by simp only [addP]; rw [h2])
/-- what an entry does to the rows, the end, and the open transactions -/
inductive Did (p : Part) (x : Entry) (q : Part) : Prop where
  | plain (hk : x.kind = 0) (ht : x.b.txn = false) (hr : q.rows = p.rows ++ rowsB x.b p.fin) (hf : q.fin = p.fin + x.b.recs.length)
  | data (hk : x.kind = 0) (ht : x.b.txn = true) (hr : q.rows = p.rows) (hf : q.fin = p.fin)
  | mark (hk : x.kind = 1) (hr : q.rows = ((if x.yes then (openP p x.b.pid).1.bats else []).foldl addP p).rows) (hf : q.fin = ((if x.yes then (openP p x.b.pid).1.bats else []).foldl addP p).fin + 1)
  | state (hk : x.kind = 6) (hr : q.rows = p.rows) (hf : q.fin = p.fin)
  | cutRow (hk : x.kind = 2 ∨ x.kind = 5)
theorem step_did {p q : Part} {x : Entry} {L : List Entry} (h : stepP p x = some q) (hb : BtInv p L) : Did p x q ∧ BtInv q (L ++ [x]) := by
  have still : q.opn = p.opn → x.kind ≠ 0 ∨ x.b.txn = false → x.kind ≠ 1 → BtInv q (L ++ [x]) := by
    intro ho h0 h1 pid
    rw [openP_opn ho, bt_snoc, hb pid]
    have m : mk pid x = false := by simp [mk, h1]
    have d : dt pid x = false := by
      rcases h0 with h0 | h0
      · simp [dt, h0]
      · simp [dt, h0]
    rw [btStep, m, d]; rfl
  unfold stepP at h
  split at h
  · rename_i hk
    unfold dataP at h
    by_cases hc : (takeP p.prods x.b (if x.b.txn then -1 else p.fin)).2 ≠ 0 ∨ ((openP p x.b.pid).2 = true ∧ x.b.txn = false) ∨ ((openP p x.b.pid).2 = true ∧ (openP p x.b.pid).1.epoch ≠ x.b.epoch) ∨ (openP p x.b.pid).1.bats.length = 8
    · rw [if_pos hc] at h; cases h
    · rw [if_neg hc] at h
      cases ht : x.b.txn with
      | true =>
        rw [if_pos ht] at h
        injection h with h
        subst h
        refine ⟨.data hk ht rfl rfl, fun pid => ?_⟩
        rw [openP_with, bt_snoc, ← hb pid]
        have m : mk pid x = false := by simp [mk, hk]
        simp only [openP_pid]
        by_cases hp : pid = x.b.pid
        · subst hp
          have d : dt x.b.pid x = true := by simp [dt, hk, ht]
          rw [if_pos rfl, btStep, m, d]
          rfl
        · have d : dt pid x = false := by simp [dt, hk, ht]; omega
          rw [if_neg hp, btStep, m, d]
          rfl
      | false =>
        rw [if_neg (by simp [ht])] at h
        injection h with h
        subst h
        exact ⟨.plain hk ht rfl rfl, still rfl (.inr ht) (by omega)⟩
  split at h
  · rename_i hk
    unfold markP at h
    split at h
    · cases h
    · injection h with h
      subst h
      have hm : mk x.b.pid x = true := by simp [mk, hk]
      obtain ⟨f1, f2⟩ := addP_indep (openP p x.b.pid).1.bats (awayP p x.b.pid) p rfl rfl
      have hopn : ∀ pid, (openP (if x.yes then (openP p x.b.pid).1.bats.foldl addP (awayP p x.b.pid) else awayP p x.b.pid) pid).1.bats = (openP (awayP p x.b.pid) pid).1.bats := by
        intro pid
        cases x.yes with
        | true => rw [if_pos rfl, openP_opn (addAll_facts (openP p x.b.pid).1.bats (awayP p x.b.pid)).2.2.1]
        | false => rw [if_neg (by simp)]
      refine ⟨.mark hk ?_ ?_, fun pid => ?_⟩
      · cases hy : x.yes with
        | true => simp only [if_true]; exact f1
        | false => simp [awayP]
      · cases hy : x.yes with
        | true => simp only [if_true]; rw [f2]
        | false => simp [awayP]
      · show (openP _ pid).1.bats = _
        rw [openP_opn (q := if x.yes then (openP p x.b.pid).1.bats.foldl addP (awayP p x.b.pid) else awayP p x.b.pid) (by rfl), hopn, openP_away, bt_snoc]
        by_cases hp : pid = x.b.pid
        · subst hp
          rw [if_pos rfl, btStep, if_pos hm]
        · have m : mk pid x = false := by simp [mk, hk]; omega
          have d : dt pid x = false := by simp [dt, hk]
          rw [if_neg hp, btStep, m, d, hb pid]
          rfl
  split at h
  · rename_i hk
    unfold cutP at h
    split at h
    · cases h
    · injection h with h
      subst h
      exact ⟨.cutRow (.inl hk), still rfl (.inl (by omega)) (by omega)⟩
  split at h
  · rename_i hk
    unfold rowP at h
    injection h with h
    subst h
    exact ⟨.cutRow (.inr hk), still rfl (.inl (by omega)) (by omega)⟩
  split at h
  · rename_i hk
    unfold stateP at h
    split at h
    · cases h
    · injection h with h
      subst h
      exact ⟨.state hk rfl rfl, still rfl (.inl (by omega)) (by omega)⟩
  · cases h
theorem foldP_may : ∀ {l : List Entry} {n : Nat} {p q : Part}, okPt n p → foldP l p = some q → ∀ x ∈ l, mayE x = true
  | [], n, p, q, _, _, x, hx => by cases hx
  | y :: l, n, p, q, hp, h, x, hx => by
    simp only [foldP, Option.bind_eq_some_iff] at h
    obtain ⟨r, hr, h⟩ := h
    obtain ⟨h1, h2, -, -⟩ := nextP_ok hp hr
    rcases List.mem_cons.1 hx with rfl | hx
    · exact h2
    · exact foldP_may h1 h x hx
/-- the batches of a transaction, between two places -/
def bk (l : List Entry) (pid : Int) (j k : Nat) : List Batch := (((l.take k).drop j).filter (dt pid)).map Entry.b
theorem bk_same (l : List Entry) (pid : Int) (j : Nat) : bk l pid j j = [] := by
  unfold bk
  rw [List.drop_of_length_le (by rw [List.length_take]; omega)]
  rfl
theorem bk_step (l : List Entry) (pid : Int) (j k : Nat) (hjk : j ≤ k) (hk : k < l.length) : bk l pid j (k + 1) = bk l pid j k ++ (if dt pid l[k] then [(l[k]).b] else []) := by
  unfold bk
  rw [List.take_succ_eq_append_getElem hk, List.drop_append_of_le_length (by rw [List.length_take]; omega), List.filter_append, List.map_append]
  congr 1
  cases h : dt pid l[k] <;> simp [h]
theorem bt_bk {l : List Entry} {pid : Int} {i j : Nat} (hi : i ≤ l.length) (hj : j ≤ i) (hno : ∀ k (h : k < l.length), j ≤ k → k < i → mk pid l[k] = false) (hm : j = 0 ∨ ∃ h : j - 1 < l.length, mk pid (l[j - 1]'h) = true) : bt (l.take i) pid = bk l pid j i := by
  have hsp : l.take i = l.take j ++ (l.take i).drop j := by
    rw [show l.take j = (l.take i).take j by rw [List.take_take, Nat.min_eq_left hj], List.take_append_drop]
  rw [hsp, bt_split]
  · have : bt (l.take j) pid = [] := by
      rcases hm with rfl | ⟨h, hm⟩
      · rfl
      · by_cases h0 : j = 0
        · subst h0; rfl
        · have hj1 : l.take j = l.take (j - 1) ++ [l[j - 1]] := by
            rw [← List.take_succ_eq_append_getElem h, Nat.sub_add_cancel (by omega)]
          rw [hj1]; exact bt_mark hm
    rw [this, List.nil_append]; rfl
  · intro x hx
    obtain ⟨k, hk, rfl⟩ := List.getElem_of_mem hx
    rw [List.getElem_drop, List.getElem_take]
    rw [List.length_drop, List.length_take] at hk
    exact hno _ (by omega) (by omega) (by omega)
end Go.Mir.A
