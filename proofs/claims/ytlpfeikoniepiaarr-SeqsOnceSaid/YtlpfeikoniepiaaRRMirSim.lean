/- Words for pure proofs: loops whose rounds are numbered; encodings of the program's data. -/
import Derived.Test.YtlpfeikoniepiaaRRMirLim
import Derived.Test.YtlpfeikoniepiaaRRMirOpen
set_option linter.all false
namespace Go.Mir
theorem bind_head {α β : Type} {x y : Option α} {f : α → Option β} (h : x = y) : x.bind f = y.bind f := by rw [h]
theorem wrap64 {n : Int} (h1 : -9223372036854775808 ≤ n) (h2 : n ≤ 9223372036854775807) : IntKind.wrap .i64 n = n := by
  simp [IntKind.wrap, IntKind.signed, IntKind.bits]
  omega

/-- A loop whose rounds are numbered: what it comes to, if each round either goes on or ends. -/
theorem loop_rounds {b : Env → St → Out} {E : Nat → Env} {σ : St} (n : Nat) (Q : Nat → Ex × Env × St → Prop) (hend : ∃ o, b (E n) σ = some o ∧ o.1 ≠ .normal ∧ Q n o)
    (hround : ∀ i, i < n → (b (E i) σ = some (.normal, E (i + 1), σ) ∧ ∀ o, Q (i + 1) o → Q i o) ∨ ∃ o, b (E i) σ = some o ∧ o.1 ≠ .normal ∧ Q i o) : ∃ o, loopW b (E 0) σ = some o ∧ o.1 ≠ .normal ∧ Q 0 o := by
  have stop : ∀ i, (∃ o, b (E i) σ = some o ∧ o.1 ≠ .normal ∧ Q i o) → ∃ o, loopW b (E i) σ = some o ∧ o.1 ≠ .normal ∧ Q i o := by
    rintro i ⟨⟨x, e1, σ1⟩, h1, h2, h3⟩
    refine ⟨_, ?_, h2, h3⟩
    rw [loopW_eq, h1]
    cases x <;> first | rfl | exact absurd rfl h2
  have key : ∀ k i, n - i = k → i ≤ n → ∃ o, loopW b (E i) σ = some o ∧ o.1 ≠ .normal ∧ Q i o := by
    intro k
    induction k with
    | zero => intro i hi hn; rw [show i = n by omega]; exact stop n hend
    | succ k ih =>
      intro i hi hn
      rcases hround i (by omega) with ⟨h1, h2⟩ | h
      · obtain ⟨o, h3, h4, h5⟩ := ih (i + 1) (by omega) (by omega)
        refine ⟨o, ?_, h4, h2 o h5⟩
        rw [loopW_eq, h1]
        exact h3
      · exact stop i h
  exact key _ 0 rfl (Nat.zero_le _)

/-- The same, with what holds ahead of each round. -/
theorem loop_inv {b : Env → St → Out} {E : Nat → Env} {σ : St} (n : Nat) (I : Nat → Prop) (Q : Nat → Ex × Env × St → Prop) (h0 : I 0) (hend : I n → ∃ o, b (E n) σ = some o ∧ o.1 ≠ .normal ∧ Q n o)
    (hround : ∀ i, i < n → I i → (b (E i) σ = some (.normal, E (i + 1), σ) ∧ I (i + 1) ∧ ∀ o, Q (i + 1) o → Q i o) ∨ ∃ o, b (E i) σ = some o ∧ o.1 ≠ .normal ∧ Q i o) : ∃ o, loopW b (E 0) σ = some o ∧ o.1 ≠ .normal ∧ Q 0 o := by
  have stop : ∀ i, (∃ o, b (E i) σ = some o ∧ o.1 ≠ .normal ∧ Q i o) → ∃ o, loopW b (E i) σ = some o ∧ o.1 ≠ .normal ∧ Q i o := by
    rintro i ⟨⟨x, e1, σ1⟩, h1, h2, h3⟩
    refine ⟨_, ?_, h2, h3⟩
    rw [loopW_eq, h1]
    cases x <;> first | rfl | exact absurd rfl h2
  have key : ∀ k i, n - i = k → i ≤ n → I i → ∃ o, loopW b (E i) σ = some o ∧ o.1 ≠ .normal ∧ Q i o := by
    intro k
    induction k with
    | zero => intro i hi hn hI; rw [show i = n by omega] at hI ⊢; exact stop n (hend hI)
    | succ k ih =>
      intro i hi hn hI
      rcases hround i (by omega) hI with ⟨h1, h2, h3⟩ | h
      · obtain ⟨o, h4, h5, h6⟩ := ih (i + 1) (by omega) (by omega) h2
        refine ⟨o, ?_, h5, h3 o h6⟩
        rw [loopW_eq, h1]
        exact h4
      · exact stop i h
  exact key _ 0 rfl (Nat.zero_le _) h0

/-- An append onto one's own slice, empty or not. -/
theorem append_own {run : Run} {esc : Nat → Bool} {base : Nat} {e : Env} {σ : St} {str : Bool} {esz bytes : Nat} {x y : MArg} {xs ys : List (List Dat)} {b : Dat} (hx : x.ev e = some (.slice true xs)) (hy : y.ev e = some b) (hr : b.rows? str = some ys)
    (hb : (xs.length + ys.length) * bytes ≤ 35184372088832) (h1 : xs.all (·.length == esz) = true) (h2 : ys.all (·.length == esz) = true) : evalOp run esc base e σ (.append str esz bytes x y) = some (.slice true (xs ++ ys), x.take e, σ) := by
  simp only [evalOp, hx, hy, hr, Option.bind_some]
  split
  · rename_i h
    simp only [List.isEmpty_iff] at h
    subst h
    rw [List.append_nil]
  · rw [if_pos ⟨trivial, hb, h1, h2⟩]

structure Seen where
  seq : Int
  count : Int
  base : Int
structure Prod where
  pid : Int
  epoch : Int
  next : Int
  seen : List Seen
structure Rec where
  key : List UInt8
  value : List UInt8
structure Batch where
  pid : Int
  epoch : Int
  seq : Int
  txn : Bool
  recs : List Rec
def encS (s : Seen) : List Dat := [.int .i64 s.seq, .int .i64 s.count, .int .i64 s.base]
def encP (p : Prod) : List Dat := [.int .i64 p.pid, .int .i64 p.epoch, .int .i64 p.next, .slice false (p.seen.map encS)]
def encPs (l : List Prod) : Dat := .slice false (l.map encP)
def encR (r : Rec) : List Dat := [.str r.key, .str r.value]
def encB (b : Batch) : List Dat := [.int .i64 b.pid, .int .i64 b.epoch, .int .i64 b.seq, .bool b.txn, .slice false (b.recs.map encR)]
theorem under_encS (n : Nat) (l : List Seen) : Dat.underLL n (l.map encS) = true := underLL_mk fun d hd => by
  obtain ⟨x, _, rfl⟩ := List.mem_map.1 hd
  rfl
theorem under_encR (n : Nat) (l : List Rec) : Dat.underLL n (l.map encR) = true := underLL_mk fun d hd => by
  obtain ⟨x, _, rfl⟩ := List.mem_map.1 hd
  rfl
theorem under_encP (n : Nat) (l : List Prod) : Dat.underLL n (l.map encP) = true := underLL_mk fun d hd => by
  obtain ⟨x, _, rfl⟩ := List.mem_map.1 hd
  simp [encP, Dat.underL, Dat.under, under_encS]
theorem gc_self (live : List Dat) (σ : St) : gc σ.length live σ = σ := by
  cases σ with
  | nil => rfl
  | cons c r =>
    simp only [gc]
    rw [if_neg (by simp; omega)]
end Go.Mir
/- Loops with what comes behind them. -/
namespace Go.Mir
variable {b : Env → St → Out} {β : Type} {cont : Ex × Env × St → Option β}
/-- A loop whose rounds are told by states: each round goes on, with less left, or ends. -/
theorem loop_st {α : Type} (E : α → Env) (S : α → St) (m : α → Nat) (I : α → Prop) (R : α → Option β)
    (h : ∀ a, I a → (∃ a', b (E a) (S a) = some (.normal, E a', S a') ∧ I a' ∧ m a' < m a ∧ R a = R a') ∨ ∃ o, b (E a) (S a) = some o ∧ o.1 ≠ .normal ∧ cont o = R a) (a : α) (ha : I a) : (loopW b (E a) (S a)).bind cont = R a := by
  generalize hk : m a = k
  induction k using Nat.strongRecOn generalizing a with
  | ind k ih =>
    rcases h a ha with ⟨a', h1, h2, h3, h4⟩ | ⟨⟨x, e1, σ1⟩, h1, h2, h3⟩
    · rw [loopW_eq, h1, h4]
      exact ih _ (hk ▸ h3) a' h2 rfl
    · rw [loopW_eq, h1]
      cases x <;> first | exact absurd rfl h2 | exact h3
/-- The rounds are numbered. -/
theorem loop_cont (E : Nat → Env) (S : Nat → St) (n : Nat) (I : Nat → Prop) (R : Nat → Option β) (h0 : I 0) (hend : I n → ∃ o, b (E n) (S n) = some o ∧ o.1 ≠ .normal ∧ cont o = R n)
    (hround : ∀ i, i < n → I i → (b (E i) (S i) = some (.normal, E (i + 1), S (i + 1)) ∧ I (i + 1) ∧ R i = R (i + 1)) ∨ ∃ o, b (E i) (S i) = some o ∧ o.1 ≠ .normal ∧ cont o = R i) : (loopW b (E 0) (S 0)).bind cont = R 0 := by
  refine loop_st (α := Nat) E S (fun i => n - i) (fun i => i ≤ n ∧ I i) R (fun i hi => ?_) 0 ⟨Nat.zero_le _, h0⟩
  by_cases hn : i < n
  · rcases hround i hn hi.2 with ⟨h1, h2, h3⟩ | h
    · exact .inl ⟨i + 1, h1, ⟨by omega, h2⟩, by omega, h3⟩
    · exact .inr h
  · obtain rfl : i = n := by omega
    exact .inr (hend hi.2)

/-- append, as one value -/
def appD (own : Bool) (esz bytes : Nat) (xs ys : List (List Dat)) : Option Dat :=
  if own = true ∧ (xs.length + ys.length) * bytes ≤ 35184372088832 ∧ xs.all (·.length == esz) = true ∧ ys.all (·.length == esz) = true then some (.slice true (xs ++ ys)) else if ys.isEmpty then some (.slice own xs) else none
theorem evalOp_append {run : Run} {esc : Nat → Bool} {base : Nat} {e : Env} {σ : St} {str : Bool} {esz bytes : Nat} {x y : MArg} : evalOp run esc base e σ (.append str esz bytes x y) = (x.ev e).bind fun a => (y.ev e).bind fun b => match a with
    | .slice own xs => (b.rows? str).bind fun ys => (appD own esz bytes xs ys).bind fun d => some (d, x.take e, σ)
    | _ => none := by
  simp only [evalOp]
  cases x.ev e with
  | none => rfl
  | some a =>
    cases y.ev e with
    | none => rfl
    | some b =>
      simp only [Option.bind_some]
      cases a <;> try rfl
      rename_i own xs
      show (b.rows? str).bind _ = (b.rows? str).bind _
      cases b.rows? str with
      | none => rfl
      | some ys =>
        simp only [Option.bind_some, appD]
        by_cases h : own = true ∧ (xs.length + ys.length) * bytes ≤ 35184372088832 ∧ xs.all (·.length == esz) = true ∧ ys.all (·.length == esz) = true
        · rw [if_pos h]
          split
          · rename_i h2
            simp only [List.isEmpty_iff] at h2
            rw [h.1, h2, List.append_nil]; rfl
          · rfl
        · rw [if_neg h]
          split
          · rfl
          · rfl
theorem appD_nil {own : Bool} {esz bytes : Nat} {xs : List (List Dat)} : appD own esz bytes xs [] = some (.slice own xs) := by
  unfold appD
  split
  · rename_i h; rw [h.1, List.append_nil]
  · rfl
theorem appD_ok {esz bytes : Nat} {xs ys : List (List Dat)} (h1 : (xs.length + ys.length) * bytes ≤ 35184372088832) (h2 : ∀ x ∈ xs, x.length = esz) (h3 : ∀ x ∈ ys, x.length = esz) : appD true esz bytes xs ys = some (.slice true (xs ++ ys)) := by
  unfold appD
  rw [if_pos ⟨rfl, h1, by simpa using h2, by simpa using h3⟩]
theorem nn1 (k : Nat) : ((0 : Int) ≤ (k : Int) + 1) = True := eq_true (by omega)
theorem nn2 (k : Nat) : ((0 : Int) ≤ (k : Int)) = True := eq_true (by omega)
theorem take_rest {α β : Type} (f : α → β) (l : List α) (k : Nat) : List.take (l.length - k) (List.drop k (List.map f l)) = List.drop k (List.map f l) := List.take_of_length_le (by simp)
theorem underLL_app (n : Nat) (a b : List (List Dat)) : Dat.underLL n (a ++ b) = (Dat.underLL n a && Dat.underLL n b) := by
  induction a with
  | nil => simp [Dat.underLL]
  | cons x a ih => simp [Dat.underLL, ih, Bool.and_assoc]
theorem underLL_tk {n : Nat} {a : List (List Dat)} (k : Nat) (h : Dat.underLL n a = true) : Dat.underLL n (a.take k) = true := by
  have := h
  rw [← List.take_append_drop k a, underLL_app, Bool.and_eq_true] at this
  exact this.1
theorem underLL_dp {n : Nat} {a : List (List Dat)} (k : Nat) (h : Dat.underLL n a = true) : Dat.underLL n (a.drop k) = true := by
  have := h
  rw [← List.take_append_drop k a, underLL_app, Bool.and_eq_true] at this
  exact this.2
theorem take_full {α β : Type} (f : α → β) (l : List α) : List.take l.length (List.map f l) = List.map f l := List.take_of_length_le (by simp)
/-- all rows have so many cells -/
def rowsOk (n : Nat) (xs : List (List Dat)) : Bool := xs.all fun x => x.length == n
theorem rowsOk_nil (n : Nat) : rowsOk n [] = true := rfl
theorem rowsOk_cons (n : Nat) (x : List Dat) (xs : List (List Dat)) : rowsOk n (x :: xs) = (decide (x.length = n) && rowsOk n xs) := by simp [rowsOk, List.all_cons, BEq.beq]
theorem rowsOk_app (n : Nat) (a b : List (List Dat)) : rowsOk n (a ++ b) = (rowsOk n a && rowsOk n b) := by simp [rowsOk, List.all_append]
theorem rowsOk_tk {n : Nat} {a : List (List Dat)} (k : Nat) (h : rowsOk n a = true) : rowsOk n (a.take k) = true := by
  have := h
  rw [← List.take_append_drop k a, rowsOk_app, Bool.and_eq_true] at this
  exact this.1
theorem rowsOk_dp {n : Nat} {a : List (List Dat)} (k : Nat) (h : rowsOk n a = true) : rowsOk n (a.drop k) = true := by
  have := h
  rw [← List.take_append_drop k a, rowsOk_app, Bool.and_eq_true] at this
  exact this.2
theorem rowsOk_map {α : Type} (n : Nat) (enc : α → List Dat) (h : ∀ a, (enc a).length = n) (l : List α) : rowsOk n (l.map enc) = true := by
  simp [rowsOk, h]
theorem rowsOk_S (l : List Seen) : rowsOk 3 (l.map encS) = true := rowsOk_map 3 encS (fun _ => rfl) l
theorem rowsOk_P (l : List Prod) : rowsOk 4 (l.map encP) = true := rowsOk_map 4 encP (fun _ => rfl) l
theorem rowsOk_R (l : List Rec) : rowsOk 2 (l.map encR) = true := rowsOk_map 2 encR (fun _ => rfl) l
theorem evalOp_slice {run : Run} {esc : Nat → Bool} {base : Nat} {e : Env} {σ : St} {esz : Nat} {x : MArg} {lo hi mx : Option MArg} : evalOp run esc base e σ (.slice esz x lo hi mx) = (x.ev e).bind fun
    | .slice _ xs => (bound e 0 lo).bind fun l => (bound e xs.length hi).bind fun h => (bound e h mx).bind fun m =>
        if l ≤ h ∧ h ≤ xs.length ∧ m = h ∧ (l = 0 ∨ rowsOk esz xs = true) then some (.slice mx.isSome ((xs.drop l).take (h - l)), e, σ) else none
    | _ => none := rfl
theorem rowsOk_tl {n : Nat} {a : List (List Dat)} (h : rowsOk n a = true) : rowsOk n a.tail = true := by rw [← List.drop_one]; exact rowsOk_dp 1 h
theorem underLL_tl {n : Nat} {a : List (List Dat)} (h : Dat.underLL n a = true) : Dat.underLL n a.tail = true := by rw [← List.drop_one]; exact underLL_dp 1 h
end Go.Mir
