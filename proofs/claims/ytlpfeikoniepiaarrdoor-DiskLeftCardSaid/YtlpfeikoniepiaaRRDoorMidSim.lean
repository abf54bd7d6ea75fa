/- Words for pure proofs: loops whose rounds are numbered; encodings of the program's data. -/
import Derived.Test.YtlpfeikoniepiaaRRDoorMidLim
import Derived.Test.YtlpfeikoniepiaaRRDoorMidOpen
set_option linter.all false
namespace Go.Mir
theorem bind_head {α β : Type} {x y : Option α} {f : α → Option β} (h : x = y) : x.bind f = y.bind f := by rw [h]
theorem wrap64 {n : Int} (h1 : -9223372036854775808 ≤ n) (h2 : n ≤ 9223372036854775807) : IntKind.wrap .i64 n = n := by
  simp [IntKind.wrap, IntKind.signed, IntKind.bits]
  omega

/-- A loop whose rounds are numbered: what it comes to, if each round either goes on or ends. -/
theorem loop_rounds {b : Env → St → Out} {E : Nat → Env} {σ : St} (n : Nat) (Q : Nat → Ex × Env × St → Prop) (hend : ∃ o, b (E n) σ = some o ∧ o.1 ≠ .normal ∧ Q n o)
    (hround : ∀ i, i < n → (b (E i) σ = some (.normal, E (i + 1), σ) ∧ ∀ o, Q (i + 1) o → Q i o) ∨ ∃ o, b (E i) σ = some o ∧ o.1 ≠ .normal ∧ Q i o) : ∃ o, loopW b (E 0) σ = some o ∧ o.1 ≠ .normal ∧ Q 0 o := by
  have stop : ∀ i, (∃ o, b (E i) σ = some o ∧ o.1 ≠ .normal ∧ Q i o) → ∃ o, loopW b (E i) σ = some o ∧ o.1 ≠ .normal ∧ Q i o := by
    rintro i ⟨⟨x, e1, σ1⟩, h1, h2, h3⟩
    refine ⟨_, ?_, h2, h3⟩
    rw [loopW_eq, h1]
    cases x <;> first | rfl | exact absurd rfl h2
  have key : ∀ k i, n - i = k → i ≤ n → ∃ o, loopW b (E i) σ = some o ∧ o.1 ≠ .normal ∧ Q i o := by
    intro k
    induction k with
    | zero => intro i hi hn; rw [show i = n by omega]; exact stop n hend
    | succ k ih =>
      intro i hi hn
      rcases hround i (by omega) with ⟨h1, h2⟩ | h
      · obtain ⟨o, h3, h4, h5⟩ := ih (i + 1) (by omega) (by omega)
        refine ⟨o, ?_, h4, h2 o h5⟩
        rw [loopW_eq, h1]
        exact h3
      · exact stop i h
  exact key _ 0 rfl (Nat.zero_le _)

/-- The same, with what holds ahead of each round. -/
theorem loop_inv {b : Env → St → Out} {E : Nat → Env} {σ : St} (n : Nat) (I : Nat → Prop) (Q : Nat → Ex × Env × St → Prop) (h0 : I 0) (hend : I n → ∃ o, b (E n) σ = some o ∧ o.1 ≠ .normal ∧ Q n o)
    (hround : ∀ i, i < n → I i → (b (E i) σ = some (.normal, E (i + 1), σ) ∧ I (i + 1) ∧ ∀ o, Q (i + 1) o → Q i o) ∨ ∃ o, b (E i) σ = some o ∧ o.1 ≠ .normal ∧ Q i o) : ∃ o, loopW b (E 0) σ = some o ∧ o.1 ≠ .normal ∧ Q 0 o := by
  have stop : ∀ i, (∃ o, b (E i) σ = some o ∧ o.1 ≠ .normal ∧ Q i o) → ∃ o, loopW b (E i) σ = some o ∧ o.1 ≠ .normal ∧ Q i o := by
    rintro i ⟨⟨x, e1, σ1⟩, h1, h2, h3⟩
    refine ⟨_, ?_, h2, h3⟩
    rw [loopW_eq, h1]
    cases x <;> first | rfl | exact absurd rfl h2
  have key : ∀ k i, n - i = k → i ≤ n → I i → ∃ o, loopW b (E i) σ = some o ∧ o.1 ≠ .normal ∧ Q i o := by
    intro k
    induction k with
    | zero => intro i hi hn hI; rw [show i = n by omega] at hI ⊢; exact stop n (hend hI)
    | succ k ih =>
      intro i hi hn hI
      rcases hround i (by omega) hI with ⟨h1, h2, h3⟩ | h
      · obtain ⟨o, h4, h5, h6⟩ := ih (i + 1) (by omega) (by omega) h2
        refine ⟨o, ?_, h5, h3 o h6⟩
        rw [loopW_eq, h1]
        exact h4
      · exact stop i h
  exact key _ 0 rfl (Nat.zero_le _) h0

/-- An append onto one's own slice, empty or not. -/
theorem append_own {run : Run} {esc : Nat → Bool} {base : Nat} {e : Env} {σ : St} {str : Bool} {esz bytes : Nat} {x y : MArg} {xs ys : List (List Dat)} {b : Dat} (hx : x.ev e = some (.slice true xs)) (hy : y.ev e = some b) (hr : b.rows? str = some ys)
    (hb : (xs.length + ys.length) * bytes ≤ 35184372088832) (h1 : xs.all (·.length == esz) = true) (h2 : ys.all (·.length == esz) = true) : evalOp run esc base e σ (.append str esz bytes x y) = some (.slice true (xs ++ ys), x.take e, σ) := by
  simp only [evalOp, hx, hy, hr, Option.bind_some]
  split
  · rename_i h
    simp only [List.isEmpty_iff] at h
    subst h
    rw [List.append_nil]
  · rw [if_pos ⟨trivial, hb, h1, h2⟩]

theorem gc_self (live : List Dat) (σ : St) : gc σ.length live σ = σ := by
  cases σ with
  | nil => rfl
  | cons c r =>
    simp only [gc]
    rw [if_neg (by simp; omega)]
end Go.Mir
/- Loops with what comes behind them. -/
namespace Go.Mir
variable {b : Env → St → Out} {β : Type} {cont : Ex × Env × St → Option β}
/-- A loop whose rounds are told by states: each round goes on, with less left, or ends. -/
theorem loop_st {α : Type} (E : α → Env) (S : α → St) (m : α → Nat) (I : α → Prop) (R : α → Option β)
    (h : ∀ a, I a → (∃ a', b (E a) (S a) = some (.normal, E a', S a') ∧ I a' ∧ m a' < m a ∧ R a = R a') ∨ ∃ o, b (E a) (S a) = some o ∧ o.1 ≠ .normal ∧ cont o = R a) (a : α) (ha : I a) : (loopW b (E a) (S a)).bind cont = R a := by
  generalize hk : m a = k
  induction k using Nat.strongRecOn generalizing a with
  | ind k ih =>
    rcases h a ha with ⟨a', h1, h2, h3, h4⟩ | ⟨⟨x, e1, σ1⟩, h1, h2, h3⟩
    · rw [loopW_eq, h1, h4]
      exact ih _ (hk ▸ h3) a' h2 rfl
    · rw [loopW_eq, h1]
      cases x <;> first | exact absurd rfl h2 | exact h3
/-- The rounds are numbered. -/
theorem loop_cont (E : Nat → Env) (S : Nat → St) (n : Nat) (I : Nat → Prop) (R : Nat → Option β) (h0 : I 0) (hend : I n → ∃ o, b (E n) (S n) = some o ∧ o.1 ≠ .normal ∧ cont o = R n)
    (hround : ∀ i, i < n → I i → (b (E i) (S i) = some (.normal, E (i + 1), S (i + 1)) ∧ I (i + 1) ∧ R i = R (i + 1)) ∨ ∃ o, b (E i) (S i) = some o ∧ o.1 ≠ .normal ∧ cont o = R i) : (loopW b (E 0) (S 0)).bind cont = R 0 := by
  refine loop_st (α := Nat) E S (fun i => n - i) (fun i => i ≤ n ∧ I i) R (fun i hi => ?_) 0 ⟨Nat.zero_le _, h0⟩
  by_cases hn : i < n
  · rcases hround i hn hi.2 with ⟨h1, h2, h3⟩ | h
    · exact .inl ⟨i + 1, h1, ⟨by omega, h2⟩, by omega, h3⟩
    · exact .inr h
  · obtain rfl : i = n := by omega
    exact .inr (hend hi.2)

/-- append, as one value -/
def appD (own : Bool) (esz bytes : Nat) (xs ys : List (List Dat)) : Option Dat :=
  if own = true ∧ (xs.length + ys.length) * bytes ≤ 35184372088832 ∧ xs.all (·.length == esz) = true ∧ ys.all (·.length == esz) = true then some (.slice true (xs ++ ys)) else if ys.isEmpty then some (.slice own xs) else none
theorem evalOp_append {run : Run} {esc : Nat → Bool} {base : Nat} {e : Env} {σ : St} {str : Bool} {esz bytes : Nat} {x y : MArg} : evalOp run esc base e σ (.append str esz bytes x y) = (x.ev e).bind fun a => (y.ev e).bind fun b => match a with
    | .slice own xs => (b.rows? str).bind fun ys => (appD own esz bytes xs ys).bind fun d => some (d, x.take e, σ)
    | _ => none := by
  simp only [evalOp]
  cases x.ev e with
  | none => rfl
  | some a =>
    cases y.ev e with
    | none => rfl
    | some b =>
      simp only [Option.bind_some]
      cases a <;> try rfl
      rename_i own xs
      show (b.rows? str).bind _ = (b.rows? str).bind _
      cases b.rows? str with
      | none => rfl
      | some ys =>
        simp only [Option.bind_some, appD]
        by_cases h : own = true ∧ (xs.length + ys.length) * bytes ≤ 35184372088832 ∧ xs.all (·.length == esz) = true ∧ ys.all (·.length == esz) = true
        · rw [if_pos h]
          split
          · rename_i h2
            simp only [List.isEmpty_iff] at h2
            rw [h.1, h2, List.append_nil]; rfl
          · rfl
        · rw [if_neg h]
          split
          · rfl
          · rfl
theorem appD_nil {own : Bool} {esz bytes : Nat} {xs : List (List Dat)} : appD own esz bytes xs [] = some (.slice own xs) := by
  unfold appD
  split
  · rename_i h; rw [h.1, List.append_nil]
  · rfl
theorem appD_ok {esz bytes : Nat} {xs ys : List (List Dat)} (h1 : (xs.length + ys.length) * bytes ≤ 35184372088832) (h2 : ∀ x ∈ xs, x.length = esz) (h3 : ∀ x ∈ ys, x.length = esz) : appD true esz bytes xs ys = some (.slice true (xs ++ ys)) := by
  unfold appD
  rw [if_pos ⟨rfl, h1, by simpa using h2, by simpa using h3⟩]
theorem nn1 (k : Nat) : ((0 : Int) ≤ (k : Int) + 1) = True := eq_true (by omega)
theorem nn2 (k : Nat) : ((0 : Int) ≤ (k : Int)) = True := eq_true (by omega)
theorem take_rest {α β : Type} (f : α → β) (l : List α) (k : Nat) : List.take (l.length - k) (List.drop k (List.map f l)) = List.drop k (List.map f l) := List.take_of_length_le (by simp)
theorem underLL_app (n : Nat) (a b : List (List Dat)) : Dat.underLL n (a ++ b) = (Dat.underLL n a && Dat.underLL n b) := by
  induction a with
  | nil => simp [Dat.underLL]
  | cons x a ih => simp [Dat.underLL, ih, Bool.and_assoc]
theorem underLL_tk {n : Nat} {a : List (List Dat)} (k : Nat) (h : Dat.underLL n a = true) : Dat.underLL n (a.take k) = true := by
  have := h
  rw [← List.take_append_drop k a, underLL_app, Bool.and_eq_true] at this
  exact this.1
theorem underLL_dp {n : Nat} {a : List (List Dat)} (k : Nat) (h : Dat.underLL n a = true) : Dat.underLL n (a.drop k) = true := by
  have := h
  rw [← List.take_append_drop k a, underLL_app, Bool.and_eq_true] at this
  exact this.2
theorem take_full {α β : Type} (f : α → β) (l : List α) : List.take l.length (List.map f l) = List.map f l := List.take_of_length_le (by simp)
/-- all rows have so many cells -/
def rowsOk (n : Nat) (xs : List (List Dat)) : Bool := xs.all fun x => x.length == n
theorem rowsOk_nil (n : Nat) : rowsOk n [] = true := rfl
theorem rowsOk_cons (n : Nat) (x : List Dat) (xs : List (List Dat)) : rowsOk n (x :: xs) = (decide (x.length = n) && rowsOk n xs) := by simp [rowsOk, List.all_cons, BEq.beq]
theorem rowsOk_app (n : Nat) (a b : List (List Dat)) : rowsOk n (a ++ b) = (rowsOk n a && rowsOk n b) := by simp [rowsOk, List.all_append]
theorem rowsOk_tk {n : Nat} {a : List (List Dat)} (k : Nat) (h : rowsOk n a = true) : rowsOk n (a.take k) = true := by
  have := h
  rw [← List.take_append_drop k a, rowsOk_app, Bool.and_eq_true] at this
  exact this.1
theorem rowsOk_dp {n : Nat} {a : List (List Dat)} (k : Nat) (h : rowsOk n a = true) : rowsOk n (a.drop k) = true := by
  have := h
  rw [← List.take_append_drop k a, rowsOk_app, Bool.and_eq_true] at this
  exact this.2
theorem rowsOk_map {α : Type} (n : Nat) (enc : α → List Dat) (h : ∀ a, (enc a).length = n) (l : List α) : rowsOk n (l.map enc) = true := by
  simp [rowsOk, h]
theorem evalOp_slice {run : Run} {esc : Nat → Bool} {base : Nat} {e : Env} {σ : St} {esz : Nat} {x : MArg} {lo hi mx : Option MArg} : evalOp run esc base e σ (.slice esz x lo hi mx) = (x.ev e).bind fun
    | .slice _ xs => (bound e 0 lo).bind fun l => (bound e xs.length hi).bind fun h => (bound e h mx).bind fun m =>
        if l ≤ h ∧ h ≤ xs.length ∧ m = h ∧ (l = 0 ∨ rowsOk esz xs = true) then some (.slice mx.isSome ((xs.drop l).take (h - l)), e, σ) else none
    | _ => none := rfl
theorem rowsOk_tl {n : Nat} {a : List (List Dat)} (h : rowsOk n a = true) : rowsOk n a.tail = true := by rw [← List.drop_one]; exact rowsOk_dp 1 h
theorem underLL_tl {n : Nat} {a : List (List Dat)} (h : Dat.underLL n a = true) : Dat.underLL n a.tail = true := by rw [← List.drop_one]; exact underLL_dp 1 h
end Go.Mir
/- The interpreter's parts, value by value: no overlapping patterns to be told apart. -/
namespace Go.Mir
theorem strip_undef : Dat.strip (.undef) = (.undef) := rfl
theorem strip1_undef : Dat.strip1 (.undef) = (.undef) := rfl
theorem norm_undef : Dat.norm (.undef) = (.undef) := rfl
theorem noTup_undef : Dat.noTup (.undef) = true := rfl
theorem safe_undef : Dat.safe (.undef) = false := rfl
theorem cells_undef : Dat.cells? (.undef) = none := rfl
theorem under_undef (m : Nat) : Dat.under m (.undef) = true := by simp only [Dat.under]
theorem strip_int (k : IntKind) (n : Int) : Dat.strip (.int k n) = (.int k n) := rfl
theorem strip1_int (k : IntKind) (n : Int) : Dat.strip1 (.int k n) = (.int k n) := rfl
theorem norm_int (k : IntKind) (n : Int) : Dat.norm (.int k n) = (.int k n) := rfl
theorem noTup_int (k : IntKind) (n : Int) : Dat.noTup (.int k n) = true := rfl
theorem safe_int (k : IntKind) (n : Int) : Dat.safe (.int k n) = true := rfl
theorem cells_int (k : IntKind) (n : Int) : Dat.cells? (.int k n) = some [(.int k n)] := rfl
theorem under_int (m : Nat) (k : IntKind) (n : Int) : Dat.under m (.int k n) = true := by simp only [Dat.under]
theorem strip_bool (b : Bool) : Dat.strip (.bool b) = (.bool b) := rfl
theorem strip1_bool (b : Bool) : Dat.strip1 (.bool b) = (.bool b) := rfl
theorem norm_bool (b : Bool) : Dat.norm (.bool b) = (.bool b) := rfl
theorem noTup_bool (b : Bool) : Dat.noTup (.bool b) = true := rfl
theorem safe_bool (b : Bool) : Dat.safe (.bool b) = true := rfl
theorem cells_bool (b : Bool) : Dat.cells? (.bool b) = some [(.bool b)] := rfl
theorem under_bool (m : Nat) (b : Bool) : Dat.under m (.bool b) = true := by simp only [Dat.under]
theorem strip_str (s : List UInt8) : Dat.strip (.str s) = (.str s) := rfl
theorem strip1_str (s : List UInt8) : Dat.strip1 (.str s) = (.str s) := rfl
theorem norm_str (s : List UInt8) : Dat.norm (.str s) = (.str s) := rfl
theorem noTup_str (s : List UInt8) : Dat.noTup (.str s) = true := rfl
theorem safe_str (s : List UInt8) : Dat.safe (.str s) = true := rfl
theorem cells_str (s : List UInt8) : Dat.cells? (.str s) = some [(.str s)] := rfl
theorem under_str (m : Nat) (s : List UInt8) : Dat.under m (.str s) = true := by simp only [Dat.under]
theorem strip_agg (cs : List Dat) : Dat.strip (.agg cs) = (.agg cs) := rfl
theorem strip1_agg (cs : List Dat) : Dat.strip1 (.agg cs) = (.agg cs) := rfl
theorem norm_agg (cs : List Dat) : Dat.norm (.agg cs) = (.agg (cs.map Dat.strip1)) := rfl
theorem noTup_agg (cs : List Dat) : Dat.noTup (.agg cs) = true := rfl
theorem safe_agg (cs : List Dat) : Dat.safe (.agg cs) = false := rfl
theorem cells_agg (cs : List Dat) : Dat.cells? (.agg cs) = (if cs.all Dat.safe then some cs else none) := rfl
theorem under_agg (m : Nat) (cs : List Dat) : Dat.under m (.agg cs) = Dat.underL m cs := by simp only [Dat.under]
theorem strip_tup (cs : List Dat) : Dat.strip (.tup cs) = (.tup (cs.map Dat.strip1)) := rfl
theorem strip1_tup (cs : List Dat) : Dat.strip1 (.tup cs) = (.tup cs) := rfl
theorem norm_tup (cs : List Dat) : Dat.norm (.tup cs) = (.tup (cs.map Dat.strip1)) := rfl
theorem noTup_tup (cs : List Dat) : Dat.noTup (.tup cs) = false := rfl
theorem safe_tup (cs : List Dat) : Dat.safe (.tup cs) = false := rfl
theorem cells_tup (cs : List Dat) : Dat.cells? (.tup cs) = none := rfl
theorem under_tup (m : Nat) (cs : List Dat) : Dat.under m (.tup cs) = Dat.underL m cs := by simp only [Dat.under]
theorem strip_slice (own : Bool) (xs : List (List Dat)) : Dat.strip (.slice own xs) = (.slice false xs) := rfl
theorem strip1_slice (own : Bool) (xs : List (List Dat)) : Dat.strip1 (.slice own xs) = (.slice false xs) := rfl
theorem norm_slice (own : Bool) (xs : List (List Dat)) : Dat.norm (.slice own xs) = (.slice false xs) := rfl
theorem noTup_slice (own : Bool) (xs : List (List Dat)) : Dat.noTup (.slice own xs) = true := rfl
theorem safe_slice (own : Bool) (xs : List (List Dat)) : Dat.safe (.slice own xs) = (!own || xs.isEmpty) := rfl
theorem cells_slice (own : Bool) (xs : List (List Dat)) : Dat.cells? (.slice own xs) = some [(.slice own xs)] := rfl
theorem under_slice (m : Nat) (own : Bool) (xs : List (List Dat)) : Dat.under m (.slice own xs) = Dat.underLL m xs := by simp only [Dat.under]
theorem strip_nilp : Dat.strip (.nilp) = (.nilp) := rfl
theorem strip1_nilp : Dat.strip1 (.nilp) = (.nilp) := rfl
theorem norm_nilp : Dat.norm (.nilp) = (.nilp) := rfl
theorem noTup_nilp : Dat.noTup (.nilp) = true := rfl
theorem safe_nilp : Dat.safe (.nilp) = true := rfl
theorem cells_nilp : Dat.cells? (.nilp) = some [(.nilp)] := rfl
theorem under_nilp (m : Nat) : Dat.under m (.nilp) = true := by simp only [Dat.under]
theorem strip_ptr (id : Nat) (off : Nat) : Dat.strip (.ptr id off) = (.ptr id off) := rfl
theorem strip1_ptr (id : Nat) (off : Nat) : Dat.strip1 (.ptr id off) = (.ptr id off) := rfl
theorem norm_ptr (id : Nat) (off : Nat) : Dat.norm (.ptr id off) = (.ptr id off) := rfl
theorem noTup_ptr (id : Nat) (off : Nat) : Dat.noTup (.ptr id off) = true := rfl
theorem safe_ptr (id : Nat) (off : Nat) : Dat.safe (.ptr id off) = true := rfl
theorem cells_ptr (id : Nat) (off : Nat) : Dat.cells? (.ptr id off) = some [(.ptr id off)] := rfl
theorem under_ptr (m : Nat) (id : Nat) (off : Nat) : Dat.under m (.ptr id off) = decide (id < m) := by simp only [Dat.under]
theorem strip_rptr (cs : List Dat) : Dat.strip (.rptr cs) = (.rptr cs) := rfl
theorem strip1_rptr (cs : List Dat) : Dat.strip1 (.rptr cs) = (.rptr cs) := rfl
theorem norm_rptr (cs : List Dat) : Dat.norm (.rptr cs) = (.rptr cs) := rfl
theorem noTup_rptr (cs : List Dat) : Dat.noTup (.rptr cs) = true := rfl
theorem safe_rptr (cs : List Dat) : Dat.safe (.rptr cs) = true := rfl
theorem cells_rptr (cs : List Dat) : Dat.cells? (.rptr cs) = some [(.rptr cs)] := rfl
theorem under_rptr (m : Nat) (cs : List Dat) : Dat.under m (.rptr cs) = Dat.underL m cs := by simp only [Dat.under]
theorem strip_fn (f : Nat) (caps : List Dat) : Dat.strip (.fn f caps) = (.fn f caps) := rfl
theorem strip1_fn (f : Nat) (caps : List Dat) : Dat.strip1 (.fn f caps) = (.fn f caps) := rfl
theorem norm_fn (f : Nat) (caps : List Dat) : Dat.norm (.fn f caps) = (.fn f caps) := rfl
theorem noTup_fn (f : Nat) (caps : List Dat) : Dat.noTup (.fn f caps) = true := rfl
theorem safe_fn (f : Nat) (caps : List Dat) : Dat.safe (.fn f caps) = true := rfl
theorem cells_fn (f : Nat) (caps : List Dat) : Dat.cells? (.fn f caps) = some [(.fn f caps)] := rfl
theorem under_fn (m : Nat) (f : Nat) (caps : List Dat) : Dat.under m (.fn f caps) = Dat.underL m caps := by simp only [Dat.under]
theorem strip_nilf : Dat.strip (.nilf) = (.nilf) := rfl
theorem strip1_nilf : Dat.strip1 (.nilf) = (.nilf) := rfl
theorem norm_nilf : Dat.norm (.nilf) = (.nilf) := rfl
theorem noTup_nilf : Dat.noTup (.nilf) = true := rfl
theorem safe_nilf : Dat.safe (.nilf) = true := rfl
theorem cells_nilf : Dat.cells? (.nilf) = some [(.nilf)] := rfl
theorem under_nilf (m : Nat) : Dat.under m (.nilf) = true := by simp only [Dat.under]
theorem strip_iface (t : Nat) (d : Dat) : Dat.strip (.iface t d) = (.iface t d) := rfl
theorem strip1_iface (t : Nat) (d : Dat) : Dat.strip1 (.iface t d) = (.iface t d) := rfl
theorem norm_iface (t : Nat) (d : Dat) : Dat.norm (.iface t d) = (.iface t d) := rfl
theorem noTup_iface (t : Nat) (d : Dat) : Dat.noTup (.iface t d) = true := rfl
theorem safe_iface (t : Nat) (d : Dat) : Dat.safe (.iface t d) = true := rfl
theorem cells_iface (t : Nat) (d : Dat) : Dat.cells? (.iface t d) = some [(.iface t d)] := rfl
theorem under_iface (m : Nat) (t : Nat) (d : Dat) : Dat.under m (.iface t d) = Dat.under m d := by simp only [Dat.under]
theorem strip_nili : Dat.strip (.nili) = (.nili) := rfl
theorem strip1_nili : Dat.strip1 (.nili) = (.nili) := rfl
theorem norm_nili : Dat.norm (.nili) = (.nili) := rfl
theorem noTup_nili : Dat.noTup (.nili) = true := rfl
theorem safe_nili : Dat.safe (.nili) = true := rfl
theorem cells_nili : Dat.cells? (.nili) = some [(.nili)] := rfl
theorem under_nili (m : Nat) : Dat.under m (.nili) = true := by simp only [Dat.under]
theorem bin_add (k : IntKind) (x y : Int) : binD .add (.int k x) (.int k y) = some (.int k (k.wrap (x + y))) := by simp only [binD, intBin, if_true]
theorem bin_sub (k : IntKind) (x y : Int) : binD .sub (.int k x) (.int k y) = some (.int k (k.wrap (x - y))) := by simp only [binD, intBin, if_true]
theorem bin_mul (k : IntKind) (x y : Int) : binD .mul (.int k x) (.int k y) = some (.int k (k.wrap (x * y))) := by simp only [binD, intBin, if_true]
theorem bin_quo (k : IntKind) (x y : Int) : binD .quo (.int k x) (.int k y) = if y = 0 then none else some (.int k (k.wrap (x.tdiv y))) := by simp only [binD, intBin, if_true]
theorem bin_rem (k : IntKind) (x y : Int) : binD .rem (.int k x) (.int k y) = if y = 0 then none else some (.int k (x.tmod y)) := by simp only [binD, intBin, if_true]
theorem bin_eql (k : IntKind) (x y : Int) : binD .eql (.int k x) (.int k y) = some (.bool (decide (x = y))) := by simp only [binD, intBin, if_true]
theorem bin_neq (k : IntKind) (x y : Int) : binD .neq (.int k x) (.int k y) = some (.bool (!decide (x = y))) := by simp only [binD, intBin, if_true]
theorem bin_lss (k : IntKind) (x y : Int) : binD .lss (.int k x) (.int k y) = some (.bool (decide (x < y))) := by simp only [binD, intBin, if_true]
theorem bin_leq (k : IntKind) (x y : Int) : binD .leq (.int k x) (.int k y) = some (.bool (decide (x ≤ y))) := by simp only [binD, intBin, if_true]
theorem bin_gtr (k : IntKind) (x y : Int) : binD .gtr (.int k x) (.int k y) = some (.bool (decide (x > y))) := by simp only [binD, intBin, if_true]
theorem bin_geq (k : IntKind) (x y : Int) : binD .geq (.int k x) (.int k y) = some (.bool (decide (x ≥ y))) := by simp only [binD, intBin, if_true]
theorem bin_and (k : IntKind) (x y : Int) : binD .and (.int k x) (.int k y) = some (.int k (bits .and k x y)) := by simp only [binD, intBin, if_true]
theorem bin_or (k : IntKind) (x y : Int) : binD .or (.int k x) (.int k y) = some (.int k (bits .or k x y)) := by simp only [binD, intBin, if_true]
theorem bin_xor (k : IntKind) (x y : Int) : binD .xor (.int k x) (.int k y) = some (.int k (bits .xor k x y)) := by simp only [binD, intBin, if_true]
theorem bin_andNot (k : IntKind) (x y : Int) : binD .andNot (.int k x) (.int k y) = some (.int k (bits .andNot k x y)) := by simp only [binD, intBin, if_true]
theorem bin_shl (k k' : IntKind) (x y : Int) : binD .shl (.int k x) (.int k' y) = if y < 0 then none else some (.int k (k.wrap (x * 2 ^ (min y.toNat k.bits)))) := rfl
theorem bin_shr (k k' : IntKind) (x y : Int) : binD .shr (.int k x) (.int k' y) = if y < 0 then none else some (.int k (x.fdiv (2 ^ (min y.toNat k.bits)))) := rfl
theorem sbin_add (x y : List UInt8) : binD .add (.str x) (.str y) = if x.length + y.length ≤ 9223372036854775807 then some (.str (x ++ y)) else none := by simp only [binD, strBin]
theorem sbin_eql (x y : List UInt8) : binD .eql (.str x) (.str y) = some (.bool (decide (x = y))) := by simp only [binD, strBin]
theorem sbin_neq (x y : List UInt8) : binD .neq (.str x) (.str y) = some (.bool (!decide (x = y))) := by simp only [binD, strBin]
theorem sbin_lss (x y : List UInt8) : binD .lss (.str x) (.str y) = some (.bool (less x y)) := by simp only [binD, strBin]
theorem sbin_leq (x y : List UInt8) : binD .leq (.str x) (.str y) = some (.bool (less x y || decide (x = y))) := by simp only [binD, strBin]
theorem sbin_gtr (x y : List UInt8) : binD .gtr (.str x) (.str y) = some (.bool (!(less x y || decide (x = y)))) := by simp only [binD, strBin]
theorem sbin_geq (x y : List UInt8) : binD .geq (.str x) (.str y) = some (.bool (!less x y)) := by simp only [binD, strBin]
theorem load_ptr (agg : Bool) (n : Nat) (σ : St) (id off : Nat) : loadD agg n σ (.ptr id off) = (St.get σ id).bind fun cs => if off + n ≤ cs.length then ofCells agg ((cs.drop off).take n) else none := rfl
theorem load_rptr (agg : Bool) (n : Nat) (σ : St) (cs : List Dat) : loadD agg n σ (.rptr cs) = if n ≤ cs.length then ofCells agg (cs.take n) else none := rfl
theorem cellEq_int (i : IntKind) (x y : Int) : cellEq 0 (.int i x) (.int i y) = some (decide (x = y)) := by simp [cellEq]
theorem cellEq_bool (x y : Bool) : cellEq 1 (.bool x) (.bool y) = some (x == y) := rfl
theorem cellEq_str (x y : List UInt8) : cellEq 2 (.str x) (.str y) = some (decide (x = y)) := rfl
theorem cellsEq_nil : cellsEq [] [] [] = some true := rfl
theorem cellsEq_cons (k : Nat) (ks : List Nat) (x y : Dat) (xs ys : List Dat) : cellsEq (k :: ks) (x :: xs) (y :: ys) = (cellEq k x y).bind fun b => (cellsEq ks xs ys).bind fun c => some (b && c) := rfl
theorem rows_sl (o : Bool) (ys : List (List Dat)) : Dat.rows? false (.slice o ys) = some ys := rfl
theorem rows_str (s : List UInt8) : Dat.rows? true (.str s) = some (s.map fun c => [.int .u8 c.toNat]) := rfl
theorem packD_one (d : Dat) : packD [d] = d := rfl
theorem packD_nil : packD [] = .tup [] := rfl
theorem packD_two (a b : Dat) (l : List Dat) : packD (a :: b :: l) = .tup (a :: b :: l) := rfl
theorem leave_ret (fd : MFunc) (base : Nat) (e : Env) (σ : St) : leave fd base (.ret, e, σ) = (resD e σ fd.res).bind fun l => if l.all Dat.noTup then (let d := if fd.own then packD l else (packD l).strip; some (d, gc base [d] σ)) else none := rfl
theorem leave_normal (fd : MFunc) (base : Nat) (e : Env) (σ : St) : leave fd base (.normal, e, σ) = (resD e σ fd.res).bind fun l => if l.all Dat.noTup then (let d := if fd.own then packD l else (packD l).strip; some (d, gc base [d] σ)) else none := rfl
theorem leave_exit (fd : MFunc) (base i : Nat) (e : Env) (σ : St) : leave fd base (.exit i, e, σ) = none := rfl
section
variable {run : Run} {esc : Nat → Bool} {base : Nat} {e : Env} {σ : St} {l : (Env → St → Out) → Env → St → Out}
def seqK (k : Env → St → Out) : Ex × Env × St → Out
  | (.normal, e, σ) => k e σ
  | (.exit i, e, σ) => some (.exit i, e, σ)
  | (.ret, e, σ) => some (.ret, e, σ)
def blockK (id : Nat) : Ex × Env × St → Out
  | (.normal, e, σ) => some (.normal, e, σ)
  | (.exit i, e, σ) => if i = id then some (.normal, e, σ) else some (.exit i, e, σ)
  | (.ret, e, σ) => some (.ret, e, σ)
def condK (a b : Out) : Dat → Out
  | .bool t => bif t then a else b
  | _ => none
theorem seqK_normal (k : Env → St → Out) (e : Env) (σ : St) : seqK k (.normal, e, σ) = k e σ := rfl
theorem seqK_exit (k : Env → St → Out) (i : Nat) (e : Env) (σ : St) : seqK k (.exit i, e, σ) = some (.exit i, e, σ) := rfl
theorem seqK_ret (k : Env → St → Out) (e : Env) (σ : St) : seqK k (.ret, e, σ) = some (.ret, e, σ) := rfl
theorem blockK_normal (id : Nat) (e : Env) (σ : St) : blockK id (.normal, e, σ) = some (.normal, e, σ) := rfl
theorem blockK_exit (id i : Nat) (e : Env) (σ : St) : blockK id (.exit i, e, σ) = if i = id then some (.normal, e, σ) else some (.exit i, e, σ) := rfl
theorem blockK_ret (id : Nat) (e : Env) (σ : St) : blockK id (.ret, e, σ) = some (.ret, e, σ) := rfl
theorem condK_bool (a b : Out) (t : Bool) : condK a b (.bool t) = bif t then a else b := rfl
theorem exec_skip : exec run esc l base .skip e σ = some (.normal, e, σ) := rfl
theorem exec_exit (i : Nat) : exec run esc l base (.exit i) e σ = some (.exit i, e, σ) := rfl
theorem exec_ret : exec run esc l base .ret e σ = some (.ret, e, σ) := rfl
theorem exec_loop (b : MCode) : exec run esc l base (.loop b) e σ = l (exec run esc l base b) e σ := rfl
theorem exec_seq (a b : MCode) : exec run esc l base (.seq a b) e σ = (exec run esc l base a e σ).bind (seqK fun e σ => exec run esc l base b e σ) := by
  simp only [exec]
  congr 1
  funext ⟨x, e1, σ1⟩
  cases x <;> rfl
theorem exec_block (id : Nat) (b : MCode) : exec run esc l base (.block id b) e σ = (exec run esc l base b e σ).bind (blockK id) := by
  simp only [exec]
  congr 1
  funext ⟨x, e1, σ1⟩
  cases x <;> rfl
theorem exec_cond (c : MArg) (a b : MCode) : exec run esc l base (.cond c a b) e σ = (c.ev e).bind (condK (exec run esc l base a e σ) (exec run esc l base b e σ)) := by
  simp only [exec]
  congr 1
  funext d
  cases d <;> try rfl
  rename_i t
  cases t <;> rfl
theorem ev_tmp (n : Nat) : MArg.ev e (.tmp n) = Env.get e n := rfl
theorem ev_lit (d : Dat) : MArg.ev e (.lit d) = some d := rfl
theorem evs_nil : MArg.evs e [] = some [] := rfl
theorem evs_cons (x : MArg) (r : List MArg) : MArg.evs e (x :: r) = (x.ev e).bind fun d => (MArg.evs e r).bind fun l => some (d :: l) := rfl
def takeK (e : Env) (n : Nat) : Option Dat → Env
  | some d => Env.put e n d.strip
  | none => e
theorem takeK_some (n : Nat) (d : Dat) : takeK e n (some d) = Env.put e n d.strip := rfl
theorem take_tmp (n : Nat) : MArg.take e (.tmp n) = takeK e n (Env.get e n) := by unfold MArg.take takeK; rfl
theorem take_lit (d : Dat) : MArg.take e (.lit d) = e := rfl
def keepK (n : Nat) (r : Env) : Option Dat → Env
  | some d => (n, d) :: r
  | none => r
theorem keepK_some (n : Nat) (r : Env) (d : Dat) : keepK n r (some d) = (n, d) :: r := rfl
theorem keepK_none (n : Nat) (r : Env) : keepK n r none = r := rfl
theorem keep_nil : Env.keep e [] = [] := rfl
theorem keep_cons (n : Nat) (l : List Nat) : Env.keep e (n :: l) = keepK n (Env.keep e l) (Env.get e n) := by
  rw [Env.keep]
  cases Env.get e n <;> rfl
theorem putD_some (n : Nat) (d : Dat) : putD e (some n) d = (n, d) :: e := rfl
theorem putD_none (d : Dat) : putD e none d = e := rfl
theorem put_eq (n : Nat) (d : Dat) : Env.put e n d = (n, d) :: e := rfl
theorem get_nil (n : Nat) : Env.get [] n = none := rfl
theorem get_cons (m n : Nat) (d : Dat) : Env.get ((m, d) :: e) n = bif m == n then some d else Env.get e n := rfl
theorem steps_nil : stepOps run esc base [] e σ = some (e, σ) := rfl
theorem steps_cons (o : MOper) (r : List MOper) : stepOps run esc base (o :: r) e σ = (stepOp run esc base o e σ).bind fun x => stepOps run esc base r x.1 x.2 := rfl
theorem step_none (dst : Option Nat) (op : MOp) : stepOp run esc base ⟨dst, op, none⟩ e σ = (evalOp run esc base e σ op).bind fun x => some (putD x.2.1 dst x.1, x.2.2) := rfl
def guardK (want : Bool) (a b : Option (Env × St)) : Dat → Option (Env × St)
  | .bool t => bif t == want then a else b
  | .undef => b
  | _ => none
theorem guardK_t (a b : Option (Env × St)) (t : Bool) : guardK true a b (.bool t) = bif t then a else b := by cases t <;> rfl
theorem guardK_f (a b : Option (Env × St)) (t : Bool) : guardK false a b (.bool t) = bif t then b else a := by cases t <;> rfl
theorem guardK_undef (want : Bool) (a b : Option (Env × St)) : guardK want a b .undef = b := rfl
theorem step_some (dst : Option Nat) (op : MOp) (g : Nat) (want : Bool) : stepOp run esc base ⟨dst, op, some (g, want)⟩ e σ = (Env.get e g).bind (guardK want ((evalOp run esc base e σ op).bind fun x => some (putD x.2.1 dst x.1, x.2.2)) (some (putD e dst .undef, σ))) := by
  simp only [stepOp, wantedD]
  cases Env.get e g with
  | none => rfl
  | some d =>
    simp only [Option.bind_some]
    cases d <;> try rfl
    rename_i t
    cases t <;> cases want <;> rfl
-- the operations, as functions of values
def pickV (a b : Option Dat) : Dat → Option Dat
  | .bool t => bif t then a else b
  | _ => none
theorem pickV_bool (a b : Option Dat) (t : Bool) : pickV a b (.bool t) = bif t then a else b := rfl
theorem eo_pick (c a b : MArg) : evalOp run esc base e σ (.pick c a b) = (c.ev e).bind fun t => (pickV (a.ev e) (b.ev e) t).bind fun d => some (d.strip, e, σ) := by
  simp only [evalOp]
  congr 1
  funext d
  cases d <;> try rfl
  rename_i t
  cases t <;> rfl
def loadmV (agg : Bool) (n : Nat) (e : Env) (σ : St) : Dat → Option (Dat × Env × St)
  | .ptr id off => (loadD agg n σ (.ptr id off)).bind fun d => (St.get σ id).bind fun cs => some (d, e, St.set σ id (cs.take off ++ (d.strip1 :: cs.drop (off + 1))))
  | p => (loadD agg n σ p).bind fun d => some (d.strip, e, σ)
theorem loadmV_ptr (agg : Bool) (n id off : Nat) : loadmV agg n e σ (.ptr id off) = (loadD agg n σ (.ptr id off)).bind fun d => (St.get σ id).bind fun cs => some (d, e, St.set σ id (cs.take off ++ (d.strip1 :: cs.drop (off + 1)))) := rfl
theorem loadmV_rptr (agg : Bool) (n : Nat) (cs : List Dat) : loadmV agg n e σ (.rptr cs) = (loadD agg n σ (.rptr cs)).bind fun d => some (d.strip, e, σ) := rfl
theorem eo_loadm (agg : Bool) (n : Nat) (x : MArg) : evalOp run esc base e σ (.load true agg n x) = (x.ev e).bind (loadmV agg n e σ) := by
  simp only [evalOp]
  congr 1
  funext d
  cases d <;> rfl
theorem eo_load (agg : Bool) (n : Nat) (x : MArg) : evalOp run esc base e σ (.load false agg n x) = (x.ev e).bind fun p => (loadD agg n σ p).bind fun d => some (d.strip, e, σ) := rfl
def storeV (n base : Nat) (σ : St) (vd : Option Dat) : Dat → Option St
  | .ptr id off => vd.bind fun d => d.cells?.bind fun c => (St.get σ id).bind fun cs =>
        if c.length = n ∧ off + n ≤ cs.length ∧ (base ≤ id ∨ Dat.underL (id + 1) c) then some (St.set σ id (cs.take off ++ c ++ cs.drop (off + n))) else none
  | _ => none
theorem storeV_ptr (n base id off : Nat) (vd : Option Dat) : storeV n base σ vd (.ptr id off) = vd.bind fun d => d.cells?.bind fun c => (St.get σ id).bind fun cs =>
        if c.length = n ∧ off + n ≤ cs.length ∧ (base ≤ id ∨ Dat.underL (id + 1) c) then some (St.set σ id (cs.take off ++ c ++ cs.drop (off + n))) else none := rfl
theorem eo_store (n : Nat) (a v : MArg) : evalOp run esc base e σ (.store n a v) = (a.ev e).bind fun p => (storeV n base σ (v.ev e) p).bind fun s => some (.undef, v.take e, s) := by
  simp only [evalOp]
  congr 1
  funext p
  cases p <;> try rfl
  rename_i id off
  simp only [storeV, Option.bind_assoc]
  congr 1
  funext d
  congr 1
  funext c
  congr 1
  funext cs
  split <;> rfl
def storefV (n base : Nat) (σ : St) (e : Env) (rs : List Nat) (vd : Option Dat) : Dat → Option St
  | .ptr id off => vd.bind fun d => d.cells?.bind fun c => (St.get σ id).bind fun cs =>
        if c.length = n ∧ off + n ≤ cs.length ∧ (base ≤ id ∨ Dat.underL (id + 1) c) then (if rs.all (clearOf e id) then some (St.set σ id (cs.take off ++ c ++ cs.drop (off + n))) else none) else none
  | _ => none
theorem storefV_ptr (n base id off : Nat) (rs : List Nat) (vd : Option Dat) : storefV n base σ e rs vd (.ptr id off) = vd.bind fun d => d.cells?.bind fun c => (St.get σ id).bind fun cs =>
        if c.length = n ∧ off + n ≤ cs.length ∧ (base ≤ id ∨ Dat.underL (id + 1) c) then (if rs.all (clearOf e id) then some (St.set σ id (cs.take off ++ c ++ cs.drop (off + n))) else none) else none := rfl
theorem eo_storef (n : Nat) (a v : MArg) (rs : List Nat) : evalOp run esc base e σ (.storef n a v rs) = (a.ev e).bind fun p => (storefV n base σ e rs (v.ev e) p).bind fun s => some (.undef, v.take e, s) := by
  simp only [evalOp]
  congr 1
  funext p
  cases p <;> try rfl
  rename_i id off
  simp only [storefV, Option.bind_assoc]
  congr 1
  funext d
  congr 1
  funext c
  congr 1
  funext cs
  split
  · split <;> rfl
  · rfl
def clearK (id : Nat) : Option Dat → Bool
  | some (.ptr q _) => q != id
  | _ => true
theorem clearK_ptr (id q o : Nat) : clearK id (some (.ptr q o)) = (q != id) := rfl
theorem clearK_rptr (id : Nat) (cs : List Dat) : clearK id (some (.rptr cs)) = true := rfl
theorem clearK_none (id : Nat) : clearK id none = true := rfl
theorem clear_eq (id t : Nat) : clearOf e id t = clearK id (Env.get e t) := rfl
def nilCheckV : Dat → Option Dat
  | .ptr i o => some (.ptr i o)
  | .rptr cs => some (.rptr cs)
  | .fn f c => some (.fn f c)
  | _ => none
theorem nilCheckV_ptr (i o : Nat) : nilCheckV (.ptr i o) = some (.ptr i o) := rfl
theorem nilCheckV_rptr (cs : List Dat) : nilCheckV (.rptr cs) = some (.rptr cs) := rfl
theorem nilCheckV_fn (f : Nat) (cs : List Dat) : nilCheckV (.fn f cs) = some (.fn f cs) := rfl
theorem eo_nilCheck (x : MArg) : evalOp run esc base e σ (.nilCheck x) = (x.ev e).bind fun d => (nilCheckV d).bind fun d => some (d, e, σ) := by
  simp only [evalOp]
  congr 1
  funext d
  cases d <;> rfl
def eqsV (neq : Bool) (ks : List Nat) : Dat → Dat → Option Dat
  | .agg xs, .agg ys => (cellsEq ks xs ys).bind fun t => some (.bool (if neq then !t else t))
  | _, _ => none
theorem eqsV_agg (neq : Bool) (ks : List Nat) (xs ys : List Dat) : eqsV neq ks (.agg xs) (.agg ys) = (cellsEq ks xs ys).bind fun t => some (.bool (if neq then !t else t)) := rfl
theorem eo_eqs (neq : Bool) (ks : List Nat) (x y : MArg) : evalOp run esc base e σ (.eqs neq ks x y) = (x.ev e).bind fun a => (y.ev e).bind fun b => (eqsV neq ks a b).bind fun d => some (d, e, σ) := by
  simp only [evalOp]
  congr 1
  funext a
  congr 1
  funext b
  cases a <;> cases b <;> try rfl
  simp only [eqsV, Option.bind_assoc, Option.bind_some]
def eqbV (neq : Bool) : Dat → Dat → Option Dat
  | .bool s, .bool t => some (.bool (if neq then !(s == t) else s == t))
  | _, _ => none
theorem eqbV_bool (neq s t : Bool) : eqbV neq (.bool s) (.bool t) = some (.bool (if neq then !(s == t) else s == t)) := rfl
theorem eo_eqb (neq : Bool) (x y : MArg) : evalOp run esc base e σ (.eqb neq x y) = (x.ev e).bind fun a => (y.ev e).bind fun b => (eqbV neq a b).bind fun d => some (d, e, σ) := by
  simp only [evalOp]
  congr 1
  funext a
  congr 1
  funext b
  cases a <;> cases b <;> rfl
def unV : UnOp → Dat → Option Dat
  | .neg, .int k n => some (.int k (k.wrap (0 - n)))
  | .not, .bool b => some (.bool (!b))
  | _, _ => none
theorem unV_neg (k : IntKind) (n : Int) : unV .neg (.int k n) = some (.int k (k.wrap (0 - n))) := rfl
theorem unV_not (b : Bool) : unV .not (.bool b) = some (.bool (!b)) := rfl
theorem eo_un (op : UnOp) (x : MArg) : evalOp run esc base e σ (.un op x) = (x.ev e).bind fun a => (unV op a).bind fun d => some (d, e, σ) := by
  simp only [evalOp]
  congr 1
  funext a
  cases op <;> cases a <;> rfl
def convV (k : IntKind) : Dat → Option Dat
  | .int _ n => some (.int k (k.wrap n))
  | _ => none
theorem convV_int (k k' : IntKind) (n : Int) : convV k (.int k' n) = some (.int k (k.wrap n)) := rfl
theorem eo_conv (k : IntKind) (x : MArg) : evalOp run esc base e σ (.conv k x) = (x.ev e).bind fun a => (convV k a).bind fun d => some (d, e, σ) := by
  simp only [evalOp]
  congr 1
  funext a
  cases a <;> rfl
def boundK : Dat → Option Nat
  | .int _ n => if 0 ≤ n then some n.toNat else none
  | _ => none
theorem boundK_int (k : IntKind) (n : Int) : boundK (.int k n) = if 0 ≤ n then some n.toNat else none := rfl
theorem bound_none (d : Nat) : bound e d none = some d := rfl
theorem bound_some (d : Nat) (x : MArg) : bound e d (some x) = (x.ev e).bind boundK := rfl
def sliceV (esz : Nat) (own : Bool) (lo : Option Nat) (h m : Nat → Option Nat) : Dat → Option Dat
  | .slice _ xs => lo.bind fun l => (h xs.length).bind fun h => (m h).bind fun m => if l ≤ h ∧ h ≤ xs.length ∧ m = h ∧ (l = 0 ∨ rowsOk esz xs = true) then some (.slice own ((xs.drop l).take (h - l))) else none
  | _ => none
theorem sliceV_slice (esz : Nat) (own o : Bool) (lo : Option Nat) (h m : Nat → Option Nat) (xs : List (List Dat)) : sliceV esz own lo h m (.slice o xs) = lo.bind fun l => (h xs.length).bind fun h => (m h).bind fun m => if l ≤ h ∧ h ≤ xs.length ∧ m = h ∧ (l = 0 ∨ rowsOk esz xs = true) then some (.slice own ((xs.drop l).take (h - l))) else none := rfl
theorem eo_slice (esz : Nat) (x : MArg) (lo hi mx : Option MArg) : evalOp run esc base e σ (.slice esz x lo hi mx) = (x.ev e).bind fun a => (sliceV esz mx.isSome (bound e 0 lo) (fun n => bound e n hi) (fun h => bound e h mx) a).bind fun d => some (d, e, σ) := by
  rw [evalOp_slice]
  congr 1
  funext a
  cases a <;> try rfl
  simp only [sliceV, Option.bind_assoc]
  congr 1
  funext l
  congr 1
  funext h
  congr 1
  funext m
  split <;> rfl
def substrV (e : Env) (lo hi : Option MArg) : Dat → Option Dat
  | .str s => (bound e 0 lo).bind fun l => (bound e s.length hi).bind fun h => if l ≤ h ∧ h ≤ s.length then some (.str ((s.drop l).take (h - l))) else none
  | _ => none
theorem substrV_str (lo hi : Option MArg) (s : List UInt8) : substrV e lo hi (.str s) = (bound e 0 lo).bind fun l => (bound e s.length hi).bind fun h => if l ≤ h ∧ h ≤ s.length then some (.str ((s.drop l).take (h - l))) else none := rfl
theorem eo_substr (x : MArg) (lo hi : Option MArg) : evalOp run esc base e σ (.substr x lo hi) = (x.ev e).bind fun a => (substrV e lo hi a).bind fun d => some (d, e, σ) := by
  simp only [evalOp]
  congr 1
  funext a
  cases a <;> try rfl
  simp only [substrV, Option.bind_assoc]
  congr 1
  funext h
  congr 1
  funext m
  split <;> rfl
def fieldAddrV (off : Nat) : Dat → Option Dat
  | .ptr id o => some (.ptr id (o + off))
  | .rptr cs => if off < cs.length then some (.rptr (cs.drop off)) else none
  | _ => none
theorem fieldAddrV_ptr (off id o : Nat) : fieldAddrV off (.ptr id o) = some (.ptr id (o + off)) := rfl
theorem fieldAddrV_rptr (off : Nat) (cs : List Dat) : fieldAddrV off (.rptr cs) = if off < cs.length then some (.rptr (cs.drop off)) else none := rfl
theorem eo_fieldAddr (off : Nat) (x : MArg) : evalOp run esc base e σ (.fieldAddr off x) = (x.ev e).bind fun a => (fieldAddrV off a).bind fun d => some (d, e, σ) := by
  simp only [evalOp]
  congr 1
  funext a
  cases a <;> try rfl
  simp only [fieldAddrV]
  split <;> rfl
def fieldV (agg : Bool) (off n : Nat) : Dat → Option Dat
  | .agg cs => if off + n ≤ cs.length then (ofCells agg ((cs.drop off).take n)).bind fun d => some d.strip else none
  | _ => none
theorem fieldV_agg (agg : Bool) (off n : Nat) (cs : List Dat) : fieldV agg off n (.agg cs) = if off + n ≤ cs.length then (ofCells agg ((cs.drop off).take n)).bind fun d => some d.strip else none := rfl
theorem eo_field (agg : Bool) (off n : Nat) (x : MArg) : evalOp run esc base e σ (.field agg off n x) = (x.ev e).bind fun a => (fieldV agg off n a).bind fun d => some (d, e, σ) := by
  simp only [evalOp]
  congr 1
  funext a
  cases a <;> try rfl
  simp only [fieldV]
  split
  · simp only [Option.bind_assoc, Option.bind_some]
  · rfl
def indexV (esz : Nat) : Dat → Dat → Option Dat
  | .slice _ xs, .int _ n => if 0 ≤ n then (xs[n.toNat]?).bind fun cs => if cs.length = esz ∧ 0 < esz then some (.rptr cs) else none else none
  | _, _ => none
theorem indexV_slice (esz : Nat) (o : Bool) (xs : List (List Dat)) (k : IntKind) (n : Int) : indexV esz (.slice o xs) (.int k n) = if 0 ≤ n then (xs[n.toNat]?).bind fun cs => if cs.length = esz ∧ 0 < esz then some (.rptr cs) else none else none := rfl
theorem eo_index (esz : Nat) (x i : MArg) : evalOp run esc base e σ (.index esz x i) = (x.ev e).bind fun a => (i.ev e).bind fun b => (indexV esz a b).bind fun d => some (d, e, σ) := by
  simp only [evalOp]
  congr 1
  funext a
  congr 1
  funext b
  cases a <;> cases b <;> try rfl
  simp only [indexV]
  split
  · simp only [Option.bind_assoc]
    congr 1
    funext cs
    split <;> rfl
  · rfl
def indexArrV (len esz : Nat) : Dat → Dat → Option Dat
  | .ptr id off, .int _ n => if 0 ≤ n ∧ n < len then some (.ptr id (off + n.toNat * esz)) else none
  | .rptr cs, .int _ n => if 0 ≤ n ∧ n < len ∧ n.toNat * esz < cs.length then some (.rptr (cs.drop (n.toNat * esz))) else none
  | _, _ => none
theorem indexArrV_ptr (len esz id off : Nat) (k : IntKind) (n : Int) : indexArrV len esz (.ptr id off) (.int k n) = if 0 ≤ n ∧ n < len then some (.ptr id (off + n.toNat * esz)) else none := rfl
theorem indexArrV_rptr (len esz : Nat) (cs : List Dat) (k : IntKind) (n : Int) : indexArrV len esz (.rptr cs) (.int k n) = if 0 ≤ n ∧ n < len ∧ n.toNat * esz < cs.length then some (.rptr (cs.drop (n.toNat * esz))) else none := rfl
theorem eo_indexArr (len esz : Nat) (x i : MArg) : evalOp run esc base e σ (.indexArr len esz x i) = (x.ev e).bind fun a => (i.ev e).bind fun b => (indexArrV len esz a b).bind fun d => some (d, e, σ) := by
  simp only [evalOp]
  congr 1
  funext a
  congr 1
  funext b
  cases a <;> cases b <;> (try rfl) <;> (simp only [indexArrV]; split <;> rfl)
def atV : Dat → Dat → Option Dat
  | .str s, .int _ n => if 0 ≤ n then (s[n.toNat]?).bind fun c => some (.int .u8 c.toNat) else none
  | _, _ => none
theorem atV_str (s : List UInt8) (k : IntKind) (n : Int) : atV (.str s) (.int k n) = if 0 ≤ n then (s[n.toNat]?).bind fun c => some (.int .u8 c.toNat) else none := rfl
theorem eo_at (x i : MArg) : evalOp run esc base e σ (.at x i) = (x.ev e).bind fun a => (i.ev e).bind fun b => (atV a b).bind fun d => some (d, e, σ) := by
  simp only [evalOp]
  congr 1
  funext a
  congr 1
  funext b
  cases a <;> cases b <;> try rfl
  simp only [atV]
  split
  · simp only [Option.bind_assoc, Option.bind_some]
  · rfl
def extractV (i s : Nat) (e : Env) : Dat → Option (Dat × Env)
  | .tup cs => (cs[i]?).bind fun d => some (d, Env.put e s (.tup (cs.set i d.strip1)))
  | _ => none
theorem extractV_tup (i s : Nat) (cs : List Dat) : extractV i s e (.tup cs) = (cs[i]?).bind fun d => some (d, Env.put e s (.tup (cs.set i d.strip1))) := rfl
theorem eo_extract (i s : Nat) : evalOp run esc base e σ (.extract i (.tmp s)) = (Env.get e s).bind fun a => (extractV i s e a).bind fun x => some (x.1, x.2, σ) := by
  simp only [evalOp, MArg.ev]
  congr 1
  funext a
  cases a <;> try rfl
  simp only [extractV, Option.bind_assoc, Option.bind_some]
def extractnV (i : Nat) : Dat → Option Dat
  | .tup cs => (cs[i]?).bind fun d => some d.strip1
  | _ => none
theorem extractnV_tup (i : Nat) (cs : List Dat) : extractnV i (.tup cs) = (cs[i]?).bind fun d => some d.strip1 := rfl
theorem eo_extractn (i : Nat) (x : MArg) : evalOp run esc base e σ (.extractn i x) = (x.ev e).bind fun a => (extractnV i a).bind fun d => some (d, e, σ) := by
  simp only [evalOp]
  congr 1
  funext a
  cases a <;> try rfl
  simp only [extractnV, Option.bind_assoc, Option.bind_some]
def callV (run : Run) (esc : Nat → Bool) (l : Option (List Dat)) (σ : St) : Dat → Option (Dat × St)
  | .fn g caps => l.bind fun l => callD run esc g ((l ++ caps).map Dat.norm) σ
  | _ => none
theorem callV_fn (l : Option (List Dat)) (g : Nat) (caps : List Dat) : callV run esc l σ (.fn g caps) = l.bind fun l => callD run esc g ((l ++ caps).map Dat.norm) σ := rfl
theorem eo_call (f : MArg) (args : List MArg) : evalOp run esc base e σ (.call f args) = (f.ev e).bind fun h => (callV run esc (MArg.evs e args) σ h).bind fun x => some (x.1, e, x.2) := by
  simp only [evalOp]
  congr 1
  funext h
  cases h <;> try rfl
  simp only [callV, Option.bind_assoc]
def callcV (run : Run) (esc : Nat → Bool) (l : Option (List Dat)) : Dat → Option Dat
  | .fn g caps => l.bind fun l => callC run esc g ((l ++ caps).map Dat.norm)
  | _ => none
theorem callcV_fn (l : Option (List Dat)) (g : Nat) (caps : List Dat) : callcV run esc l (.fn g caps) = l.bind fun l => callC run esc g ((l ++ caps).map Dat.norm) := rfl
theorem eo_callc (f : MArg) (args : List MArg) : evalOp run esc base e σ (.callc f args) = (f.ev e).bind fun h => (callcV run esc (MArg.evs e args) h).bind fun d => some (d, e, σ) := by
  simp only [evalOp]
  congr 1
  funext h
  cases h <;> try rfl
  simp only [callcV, Option.bind_assoc]
def callrV (run : Run) (esc : Nat → Bool) (l : Option (List Dat)) (σ : St) : Dat → Option Dat
  | .fn g caps => l.bind fun l => callR run esc g ((l ++ caps).map Dat.norm) σ
  | _ => none
theorem callrV_fn (l : Option (List Dat)) (g : Nat) (caps : List Dat) : callrV run esc l σ (.fn g caps) = l.bind fun l => callR run esc g ((l ++ caps).map Dat.norm) σ := rfl
theorem eo_callr (f : MArg) (args : List MArg) : evalOp run esc base e σ (.callr f args) = (f.ev e).bind fun h => (callrV run esc (MArg.evs e args) σ h).bind fun d => some (d, e, σ) := by
  simp only [evalOp]
  congr 1
  funext h
  cases h <;> try rfl
  simp only [callrV, Option.bind_assoc]
theorem callR_eq (f : Nat) (args : List Dat) : callR run esc f args σ = if Dat.underL 0 args && !esc f then callC run esc f args else (run f args σ).bind fun x => if Dat.beqLL x.2 σ then some x.1 else none := rfl
theorem beq_st (σ : St) : Dat.beqLL σ σ = true := Dat.beqLL_self σ
def loadrV (agg : Bool) (n : Nat) : Dat → Option Dat
  | .rptr cs => if n ≤ cs.length then (ofCells agg (cs.take n)).bind fun d => some d.strip else none
  | _ => none
theorem loadrV_rptr (agg : Bool) (n : Nat) (cs : List Dat) : loadrV agg n (.rptr cs) = if n ≤ cs.length then (ofCells agg (cs.take n)).bind fun d => some d.strip else none := rfl
theorem eo_loadr (agg : Bool) (n : Nat) (x : MArg) : evalOp run esc base e σ (.loadr agg n x) = (x.ev e).bind fun a => (loadrV agg n a).bind fun d => some (d, e, σ) := by
  simp only [evalOp]
  congr 1
  funext a
  cases a <;> try rfl
  simp only [loadrV]
  split
  · simp only [Option.bind_assoc, Option.bind_some]
  · rfl
def lenV : Bool → Dat → Option Dat
  | false, .slice _ xs => some (.int .i64 xs.length)
  | true, .str s => some (.int .i64 s.length)
  | _, _ => none
theorem lenV_slice (o : Bool) (xs : List (List Dat)) : lenV false (.slice o xs) = some (.int .i64 xs.length) := rfl
theorem lenV_str (s : List UInt8) : lenV true (.str s) = some (.int .i64 s.length) := rfl
theorem eo_len (str : Bool) (x : MArg) : evalOp run esc base e σ (.len str x) = (x.ev e).bind fun a => (lenV str a).bind fun d => some (d, e, σ) := by
  simp only [evalOp]
  congr 1
  funext a
  cases str <;> cases a <;> rfl
def appV (esz bytes : Nat) (ys : Option (List (List Dat))) : Dat → Option Dat
  | .slice own xs => ys.bind fun ys => appD own esz bytes xs ys
  | _ => none
theorem appV_slice (esz bytes : Nat) (ys : Option (List (List Dat))) (own : Bool) (xs : List (List Dat)) : appV esz bytes ys (.slice own xs) = ys.bind fun ys => appD own esz bytes xs ys := rfl
theorem eo_append (str : Bool) (esz bytes : Nat) (x y : MArg) : evalOp run esc base e σ (.append str esz bytes x y) = (x.ev e).bind fun a => (y.ev e).bind fun b => (appV esz bytes (b.rows? str) a).bind fun d => some (d, x.take e, σ) := by
  rw [evalOp_append]
  congr 1
  funext a
  congr 1
  funext b
  cases a <;> try rfl
  simp only [appV, Option.bind_assoc]
def minV : Dat → Dat → Option Dat
  | .int k m, .int k' n => if k = k' then some (.int k (if n < m then n else m)) else none
  | _, _ => none
def maxV : Dat → Dat → Option Dat
  | .int k m, .int k' n => if k = k' then some (.int k (if m < n then n else m)) else none
  | _, _ => none
theorem minV_int (k : IntKind) (m n : Int) : minV (.int k m) (.int k n) = some (.int k (if n < m then n else m)) := by simp only [minV, if_true]
theorem maxV_int (k : IntKind) (m n : Int) : maxV (.int k m) (.int k n) = some (.int k (if m < n then n else m)) := by simp only [maxV, if_true]
theorem eo_min2 (x y : MArg) : evalOp run esc base e σ (.min2 x y) = (x.ev e).bind fun a => (y.ev e).bind fun b => (minV a b).bind fun d => some (d, e, σ) := by
  simp only [evalOp]
  congr 1
  funext a
  congr 1
  funext b
  cases a <;> cases b <;> (try rfl) <;> (simp only [minV]; split <;> rfl)
theorem eo_max2 (x y : MArg) : evalOp run esc base e σ (.max2 x y) = (x.ev e).bind fun a => (y.ev e).bind fun b => (maxV a b).bind fun d => some (d, e, σ) := by
  simp only [evalOp]
  congr 1
  funext a
  congr 1
  funext b
  cases a <;> cases b <;> (try rfl) <;> (simp only [maxV]; split <;> rfl)
theorem eo_nat (k : Nat) (xs : List MArg) : evalOp run esc base e σ (.nat k xs) = (MArg.evs e xs).bind fun l => (natD k l).bind fun d => some (d, e, σ) := rfl
theorem natD_idx (s : List UInt8) (c : Int) : natD 0 [.str s, .int .u8 c] = if 0 ≤ c ∧ c < 256 then some (.int .i64 (idxB s c 0)) else none := rfl
def s2bV : Dat → Option Dat
  | .str s => if s.length ≤ 35184372088832 then some (.slice false (rowsU s)) else none
  | _ => none
theorem s2bV_str (s : List UInt8) : s2bV (.str s) = if s.length ≤ 35184372088832 then some (.slice false (rowsU s)) else none := rfl
theorem eo_s2b (x : MArg) : evalOp run esc base e σ (.s2b x) = (x.ev e).bind fun a => (s2bV a).bind fun d => some (d, e, σ) := by
  simp only [evalOp]
  congr 1
  funext a
  cases a <;> (try rfl) <;> (simp only [s2bV]; split <;> rfl)
def b2sV : Dat → Option Dat
  | .slice _ xs => (bytesD xs).map .str
  | _ => none
theorem b2sV_slice (o : Bool) (xs : List (List Dat)) : b2sV (.slice o xs) = (bytesD xs).map .str := rfl
theorem eo_b2s (x : MArg) : evalOp run esc base e σ (.b2s x) = (x.ev e).bind fun a => (b2sV a).bind fun d => some (d, e, σ) := by
  simp only [evalOp]
  congr 1
  funext a
  cases a <;> (try rfl)
  simp only [b2sV, Option.map_eq_bind, Option.bind_assoc]
  rfl
theorem eo_mov_t (x : MArg) : evalOp run esc base e σ (.mov true x) = (x.ev e).bind fun d => some (d, x.take e, σ) := rfl
theorem eo_mov_f (x : MArg) : evalOp run esc base e σ (.mov false x) = (x.ev e).bind fun d => some (d.strip, e, σ) := rfl
theorem eo_alloc (zero : List Dat) : evalOp run esc base e σ (.alloc zero) = some (.ptr σ.length 0, e, zero :: σ) := rfl
theorem eo_box (n : Nat) (x : MArg) : evalOp run esc base e σ (.box n x) = (x.ev e).bind fun d => d.cells?.bind fun c => if c.length = n then some (.ptr σ.length 0, x.take e, c :: σ) else none := rfl
theorem eo_build (zero : List Dat) (parts : List (Nat × Nat × MArg)) : evalOp run esc base e σ (.build zero parts) = (fillD e zero parts).bind fun cs => some (.agg cs, e, σ) := rfl
theorem eo_buildSlice (esz : Nat) (parts : List MArg) : evalOp run esc base e σ (.buildSlice esz parts) = (elemsD e esz parts).bind fun xs => some (.slice true xs, e, σ) := rfl
theorem eo_bin (op : BinOp) (x y : MArg) : evalOp run esc base e σ (.bin op x y) = (x.ev e).bind fun a => (y.ev e).bind fun b => (binD op a b).bind fun d => some (d, e, σ) := rfl
theorem eo_mkfn (f : Nat) (caps : List MArg) : evalOp run esc base e σ (.mkfn f caps) = (MArg.evs e caps).bind fun l => some (.fn f (l.map Dat.strip1), e, σ) := rfl
theorem callD_eq (f : Nat) (args : List Dat) : callD run esc f args σ = if Dat.underL 0 args && !esc f then (run f args []).bind fun x => if x.2.isEmpty && x.1.under 0 then some (x.1, σ) else none else run f args σ := rfl
theorem callC_eq (f : Nat) (args : List Dat) : callC run esc f args = if Dat.underL 0 args && !esc f then (run f args []).bind fun x => if x.2.isEmpty && x.1.under 0 then some x.1 else none else none := rfl
end
end Go.Mir
