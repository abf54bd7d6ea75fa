/- Words for pure proofs: loops whose rounds are numbered; encodings of the program's data. -/
import Derived.Test.YtlpfeikoniepiaaRRMirLim
import Derived.Test.YtlpfeikoniepiaaRRMirOpen
set_option linter.all false
namespace Go.Mir
theorem bind_head {α β : Type} {x y : Option α} {f : α → Option β} (h : x = y) : x.bind f = y.bind f := by rw [h]
theorem wrap64 {n : Int} (h1 : -9223372036854775808 ≤ n) (h2 : n ≤ 9223372036854775807) : IntKind.wrap .i64 n = n := by
  simp [IntKind.wrap, IntKind.signed, IntKind.bits]
  omega

/-- A loop whose rounds are numbered: what it comes to, if each round either goes on or ends. -/
theorem loop_rounds {b : Env → St → Out} {E : Nat → Env} {σ : St} (n : Nat) (Q : Nat → Ex × Env × St → Prop) (hend : ∃ o, b (E n) σ = some o ∧ o.1 ≠ .normal ∧ Q n o)
    (hround : ∀ i, i < n → (b (E i) σ = some (.normal, E (i + 1), σ) ∧ ∀ o, Q (i + 1) o → Q i o) ∨ ∃ o, b (E i) σ = some o ∧ o.1 ≠ .normal ∧ Q i o) : ∃ o, loopW b (E 0) σ = some o ∧ o.1 ≠ .normal ∧ Q 0 o := by
  have stop : ∀ i, (∃ o, b (E i) σ = some o ∧ o.1 ≠ .normal ∧ Q i o) → ∃ o, loopW b (E i) σ = some o ∧ o.1 ≠ .normal ∧ Q i o := by
    rintro i ⟨⟨x, e1, σ1⟩, h1, h2, h3⟩
    refine ⟨_, ?_, h2, h3⟩
    rw [loopW_eq, h1]
    cases x <;> first | rfl | exact absurd rfl h2
  have key : ∀ k i, n - i = k → i ≤ n → ∃ o, loopW b (E i) σ = some o ∧ o.1 ≠ .normal ∧ Q i o := by
    intro k
    induction k with
    | zero => intro i hi hn; rw [show i = n by omega]; exact stop n hend
    | succ k ih =>
      intro i hi hn
      rcases hround i (by omega) with ⟨h1, h2⟩ | h
      · obtain ⟨o, h3, h4, h5⟩ := ih (i + 1) (by omega) (by omega)
        refine ⟨o, ?_, h4, h2 o h5⟩
        rw [loopW_eq, h1]
        exact h3
      · exact stop i h
  exact key _ 0 rfl (Nat.zero_le _)

/-- The same, with what holds ahead of each round. -/
theorem loop_inv {b : Env → St → Out} {E : Nat → Env} {σ : St} (n : Nat) (I : Nat → Prop) (Q : Nat → Ex × Env × St → Prop) (h0 : I 0) (hend : I n → ∃ o, b (E n) σ = some o ∧ o.1 ≠ .normal ∧ Q n o)
    (hround : ∀ i, i < n → I i → (b (E i) σ = some (.normal, E (i + 1), σ) ∧ I (i + 1) ∧ ∀ o, Q (i + 1) o → Q i o) ∨ ∃ o, b (E i) σ = some o ∧ o.1 ≠ .normal ∧ Q i o) : ∃ o, loopW b (E 0) σ = some o ∧ o.1 ≠ .normal ∧ Q 0 o := by
  have stop : ∀ i, (∃ o, b (E i) σ = some o ∧ o.1 ≠ .normal ∧ Q i o) → ∃ o, loopW b (E i) σ = some o ∧ o.1 ≠ .normal ∧ Q i o := by
    rintro i ⟨⟨x, e1, σ1⟩, h1, h2, h3⟩
    refine ⟨_, ?_, h2, h3⟩
    rw [loopW_eq, h1]
    cases x <;> first | rfl | exact absurd rfl h2
  have key : ∀ k i, n - i = k → i ≤ n → I i → ∃ o, loopW b (E i) σ = some o ∧ o.1 ≠ .normal ∧ Q i o := by
    intro k
    induction k with
    | zero => intro i hi hn hI; rw [show i = n by omega] at hI ⊢; exact stop n (hend hI)
    | succ k ih =>
      intro i hi hn hI
      rcases hround i (by omega) hI with ⟨h1, h2, h3⟩ | h
      · obtain ⟨o, h4, h5, h6⟩ := ih (i + 1) (by omega) (by omega) h2
        refine ⟨o, ?_, h5, h3 o h6⟩
        rw [loopW_eq, h1]
        exact h4
      · exact stop i h
  exact key _ 0 rfl (Nat.zero_le _) h0

/-- An append onto one's own slice, empty or not. -/
theorem append_own {run : Run} {esc : Nat → Bool} {base : Nat} {e : Env} {σ : St} {str : Bool} {esz bytes : Nat} {x y : MArg} {xs ys : List (List Dat)} {b : Dat} (hx : x.ev e = some (.slice true xs)) (hy : y.ev e = some b) (hr : b.rows? str = some ys)
    (hb : (xs.length + ys.length) * bytes ≤ 35184372088832) (h1 : xs.all (·.length == esz) = true) (h2 : ys.all (·.length == esz) = true) : evalOp run esc base e σ (.append str esz bytes x y) = some (.slice true (xs ++ ys), x.take e, σ) := by
  simp only [evalOp, hx, hy, hr, Option.bind_some]
  split
  · rename_i h
    simp only [List.isEmpty_iff] at h
    subst h
    rw [List.append_nil]
  · rw [if_pos ⟨trivial, hb, h1, h2⟩]

structure Seen where
  seq : Int
  count : Int
  base : Int
structure Prod where
  pid : Int
  epoch : Int
  next : Int
  seen : List Seen
structure Rec where
  key : List UInt8
  value : List UInt8
structure Batch where
  pid : Int
  epoch : Int
  seq : Int
  txn : Bool
  recs : List Rec
def encS (s : Seen) : List Dat := [.int .i64 s.seq, .int .i64 s.count, .int .i64 s.base]
def encP (p : Prod) : List Dat := [.int .i64 p.pid, .int .i64 p.epoch, .int .i64 p.next, .slice false (p.seen.map encS)]
def encPs (l : List Prod) : Dat := .slice false (l.map encP)
def encR (r : Rec) : List Dat := [.str r.key, .str r.value]
def encB (b : Batch) : List Dat := [.int .i64 b.pid, .int .i64 b.epoch, .int .i64 b.seq, .bool b.txn, .slice false (b.recs.map encR)]
theorem under_encS (n : Nat) (l : List Seen) : Dat.underLL n (l.map encS) = true := underLL_mk fun d hd => by
  obtain ⟨x, _, rfl⟩ := List.mem_map.1 hd
  rfl
theorem under_encR (n : Nat) (l : List Rec) : Dat.underLL n (l.map encR) = true := underLL_mk fun d hd => by
  obtain ⟨x, _, rfl⟩ := List.mem_map.1 hd
  rfl
theorem under_encP (n : Nat) (l : List Prod) : Dat.underLL n (l.map encP) = true := underLL_mk fun d hd => by
  obtain ⟨x, _, rfl⟩ := List.mem_map.1 hd
  simp [encP, Dat.underL, Dat.under, under_encS]
theorem gc_self (live : List Dat) (σ : St) : gc σ.length live σ = σ := by
  cases σ with
  | nil => rfl
  | cons c r =>
    simp only [gc]
    rw [if_neg (by simp; omega)]
end Go.Mir
