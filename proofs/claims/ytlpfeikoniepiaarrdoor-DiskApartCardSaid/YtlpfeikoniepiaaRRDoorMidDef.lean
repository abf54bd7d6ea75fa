/- The mirror: a big-step interpreter of Go code over pure values. Definitions alone. -/
import Derived.Calls
set_option linter.all false
namespace Go.Mir

/-- A pure value: what a machine value stands for. A slice is its elements, each a list of cells; 'own': its room behind may be appended to. -/
inductive Dat where
  | undef
  | int (k : IntKind) (n : Int)
  | bool (b : Bool)
  | str (s : List UInt8)
  | agg (cs : List Dat)
  | tup (cs : List Dat)
  | slice (own : Bool) (xs : List (List Dat))
  | nilp
  | ptr (id off : Nat)
  | rptr (cs : List Dat)
  | fn (f : Nat) (caps : List Dat)
  | nilf
  | iface (t : Nat) (d : Dat)
  | nili
  deriving Inhabited

/-- a cell that may be copied as it stands -/
def Dat.safe : Dat → Bool
  | .slice own xs => !own || xs.isEmpty
  | .agg _ | .tup _ | .undef => false
  | _ => true
/-- The cells that a variable of this value has. -/
def Dat.cells? : Dat → Option (List Dat)
  | .agg cs => if cs.all Dat.safe then some cs else none
  | .tup _ | .undef => none
  | d => some [d]

-- All pointers go to variables below n.
mutual
def Dat.under (n : Nat) : Dat → Bool
  | .agg cs => Dat.underL n cs
  | .tup cs => Dat.underL n cs
  | .slice _ xs => Dat.underLL n xs
  | .ptr id _ => decide (id < n)
  | .rptr cs => Dat.underL n cs
  | .fn _ caps => Dat.underL n caps
  | .iface _ d => Dat.under n d
  | _ => true
def Dat.underL (n : Nat) : List Dat → Bool
  | [] => true
  | d :: r => Dat.under n d && Dat.underL n r
def Dat.underLL (n : Nat) : List (List Dat) → Bool
  | [] => true
  | d :: r => Dat.underL n d && Dat.underLL n r
end

def Dat.strip1 : Dat → Dat
  | .slice _ xs => .slice false xs
  | d => d
def Dat.noTup : Dat → Bool
  | .tup _ => false
  | _ => true
/-- as it is handed on -/
def Dat.norm : Dat → Dat
  | .slice _ xs => .slice false xs
  | .agg cs => .agg (cs.map Dat.strip1)
  | .tup cs => .tup (cs.map Dat.strip1)
  | d => d
def Dat.strip : Dat → Dat
  | .slice _ xs => .slice false xs
  | .tup cs => .tup (cs.map Dat.strip1)
  | d => d

mutual
def Dat.beq : Dat → Dat → Bool
  | .undef, .undef => true
  | .int k n, .int k' n' => decide (k = k') && decide (n = n')
  | .bool b, .bool b' => b == b'
  | .str s, .str s' => decide (s = s')
  | .agg cs, .agg cs' => Dat.beqL cs cs'
  | .tup cs, .tup cs' => Dat.beqL cs cs'
  | .slice o xs, .slice o' xs' => o == o' && Dat.beqLL xs xs'
  | .nilp, .nilp => true
  | .ptr i o, .ptr i' o' => decide (i = i') && decide (o = o')
  | .rptr cs, .rptr cs' => Dat.beqL cs cs'
  | .fn f cs, .fn f' cs' => decide (f = f') && Dat.beqL cs cs'
  | .nilf, .nilf => true
  | .iface t d, .iface t' d' => decide (t = t') && Dat.beq d d'
  | .nili, .nili => true
  | _, _ => false
def Dat.beqL : List Dat → List Dat → Bool
  | [], [] => true
  | a :: x, b :: y => Dat.beq a b && Dat.beqL x y
  | _, _ => false
def Dat.beqLL : List (List Dat) → List (List Dat) → Bool
  | [], [] => true
  | a :: x, b :: y => Dat.beqL a b && Dat.beqLL x y
  | _, _ => false
end
mutual
theorem Dat.beq_eq : ∀ {a b : Dat}, Dat.beq a b = true → a = b := by
  intro a b h
  cases a <;> cases b <;> simp only [Dat.beq, Bool.and_eq_true, decide_eq_true_eq, beq_iff_eq, reduceCtorEq, Bool.false_eq_true] at h <;> try rfl
  · rw [h.1, h.2]
  · rw [h]
  · rw [h]
  · rw [Dat.beqL_eq h]
  · rw [Dat.beqL_eq h]
  · rw [h.1, Dat.beqLL_eq h.2]
  · rw [h.1, h.2]
  · rw [Dat.beqL_eq h]
  · rw [h.1, Dat.beqL_eq h.2]
  · rw [h.1, Dat.beq_eq h.2]
theorem Dat.beqL_eq : ∀ {a b : List Dat}, Dat.beqL a b = true → a = b
  | [], [], _ => rfl
  | a :: x, b :: y, h => by
    simp only [Dat.beqL, Bool.and_eq_true] at h
    rw [Dat.beq_eq h.1, Dat.beqL_eq h.2]
  | [], _ :: _, h => by simp [Dat.beqL] at h
  | _ :: _, [], h => by simp [Dat.beqL] at h
theorem Dat.beqLL_eq : ∀ {a b : List (List Dat)}, Dat.beqLL a b = true → a = b
  | [], [], _ => rfl
  | a :: x, b :: y, h => by
    simp only [Dat.beqLL, Bool.and_eq_true] at h
    rw [Dat.beqL_eq h.1, Dat.beqLL_eq h.2]
  | [], _ :: _, h => by simp [Dat.beqLL] at h
  | _ :: _, [], h => by simp [Dat.beqLL] at h
end
mutual
theorem Dat.beq_self : ∀ a : Dat, Dat.beq a a = true := by
  intro a
  cases a <;> simp only [Dat.beq, decide_true, beq_self_eq_true, Bool.and_self, Bool.true_and]
  · exact Dat.beqL_self _
  · exact Dat.beqL_self _
  · exact Dat.beqLL_self _
  · exact Dat.beqL_self _
  · exact Dat.beqL_self _
  · exact Dat.beq_self _
theorem Dat.beqL_self : ∀ a : List Dat, Dat.beqL a a = true
  | [] => rfl
  | a :: x => by simp only [Dat.beqL, Dat.beq_self a, Dat.beqL_self x, Bool.and_self]
theorem Dat.beqLL_self : ∀ a : List (List Dat), Dat.beqLL a a = true
  | [] => rfl
  | a :: x => by simp only [Dat.beqLL, Dat.beqL_self a, Dat.beqLL_self x, Bool.and_self]
end

abbrev Env := List (Nat × Dat)
abbrev St := List (List Dat)

def Env.get : Env → Nat → Option Dat
  | [], _ => none
  | (m, d) :: r, n => bif m == n then some d else Env.get r n
def Env.put (e : Env) (n : Nat) (d : Dat) : Env := (n, d) :: e
theorem Env.get_nil (n : Nat) : Env.get [] n = none := rfl
theorem Env.get_cons (m : Nat) (d : Dat) (r : Env) (n : Nat) : Env.get ((m, d) :: r) n = if m = n then some d else Env.get r n := by
  simp only [Env.get, Bool.cond_eq_ite, beq_iff_eq]
def Env.keep (e : Env) : List Nat → Env
  | [] => []
  | n :: l => match Env.get e n with
    | some d => (n, d) :: Env.keep e l
    | none => Env.keep e l

/-- The variables, the youngest first; a variable's number is how many are older. -/
def St.get : St → Nat → Option (List Dat)
  | [], _ => none
  | c :: r, id => bif id == r.length then some c else St.get r id
def St.set : St → Nat → List Dat → St
  | [], _, _ => []
  | c :: r, id, d => bif id == r.length then d :: r else c :: St.set r id d
theorem St.get_nil (id : Nat) : St.get [] id = none := rfl
theorem St.get_cons (c : List Dat) (r : St) (id : Nat) : St.get (c :: r) id = if id = r.length then some c else St.get r id := by
  simp only [St.get, Bool.cond_eq_ite, beq_iff_eq]
theorem St.set_nil (id : Nat) (d : List Dat) : St.set [] id d = [] := rfl
theorem St.set_cons (c : List Dat) (r : St) (id : Nat) (d : List Dat) : St.set (c :: r) id d = if id = r.length then d :: r else c :: St.set r id d := by
  simp only [St.set, Bool.cond_eq_ite, beq_iff_eq]

inductive MArg where
  | tmp (n : Nat)
  | lit (d : Dat)
  deriving Inhabited

inductive MOp where
  | mov (mv : Bool) (x : MArg)
  | pick (c a b : MArg)
  | alloc (zero : List Dat)
  | box (n : Nat) (x : MArg)
  | build (zero : List Dat) (parts : List (Nat × Nat × MArg))
  | buildSlice (esz : Nat) (parts : List MArg)
  | load (mv agg : Bool) (n : Nat) (x : MArg)
  | store (n : Nat) (a v : MArg)
  | storef (n : Nat) (a v : MArg) (rs : List Nat)
  | nilCheck (x : MArg)
  | bin (op : BinOp) (x y : MArg)
  | eqs (neq : Bool) (ks : List Nat) (x y : MArg)
  | eqb (neq : Bool) (x y : MArg)
  | un (op : UnOp) (x : MArg)
  | conv (k : IntKind) (x : MArg)
  | mkfn (f : Nat) (caps : List MArg)
  | slice (esz : Nat) (x : MArg) (lo hi mx : Option MArg)
  | substr (x : MArg) (lo hi : Option MArg)
  | fieldAddr (off : Nat) (x : MArg)
  | field (agg : Bool) (off n : Nat) (x : MArg)
  | index (esz : Nat) (x i : MArg)
  | indexArr (len esz : Nat) (x i : MArg)
  | at (x i : MArg)
  | extract (i : Nat) (x : MArg)
  | call (f : MArg) (args : List MArg)
  | loadr (agg : Bool) (n : Nat) (x : MArg)
  | extractn (i : Nat) (x : MArg)
  | callc (f : MArg) (args : List MArg)
  | callr (f : MArg) (args : List MArg)
  | len (str : Bool) (x : MArg)
  | append (str : Bool) (esz bytes : Nat) (x y : MArg)
  | min2 (x y : MArg)
  | max2 (x y : MArg)
  | nat (k : Nat) (xs : List MArg)
  | s2b (x : MArg)
  | b2s (x : MArg)
  deriving Inhabited

structure MOper where
  dst : Option Nat
  op : MOp
  guard : Option (Nat × Bool)
  deriving Inhabited

inductive MCode where
  | skip
  | region (id : Nat) (ops : List MOper) (draw : Bool) (keep : List Nat)
  | seq (a b : MCode)
  | cond (c : MArg) (a b : MCode)
  | block (id : Nat) (b : MCode)
  | loop (b : MCode)
  | exit (id : Nat)
  | ret
  deriving Inhabited

inductive MRes where
  | tmp (n : Nat)
  | cell (a : Nat) (agg : Bool) (n : Nat)
  deriving Inhabited

structure MFunc where
  body : MCode
  res : List MRes
  own : Bool := false
  esc : Bool := false
  deriving Inhabited

def MArg.ev (e : Env) : MArg → Option Dat
  | .tmp n => Env.get e n
  | .lit d => some d
def MArg.evs (e : Env) : List MArg → Option (List Dat)
  | [] => some []
  | x :: r => (x.ev e).bind fun d => (MArg.evs e r).bind fun l => some (d :: l)
/-- The value, its own room taken along. -/
def MArg.take (e : Env) : MArg → Env
  | .tmp n => match Env.get e n with
    | some d => Env.put e n d.strip
    | none => e
  | .lit _ => e

abbrev Run := Nat → List Dat → St → Option (Dat × St)

def bits (op : BinOp) (k : IntKind) (x y : Int) : Int :=
  k.wrap (match op with
    | .and => (BitVec.ofInt k.bits x &&& BitVec.ofInt k.bits y)
    | .or => (BitVec.ofInt k.bits x ||| BitVec.ofInt k.bits y)
    | .xor => (BitVec.ofInt k.bits x ^^^ BitVec.ofInt k.bits y)
    | _ => (BitVec.ofInt k.bits x &&& ~~~(BitVec.ofInt k.bits y))).toNat

def intBin (op : BinOp) (k : IntKind) (x y : Int) : Option Dat :=
  match op with
  | .add => some (.int k (k.wrap (x + y)))
  | .sub => some (.int k (k.wrap (x - y)))
  | .mul => some (.int k (k.wrap (x * y)))
  | .quo => if y = 0 then none else some (.int k (k.wrap (x.tdiv y)))
  | .rem => if y = 0 then none else some (.int k (x.tmod y))
  | .eql => some (.bool (decide (x = y)))
  | .neq => some (.bool (!decide (x = y)))
  | .lss => some (.bool (decide (x < y)))
  | .leq => some (.bool (decide (x ≤ y)))
  | .gtr => some (.bool (decide (x > y)))
  | .geq => some (.bool (decide (x ≥ y)))
  | .and | .or | .xor | .andNot => some (.int k (bits op k x y))
  | _ => none

def less : List UInt8 → List UInt8 → Bool
  | _, [] => false
  | [], _ :: _ => true
  | a :: x, b :: y => decide (a < b) || (decide (a = b) && less x y)

def strBin (op : BinOp) (x y : List UInt8) : Option Dat :=
  match op with
  | .add => if x.length + y.length ≤ 9223372036854775807 then some (.str (x ++ y)) else none
  | .eql => some (.bool (decide (x = y)))
  | .neq => some (.bool (!decide (x = y)))
  | .lss => some (.bool (less x y))
  | .leq => some (.bool (less x y || decide (x = y)))
  | .gtr => some (.bool (!(less x y || decide (x = y))))
  | .geq => some (.bool (!less x y))
  | _ => none

def binD (op : BinOp) : Dat → Dat → Option Dat
  | .int k x, .int k' y =>
    match op with
    | .shl => if y < 0 then none else some (.int k (k.wrap (x * 2 ^ (min y.toNat k.bits))))
    | .shr => if y < 0 then none else some (.int k (x.fdiv (2 ^ (min y.toNat k.bits))))
    | _ => if k = k' then intBin op k x y else none
  | .str x, .str y => strBin op x y
  | _, _ => none

/-- '==' of two cells that are no composites: 0 whole numbers, 1 bools, 2 texts. -/
def cellEq (k : Nat) : Dat → Dat → Option Bool
  | .int i x, .int j y => if k = 0 ∧ i = j then some (decide (x = y)) else none
  | .bool x, .bool y => if k = 1 then some (x == y) else none
  | .str x, .str y => if k = 2 then some (decide (x = y)) else none
  | _, _ => none
def cellsEq : List Nat → List Dat → List Dat → Option Bool
  | [], [], [] => some true
  | k :: ks, x :: xs, y :: ys => (cellEq k x y).bind fun b => (cellsEq ks xs ys).bind fun c => some (b && c)
  | _, _, _ => none

/-- parts laid over the zero cells -/
def fillD (e : Env) : List Dat → List (Nat × Nat × MArg) → Option (List Dat)
  | cs, [] => some cs
  | cs, (off, n, x) :: r => (x.ev e).bind fun d =>
    d.strip1.cells?.bind fun l => if l.length = n ∧ off + n ≤ cs.length then fillD e (cs.take off ++ l ++ cs.drop (off + n)) r else none

def elemsD (e : Env) (esz : Nat) : List MArg → Option (List (List Dat))
  | [] => some []
  | x :: r => (x.ev e).bind fun d => d.norm.cells?.bind fun c => if c.length = esz then (elemsD e esz r).bind fun l => some (c :: l) else none

def ofCells (agg : Bool) (cs : List Dat) : Option Dat :=
  if agg then some (.agg (cs.map Dat.strip1)) else match cs with
    | [d] => some d
    | _ => none

/-- a bound of a cut -/
def bound (e : Env) (dflt : Nat) : Option MArg → Option Nat
  | none => some dflt
  | some x => (x.ev e).bind fun
    | .int _ n => if 0 ≤ n then some n.toNat else none
    | _ => none

/-- what is appended, as elements -/
def Dat.rows? : Bool → Dat → Option (List (List Dat))
  | false, .slice _ ys => some ys
  | true, .str s => some (s.map fun c => [.int .u8 c.toNat])
  | _, _ => none

def loadD (agg : Bool) (n : Nat) (σ : St) : Dat → Option Dat
  | .ptr id off => (St.get σ id).bind fun cs => if off + n ≤ cs.length then ofCells agg ((cs.drop off).take n) else none
  | .rptr cs => if n ≤ cs.length then ofCells agg (cs.take n) else none
  | _ => none

/-- the calls: a call that gets no pointer sees no variable -/
def callD (run : Run) (esc : Nat → Bool) (f : Nat) (args : List Dat) (σ : St) : Option (Dat × St) :=
  if Dat.underL 0 args && !esc f then (run f args []).bind fun (d, σ1) => if σ1.isEmpty && d.under 0 then some (d, σ) else none
  else run f args σ

/-- a call that sees no variable -/
def callC (run : Run) (esc : Nat → Bool) (f : Nat) (args : List Dat) : Option Dat :=
  if Dat.underL 0 args && !esc f then (run f args []).bind fun (d, σ1) => if σ1.isEmpty && d.under 0 then some d else none else none

/-- what lies in a slot leads not to this variable -/
def clearOf (e : Env) (id : Nat) (t : Nat) : Bool := match Env.get e t with
  | some (.ptr q _) => q != id
  | _ => true

/-- a call that leaves the variables as they are -/
def callR (run : Run) (esc : Nat → Bool) (f : Nat) (args : List Dat) (σ : St) : Option Dat :=
  if Dat.underL 0 args && !esc f then callC run esc f args else (run f args σ).bind fun (d, σ1) => if Dat.beqLL σ1 σ then some d else none

/-- where a byte stands first, counted from i on; -1: nowhere -/
def idxB : List UInt8 → Int → Nat → Int
  | [], _, _ => -1
  | b :: l, c, i => if (b.toNat : Int) = c then i else idxB l c (i + 1)
/-- functions of the library's that have no body: 0: internal/bytealg.IndexByteString -/
def natD : Nat → List Dat → Option Dat
  | 0, [.str s, .int .u8 c] => if 0 ≤ c ∧ c < 256 then some (.int .i64 (idxB s c 0)) else none
  | _, _ => none
/-- bytes, as a slice's elements; back again -/
def rowsU (s : List UInt8) : List (List Dat) := s.map fun c => [.int .u8 c.toNat]
def bytesD : List (List Dat) → Option (List UInt8)
  | [] => some []
  | [.int .u8 n] :: r => if 0 ≤ n ∧ n < 256 then (bytesD r).map (UInt8.ofNat n.toNat :: ·) else none
  | _ => none

/-- One operation: its value, the slots and the variables behind it. 'base': the variables from there on are this call's. -/
def evalOp (run : Run) (esc : Nat → Bool) (base : Nat) (e : Env) (σ : St) : MOp → Option (Dat × Env × St)
  | .mov true x => (x.ev e).bind fun d => some (d, x.take e, σ)
  | .mov false x => (x.ev e).bind fun d => some (d.strip, e, σ)
  | .pick c a b => (c.ev e).bind fun
    | .bool t => (if t then a.ev e else b.ev e).bind fun d => some (d.strip, e, σ)
    | _ => none
  | .alloc zero => some (.ptr σ.length 0, e, zero :: σ)
  | .box n x => (x.ev e).bind fun d => d.cells?.bind fun c => if c.length = n then some (.ptr σ.length 0, x.take e, c :: σ) else none
  | .build zero parts => (fillD e zero parts).bind fun cs => some (.agg cs, e, σ)
  | .buildSlice esz parts => (elemsD e esz parts).bind fun xs => some (.slice true xs, e, σ)
  | .load mv agg n x => (x.ev e).bind fun p => (loadD agg n σ p).bind fun d =>
      if mv then match p with
        | .ptr id off => (St.get σ id).bind fun cs => some (d, e, St.set σ id (cs.take off ++ (d.strip1 :: cs.drop (off + 1))))
        | _ => some (d.strip, e, σ)
      else some (d.strip, e, σ)
  | .store n a v => (a.ev e).bind fun
    | .ptr id off => (v.ev e).bind fun d => d.cells?.bind fun c => (St.get σ id).bind fun cs =>
        if c.length = n ∧ off + n ≤ cs.length ∧ (base ≤ id ∨ Dat.underL (id + 1) c) then
          some (.undef, v.take e, St.set σ id (cs.take off ++ c ++ cs.drop (off + n)))
        else none
    | _ => none
  | .storef n a v rs => (a.ev e).bind fun
    | .ptr id off => (v.ev e).bind fun d => d.cells?.bind fun c => (St.get σ id).bind fun cs =>
        if c.length = n ∧ off + n ≤ cs.length ∧ (base ≤ id ∨ Dat.underL (id + 1) c) then
          (if rs.all (clearOf e id) then some (.undef, v.take e, St.set σ id (cs.take off ++ c ++ cs.drop (off + n))) else none)
        else none
    | _ => none
  | .nilCheck x => (x.ev e).bind fun d => match d with
    | .ptr .. | .rptr .. | .fn .. => some (d, e, σ)
    | _ => none
  | .bin op x y => (x.ev e).bind fun a => (y.ev e).bind fun b => (binD op a b).bind fun d => some (d, e, σ)
  | .eqs neq ks x y => (x.ev e).bind fun a => (y.ev e).bind fun b => match a, b with
    | .agg xs, .agg ys => (cellsEq ks xs ys).bind fun t => some (.bool (if neq then !t else t), e, σ)
    | _, _ => none
  | .eqb neq x y => (x.ev e).bind fun a => (y.ev e).bind fun b => match a, b with
    | .bool s, .bool t => some (.bool (if neq then !(s == t) else s == t), e, σ)
    | _, _ => none
  | .un op x => (x.ev e).bind fun d => match op, d with
    | .neg, .int k n => some (.int k (k.wrap (0 - n)), e, σ)
    | .not, .bool b => some (.bool (!b), e, σ)
    | _, _ => none
  | .conv k x => (x.ev e).bind fun
    | .int _ n => some (.int k (k.wrap n), e, σ)
    | _ => none
  | .mkfn f caps => (MArg.evs e caps).bind fun l => some (.fn f (l.map Dat.strip1), e, σ)
  | .slice esz x lo hi mx => (x.ev e).bind fun
    | .slice _ xs => (bound e 0 lo).bind fun l => (bound e xs.length hi).bind fun h => (bound e h mx).bind fun m =>
        if l ≤ h ∧ h ≤ xs.length ∧ m = h ∧ (l = 0 ∨ xs.all fun x => x.length == esz) then some (.slice mx.isSome ((xs.drop l).take (h - l)), e, σ) else none
    | _ => none
  | .substr x lo hi => (x.ev e).bind fun
    | .str s => (bound e 0 lo).bind fun l => (bound e s.length hi).bind fun h =>
        if l ≤ h ∧ h ≤ s.length then some (.str ((s.drop l).take (h - l)), e, σ) else none
    | _ => none
  | .fieldAddr off x => (x.ev e).bind fun
    | .ptr id o => some (.ptr id (o + off), e, σ)
    | .rptr cs => if off < cs.length then some (.rptr (cs.drop off), e, σ) else none
    | _ => none
  | .field agg off n x => (x.ev e).bind fun
    | .agg cs => if off + n ≤ cs.length then (ofCells agg ((cs.drop off).take n)).bind fun d => some (d.strip, e, σ) else none
    | _ => none
  | .index esz x i => (x.ev e).bind fun a => (i.ev e).bind fun b => match a, b with
    | .slice _ xs, .int _ n => if 0 ≤ n then (xs[n.toNat]?).bind fun cs => if cs.length = esz ∧ 0 < esz then some (.rptr cs, e, σ) else none else none
    | _, _ => none
  | .indexArr len esz x i => (x.ev e).bind fun a => (i.ev e).bind fun b => match a, b with
    | .ptr id off, .int _ n => if 0 ≤ n ∧ n < len then some (.ptr id (off + n.toNat * esz), e, σ) else none
    | .rptr cs, .int _ n => if 0 ≤ n ∧ n < len ∧ n.toNat * esz < cs.length then some (.rptr (cs.drop (n.toNat * esz)), e, σ) else none
    | _, _ => none
  | .at x i => (x.ev e).bind fun a => (i.ev e).bind fun b => match a, b with
    | .str s, .int _ n => if 0 ≤ n then (s[n.toNat]?).bind fun c => some (.int .u8 c.toNat, e, σ) else none
    | _, _ => none
  | .extract i x => (x.ev e).bind fun
    | .tup cs => (cs[i]?).bind fun d => match x with
        | .tmp s => some (d, Env.put e s (.tup (cs.set i d.strip1)), σ)
        | .lit _ => none
    | _ => none
  | .call f args => (f.ev e).bind fun
    | .fn g caps => (MArg.evs e args).bind fun l => (callD run esc g ((l ++ caps).map Dat.norm) σ).bind fun (d, σ1) => some (d, e, σ1)
    | _ => none
  | .loadr agg n x => (x.ev e).bind fun p => match p with
    | .rptr cs => if n ≤ cs.length then (ofCells agg (cs.take n)).bind fun d => some (d.strip, e, σ) else none
    | _ => none
  | .extractn i x => (x.ev e).bind fun
    | .tup cs => (cs[i]?).bind fun d => some (d.strip1, e, σ)
    | _ => none
  | .callc f args => (f.ev e).bind fun
    | .fn g caps => (MArg.evs e args).bind fun l => (callC run esc g ((l ++ caps).map Dat.norm)).bind fun d => some (d, e, σ)
    | _ => none
  | .callr f args => (f.ev e).bind fun
    | .fn g caps => (MArg.evs e args).bind fun l => (callR run esc g ((l ++ caps).map Dat.norm) σ).bind fun d => some (d, e, σ)
    | _ => none
  | .len str x => (x.ev e).bind fun d => match str, d with
    | false, .slice _ xs => some (.int .i64 xs.length, e, σ)
    | true, .str s => some (.int .i64 s.length, e, σ)
    | _, _ => none
  | .append str esz bytes x y => (x.ev e).bind fun a => (y.ev e).bind fun b => match a with
    | .slice own xs => (b.rows? str).bind fun ys =>
      if ys.isEmpty then some (.slice own xs, x.take e, σ)
      else if own ∧ (xs.length + ys.length) * bytes ≤ 35184372088832 ∧ xs.all (·.length == esz) ∧ ys.all (·.length == esz) then
        some (.slice true (xs ++ ys), x.take e, σ)
      else none
    | _ => none
  | .min2 x y => (x.ev e).bind fun a => (y.ev e).bind fun b => match a, b with
    | .int k m, .int k' n => if k = k' then some (.int k (if n < m then n else m), e, σ) else none
    | _, _ => none
  | .max2 x y => (x.ev e).bind fun a => (y.ev e).bind fun b => match a, b with
    | .int k m, .int k' n => if k = k' then some (.int k (if m < n then n else m), e, σ) else none
    | _, _ => none
  | .nat k xs => (MArg.evs e xs).bind fun l => (natD k l).bind fun d => some (d, e, σ)
  | .s2b x => (x.ev e).bind fun
    | .str s => if s.length ≤ 35184372088832 then some (.slice false (rowsU s), e, σ) else none
    | _ => none
  | .b2s x => (x.ev e).bind fun
    | .slice _ xs => (bytesD xs).bind fun s => some (.str s, e, σ)
    | _ => none

def putD (e : Env) (dst : Option Nat) (d : Dat) : Env :=
  match dst with
  | some s => Env.put e s d
  | none => e

def wantedD (e : Env) : Option (Nat × Bool) → Option Bool
  | none => some true
  | some (g, want) => (Env.get e g).bind fun
    | .bool b => some (b == want)
    | .undef => some false
    | _ => none

def stepOp (run : Run) (esc : Nat → Bool) (base : Nat) (o : MOper) (e : Env) (σ : St) : Option (Env × St) :=
  (wantedD e o.guard).bind fun w =>
    if w then (evalOp run esc base e σ o.op).bind fun (d, e1, σ1) => some (putD e1 o.dst d, σ1)
    else some (putD e o.dst .undef, σ)

def stepOps (run : Run) (esc : Nat → Bool) (base : Nat) : List MOper → Env → St → Option (Env × St)
  | [], e, σ => some (e, σ)
  | o :: r, e, σ => (stepOp run esc base o e σ).bind fun (e1, σ1) => stepOps run esc base r e1 σ1

theorem stepOps_app (run : Run) (esc : Nat → Bool) (base : Nat) : ∀ (a b : List MOper) (e : Env) (σ : St), stepOps run esc base (a ++ b) e σ = (stepOps run esc base a e σ).bind fun x => stepOps run esc base b x.1 x.2
  | [], b, e, σ => rfl
  | o :: a, b, e, σ => by
    simp only [List.cons_append, stepOps]
    cases stepOp run esc base o e σ with
    | none => rfl
    | some x => exact stepOps_app run esc base a b x.1 x.2

/-- Variables of this call that nothing leads to any more fall away, the youngest first. -/
def gc (base : Nat) (live : List Dat) : St → St
  | [] => []
  | c :: r => if base ≤ r.length ∧ Dat.underL r.length live ∧ Dat.underLL r.length (r.take (r.length - base)) then gc base live r else c :: r

inductive Ex where
  | normal
  | exit (id : Nat)
  | ret
  deriving Inhabited, DecidableEq

abbrev Out := Option (Ex × Env × St)

def loopN (body : Env → St → Out) : Nat → Env → St → Out
  | 0, _, _ => none
  | k + 1, e, σ => (body e σ).bind fun (x, e1, σ1) => match x with
    | .normal => loopN body k e1 σ1
    | x => some (x, e1, σ1)

/-- 'loopc': what a loop is, out of its body (so many rounds, or as many as it takes). -/
def exec (run : Run) (esc : Nat → Bool) (loopc : (Env → St → Out) → Env → St → Out) (base : Nat) : MCode → Env → St → Out
  | .skip, e, σ => some (.normal, e, σ)
  | .region _ ops _ keep, e, σ => (stepOps run esc base ops e σ).bind fun (e1, σ1) => some (.normal, Env.keep e1 keep, gc base ((Env.keep e1 keep).map (·.2)) σ1)
  | .seq a b, e, σ => (exec run esc loopc base a e σ).bind fun (x, e1, σ1) => match x with
    | .normal => exec run esc loopc base b e1 σ1
    | x => some (x, e1, σ1)
  | .cond c a b, e, σ => (c.ev e).bind fun
    | .bool t => if t then exec run esc loopc base a e σ else exec run esc loopc base b e σ
    | _ => none
  | .block id b, e, σ => (exec run esc loopc base b e σ).bind fun (x, e1, σ1) => match x with
    | .exit i => if i = id then some (.normal, e1, σ1) else some (.exit i, e1, σ1)
    | x => some (x, e1, σ1)
  | .loop b, e, σ => loopc (exec run esc loopc base b) e σ
  | .exit i, e, σ => some (.exit i, e, σ)
  | .ret, e, σ => some (.ret, e, σ)

def Zk (keep : List Nat) (base : Nat) (x : Env × St) : Out := some (.normal, Env.keep x.1 keep, gc base ((Env.keep x.1 keep).map (·.2)) x.2)
section
variable {run : Run} {esc : Nat → Bool} {l : (Env → St → Out) → Env → St → Out} {base : Nat} {e : Env} {σ : St}
theorem zk_eq (k : List Nat) : Zk k base (e, σ) = some (.normal, Env.keep e k, gc base ((Env.keep e k).map (·.2)) σ) := rfl
theorem regN {i : Nat} {q : List MOper} {d : Bool} {k : List Nat} : exec run esc l base (.region i q d k) e σ = (stepOps run esc base q e σ).bind (Zk k base) := rfl
theorem regA (a b : List MOper) : stepOps run esc base (a ++ b) e σ = (stepOps run esc base a e σ).bind fun x => stepOps run esc base b x.1 x.2 := stepOps_app ..
theorem reg2 {i : Nat} {a b : List MOper} {d : Bool} {k : List Nat} : exec run esc l base (.region i (a ++ b) d k) e σ = (stepOps run esc base a e σ).bind fun x => (stepOps run esc base b x.1 x.2).bind (Zk k base) := by
  rw [regN, regA, Option.bind_assoc]
end

def resD (e : Env) (σ : St) : List MRes → Option (List Dat)
  | [] => some []
  | .tmp n :: r => (Env.get e n).bind fun d => (resD (Env.put e n d.strip) σ r).bind fun l => some (d :: l)
  | .cell a agg n :: r => (Env.get e a).bind fun p => (loadD agg n σ p).bind fun d => (resD e σ r).bind fun l => some (d.strip1 :: l)
def packD : List Dat → Dat
  | [d] => d
  | l => .tup l

def bindArgs (i : Nat) : List Dat → Env
  | [] => []
  | d :: r => (i, d) :: bindArgs (i + 1) r

abbrev Tab := Nat → Option MFunc
def Tab.esc (tab : Tab) (f : Nat) : Bool := match tab f with
  | some fd => fd.esc
  | none => true

def leave (fd : MFunc) (base : Nat) (o : Ex × Env × St) : Option (Dat × St) :=
  match o with
  | (.exit _, _, _) => none
  | (_, e, σ) => (resD e σ fd.res).bind fun l => if l.all Dat.noTup then
      (let d := if fd.own then packD l else (packD l).strip
       some (d, gc base [d] σ)) else none

def runF (tab : Tab) : Nat → Run
  | 0, _, _, _ => none
  | k + 1, f, args, σ => (tab f).bind fun fd => (exec (runF tab k) tab.esc (fun body => loopN body k) σ.length fd.body (bindArgs 0 args) σ).bind fun o => leave fd σ.length o

end Go.Mir
