/- From the program's code to the mirror's code: a checked translation (nothing here is trusted: the soundness theorem speaks of what it gives). -/
import Derived.Test.YtlpfeikoniepiaaRRDoorMidDef
set_option linter.all false
namespace Go.Mir

def cellDat : Value → Option Dat
  | .int k n => some (.int k n)
  | .bool b => some (.bool b)
  | .string s => some (.str s.data.toList)
  | .pointer none => some .nilp
  | .slice none 0 0 => some (.slice true [])
  | .nilFunc => some .nilf
  | .nilIface => some .nili
  | _ => none

def argOf : Operand → Option MArg
  | .tmp n => some (.tmp n)
  | .const v => (cellDat v).map .lit
  | .func f => some (.lit (.fn f []))
  | .global _ => none

def sizeP (P : Program) (t : TypeId) : Option Nat := (P.info? t).map (·.size)
def zeroP (P : Program) (t : TypeId) : Option (List Dat) :=
  ((P.info? t).bind (·.zero)).bind fun v => v.cells.toList.mapM cellDat
def aggP (P : Program) (t : TypeId) : Option Bool := (P.underlying t).map fun
  | .struct _ | .array _ _ => true
  | _ => false
def fieldP (P : Program) (t : TypeId) (f : Nat) : Option (Nat × Nat × Bool) :=
  match P.underlying t with
  | some (.struct fs) => (fs[f]?).bind fun x => (sizeP P x.type).bind fun n => (aggP P x.type).map fun g => (x.offset, n, g)
  | _ => none

def zeroSize (P : Program) (t : TypeId) : Option Nat := ((P.info? t).bind (·.zero)).map (·.cells.size)
def fieldsOk (P : Program) (t : TypeId) : Bool := match P.underlying t with
  | some (.struct fs) => (fs.toList.mapM fun f => (P.info? f.type).map fun i => (f.offset, i.size)).isSome
  | some (.array _ e) => (P.info? e).isSome
  | _ => false
/-- one cell, or a composite's -/
def oneOk (agg : Bool) (n : Nat) : Bool := agg || n == 1

def argsOf (l : Array Operand) : Option (List MArg) := l.toList.mapM argOf
def optOf : Option Operand → Option (Option MArg)
  | none => some none
  | some x => (argOf x).map some

/-- is the temporary used, later in the region, where its room is wanted? -/
def wantsRoom (ops : List Oper) (d : Nat) : Bool := ops.any fun o => match o.op with
  | .call { callee := .builtin .append, args, .. } => (args.toList.take 1).any fun x => match x with
    | Operand.tmp n => n == d
    | _ => false
  | .assign (.tmp n) => n == d
  | .store _ _ (.tmp n) => n == d
  | _ => false

def roomy (P : Program) (t : TypeId) : Bool := match P.underlying t with
  | some (.slice _) | some (.tuple _) => true
  | _ => false

/-- a type whose '==' goes cell by cell: the cells' kinds -/
def eqFs (lay : TypeId → Option (List Nat)) : List Field → Nat → Option (List Nat)
  | [], _ => some []
  | f :: r, off => if f.name ≠ "_" ∧ f.offset = off then (lay f.type).bind fun n => (eqFs lay r (off + n.length)).map (n ++ ·) else none
def eqLay (P : Program) : Nat → TypeId → Option (List Nat)
  | 0, _ => none
  | d + 1, t => match P.underlying t with
    | some (.int _) => some [0]
    | some .bool => some [1]
    | some .string => some [2]
    | some (.struct fs) => if P.stoodInHeld t || sizeP P t != (eqFs (eqLay P d) fs.toList 0).map List.length then none else eqFs (eqLay P d) fs.toList 0
    | _ => none

def placeP (P : Program) (t : TypeId) (i : Nat) : Option (Nat × Nat) := match P.underlying t with
  | some (.struct fs) => (fs[i]?).bind fun f => (sizeP P f.type).map fun n => (f.offset, n)
  | some (.array _ el) => (sizeP P el).map fun n => (i * n, n)
  | _ => none
def partOf (P : Program) (t : TypeId) (p : Nat × Operand) : Option (Nat × Nat × MArg) := (argOf p.2).bind fun a => (placeP P t p.1).map fun q => (q.1, q.2, a)

def isEq : BinOp → Option Bool
  | .eql => some false
  | .neq => some true
  | _ => none
def isU8 (P : Program) (t : TypeId) : Bool := match P.underlying t with
  | some (.int .u8) => true
  | _ => false
/-- a function of the library's that has no body -/
def natOf (P : Program) : Operand → Option Nat
  | .func f => (P.funcs[f]?).bind fun fn => if fn.name = "internal/bytealg.IndexByteString" ∧ fn.origin = "" ∧ fn.body.isNone = true then some 0 else none
  | _ => none
def roomOf (P : Program) (later : List Oper) (o : Oper) : Bool := match o.dst with
  | some d => roomy P o.type && wantsRoom later d
  | none => false
def opOf (P : Program) (later : List Oper) (o : Oper) : Option MOp :=
  match o.op with
  | .move x => o.dst.bind fun _ => (argOf x).map (.mov (roomOf P later o))
  | .assign x => o.dst.bind fun _ => (argOf x).map (.mov (roomy P o.type))
  | .pick c a b => do pure (.pick (← argOf c) (← argOf a) (← argOf b))
  | .alloc t => (zeroP P t).map .alloc
  | .box t x => do pure (.box (← sizeP P t) (← argOf x))
  | .build t parts => do
    let zero ← zeroP P t
    let ps ← parts.toList.mapM (partOf P t)
    if fieldsOk P t then pure (.build zero ps) else none
  | .buildSlice t len parts => do
    let .slice el ← P.underlying t | none
    let n ← sizeP P el
    if parts.toList.map (·.1) == List.range len && len * n ≤ 2 ^ 24 && 0 < n && ((P.info? el).bind (·.zero)).isSome then
      pure (.buildSlice n (← parts.toList.mapM fun (_, x) => argOf x))
    else none
  | .load t x => do
    let g ← aggP P t
    let n ← sizeP P t
    let _ ← o.dst
    if oneOk g n && (!roomOf P later o || !g) then pure (.load (roomOf P later o) g n (← argOf x)) else none
  | .store t a v => do pure (.store (← sizeP P t) (← argOf a) (← argOf v))
  | .nilCheck x => (argOf x).map .nilCheck
  | .binOp op t x y _ => do
    match P.underlying t with
    | some (.struct _) => if P.eqGuardType P.depth t then none else pure (.eqs (← isEq op) (← eqLay P 20 t) (← argOf x) (← argOf y))
    | some (.int _) | some .string => pure (.bin op (← argOf x) (← argOf y))
    | some .bool => pure (.eqb (← isEq op) (← argOf x) (← argOf y))
    | _ => none
  | .unOp op _ x => (argOf x).map (.un op)
  | .convert s d x => do
    match P.underlying s, P.underlying d with
    | some (.int _), some (.int k) => pure (.conv k (← argOf x))
    | some .string, some (.slice el) => if isU8 P el then pure (.s2b (← argOf x)) else none
    | some (.slice el), some .string => if isU8 P el then pure (.b2s (← argOf x)) else none
    | _, _ => none
  | .makeFunc (.func f) first caps => do
    if first.isEmpty then pure (.mkfn f (← argsOf caps)) else none
  | .slice t x lo hi mx => do
    match P.underlying t with
    | some .string => if mx.isNone then pure (.substr (← argOf x) (← optOf lo) (← optOf hi)) else none
    | some (.slice el) => if mx.isSome && hi.isNone then none else pure (.slice (← sizeP P el) (← argOf x) (← optOf lo) (← optOf hi) (← optOf mx))
    | _ => none
  | .fieldAddr t x f => do
    let (off, n, _) ← fieldP P t f
    if n = 0 then none else pure (.fieldAddr off (← argOf x))
  | .field t x f => do
    let (off, n, g) ← fieldP P t f
    if oneOk g n then pure (.field g off n (← argOf x)) else none
  | .indexAddr t x i => do
    match P.underlying t with
    | some (.slice el) => pure (.index (← sizeP P el) (← argOf x) (← argOf i))
    | some (.array len el) => pure (.indexArr len (← sizeP P el) (← argOf x) (← argOf i))
    | _ => none
  | .index t x i => do
    match P.underlying t with
    | some .string => pure (.at (← argOf x) (← argOf i))
    | _ => none
  | .extract x i => o.dst.bind fun _ => (argOf x).map (.extract i)
  | .call { callee := .value f, args, .. } => match natOf P f with
    | some k => (argsOf args).map (.nat k)
    | none => do pure (.call (← argOf f) (← argsOf args))
  | .call { callee := .builtin .len, args, argTypes } => do
    let [x] := args.toList | none
    let [t] := argTypes.toList | none
    match P.underlying t with
    | some (.slice _) => pure (.len false (← argOf x))
    | some .string => pure (.len true (← argOf x))
    | _ => none
  | .call { callee := .builtin .append, args, argTypes } => do
    let [x, y] := args.toList | none
    let [t, u] := argTypes.toList | none
    let _ ← o.dst
    let .slice el ← P.underlying t | none
    let n ← sizeP P el
    let bs ← (P.info? el).map (·.bytes)
    if 0 < n && 0 < bs && zeroSize P el == some n then
      match P.underlying u with
      | some (.slice _) => pure (.append false n bs (← argOf x) (← argOf y))
      | some .string => if n = 1 then pure (.append true n bs (← argOf x) (← argOf y)) else none
      | _ => none
    else none
  | .call { callee := .builtin .min, args, .. } => do
    let [x, y] := args.toList | none
    pure (.min2 (← argOf x) (← argOf y))
  | .call { callee := .builtin .max, args, .. } => do
    let [x, y] := args.toList | none
    pure (.max2 (← argOf x) (← argOf y))
  | _ => none

def guardOf (all : Array Oper) (o : Oper) : Option (Option (Nat × Bool)) := match o.guard with
  | none => some none
  | some (j, want) => ((all[j]?).bind (·.dst)).map fun g => some (g, want)
def dstOk (ntmps : Nat) (o : Oper) : Bool := match o.dst with
  | some d => decide (d < ntmps)
  | none => true
def opsOf (P : Program) (ntmps : Nat) (all : Array Oper) : List Oper → Option (List MOper)
  | [] => some []
  | o :: r => (opOf P r o).bind fun op => (guardOf all o).bind fun guard => if dstOk ntmps o then (opsOf P ntmps all r).bind fun l => some ({ dst := o.dst, op, guard } :: l) else none

/-! ### what lives -/
def argR : MArg → List Nat
  | .tmp n => [n]
  | .lit _ => []
def optR : Option MArg → List Nat
  | some x => argR x
  | none => []
def opR : MOp → List Nat
  | .mov _ x | .box _ x | .nilCheck x | .un _ x | .conv _ x | .fieldAddr _ x | .field _ _ _ x | .extract _ x | .extractn _ x | .len _ x | .load _ _ _ x | .loadr _ _ x => argR x
  | .alloc _ => []
  | .pick c a b => argR c ++ argR a ++ argR b
  | .build _ ps => ps.flatMap fun (_, _, x) => argR x
  | .buildSlice _ ps => ps.flatMap argR
  | .store _ a v => argR a ++ argR v
  | .storef _ a v rs => argR a ++ argR v ++ rs
  | .bin _ x y | .eqs _ _ x y | .eqb _ x y | .index _ x y | .indexArr _ _ x y | .at x y | .append _ _ _ x y | .min2 x y | .max2 x y => argR x ++ argR y
  | .mkfn _ l => l.flatMap argR
  | .slice _ x lo hi mx => argR x ++ optR lo ++ optR hi ++ optR mx
  | .substr x lo hi => argR x ++ optR lo ++ optR hi
  | .call f l | .callc f l | .callr f l => argR f ++ l.flatMap argR
  | .nat _ l => l.flatMap argR
  | .s2b x | .b2s x => argR x
def ins (n : Nat) : List Nat → List Nat
  | [] => [n]
  | m :: l => if n ≤ m then n :: m :: l else m :: ins n l
def sorted : List Nat → List Nat
  | [] => []
  | n :: l => ins n (sorted l)
def union (a b : List Nat) : List Nat := a ++ b.filter (!a.contains ·)
/-! ### regions whose order is open -/
/-- whose room is taken -/
def takesOf : MOp → List Nat
  | .mov true x | .box _ x => argR x
  | .store _ _ v => argR v
  | .append _ _ _ x _ => argR x
  | _ => []
def readsOf (a : MOper) : List Nat := opR a.op ++ (match a.guard with | some (g, _) => [g] | none => [])
def isAlloc : MOp → Bool
  | .alloc _ => true
  | _ => false
def allocOk : MOp → Bool
  | .alloc z => z.all Dat.safe && Dat.underL 0 z
  | _ => true
def isW : MOp → Bool
  | .store .. | .box .. => true
  | _ => false
def isC : MOp → Bool
  | .callr .. => true
  | _ => false
def isR : MOp → Bool
  | .load .. => true
  | _ => false
def drawable : MOp → Bool
  | .call .. | .extract .. | .load true _ _ _ | .load _ _ _ (.lit _) | .storef .. | .nat .. | .s2b .. | .b2s .. => false
  | _ => true
def opOfD (P : Program) (quiet cmp : Bool) (o : Oper) : Option MOp := match o.op with
  | .call { callee := .value f, args, .. } => (argOf f).bind fun f => (argsOf args).map fun l => if quiet then .callr f l else .callc f l
  | .extract x i => (argOf x).map (.extractn i)
  | .load t x => (aggP P t).bind fun g => (sizeP P t).bind fun n => o.dst.bind fun _ => (argOf x).bind fun x => if oneOk g n then some (if cmp then .load false g n x else .loadr g n x) else none
  | _ => opOf P [] o

/-- all that must come before -/
def precStep (ps : List (List Nat)) (o : Oper) : List Nat :=
  o.after.toList.foldl (fun acc e => if Region.binds .any e then union acc (union [e.on] (ps.getD e.on [])) else acc) []
def precs : List Oper → List (List Nat) → List (List Nat)
  | [], ps => ps
  | o :: r, ps => precs r (ps ++ [precStep ps o])
def before (i j : Nat) (pi pj : List Nat) : Bool := if i < j then pj.contains i else pi.contains j

def isStore : Oper → Bool := fun o => match o.op with
  | .store .. | .box .. => true
  | _ => false
def isPlainStore : Oper → Bool := fun o => match o.op with
  | .store .. => true
  | _ => false
/-- does it stand in line with all that is written, or ahead of it? -/
def inLine (ops : List Oper) (ps : List (List Nat)) (i : Nat) : Bool :=
  (ops.zip ps).zipIdx.all fun ((o, p), j) => !isStore o || before i j (ps.getD i []) p || (isPlainStore o && decide (i < j))

/-- is nothing written or laid in it? -/
def quietOps (ops : List Oper) : Bool := ops.all fun o => match o.op with
  | .store .. | .box .. | .alloc _ => false
  | _ => true
def opsDraw (P : Program) (ntmps : Nat) (all : Array Oper) (ps : List (List Nat)) : Nat → List Oper → Option (List MOper)
  | _, [] => some []
  | i, o :: r => (opOfD P (quietOps all.toList) (inLine all.toList ps i) o).bind fun op => (guardOf all o).bind fun guard => if dstOk ntmps o then
      (opsDraw P ntmps all ps (i + 1) r).bind fun l => some ({ dst := o.dst, op, guard } :: l) else none

abbrev DItem := (MOper × List Nat) × Nat
def pairOk (fr : DItem → DItem → Bool) (a b : DItem) : Bool := a.2 == b.2 ||
  ((match a.1.1.dst with
    | some d => b.1.1.dst != some d && (!(readsOf b.1.1).contains d || before a.2 b.2 a.1.2 b.1.2)
    | none => true) &&
   (takesOf a.1.1.op).all (fun t => !(readsOf b.1.1).contains t) &&
   (!isW a.1.1.op || !(isW b.1.1.op || isR b.1.1.op || isAlloc b.1.1.op) || before a.2 b.2 a.1.2 b.1.2 || fr a b) &&
   (!isAlloc a.1.1.op || isW b.1.1.op || match a.1.1.dst with
    | some d => !(readsOf b.1.1).contains d
    | none => false))
/-- the loads that may come behind a store that the text has behind them -/
def rsOf (l : List DItem) (a : DItem) : List Nat := l.filterMap fun b => match b.1.1.op with
  | .load false _ _ (.tmp t) => if b.2 < a.2 && !before a.2 b.2 a.1.2 b.1.2 then some t else none
  | _ => none
def markD (l : List DItem) : List MOper := l.map fun a => match a.1.1.op with
  | .store n x v => if (rsOf l a).isEmpty then a.1.1 else { a.1.1 with op := .storef n x v (rsOf l a) }
  | .storef .. => { a.1.1 with op := .call (.lit .undef) [] }
  | _ => a.1.1
def plainO (m : MOper) : MOper := match m.op with
  | .storef n x v _ => { m with op := .store n x v }
  | _ => m
def freeRs (m : MOper) (t : Nat) : Bool := match m.op with
  | .storef _ _ _ rs => rs.contains t
  | _ => false
/-- a load that may come behind a store of the text behind it: the store looks that it is another variable -/
def freeOk (ms : List MOper) (a b : DItem) : Bool := match b.1.1.op with
  | .load false _ _ (.tmp t) => decide (b.2 < a.2) && (match ms[a.2]? with
    | some m => freeRs m t
    | none => false) && ms.zipIdx.all fun c => !(decide (b.2 ≤ c.2) && decide (c.2 < a.2) && c.1.dst == some t)
  | _ => false
def oneItemOk (keep : List Nat) (a : DItem) : Bool :=
  drawable a.1.1.op && allocOk a.1.1.op && (!isAlloc a.1.1.op || (a.1.1.guard.isNone && a.1.1.dst.isSome)) && (takesOf a.1.1.op).all (fun t => !keep.contains t)
def edgesOk (o : Oper × Nat) : Bool := o.1.after.toList.all fun e => !Region.binds .any e || decide (e.on < o.2)
def drawOk (ops : List Oper) (ms0 : List MOper) (keep : List Nat) : Bool :=
  let ms := ms0.map plainO
  let l := (ms.zip (precs ops [])).zipIdx
  ops.zipIdx.all edgesOk && l.all (oneItemOk keep) && (l.all fun a => l.all fun b => pairOk (freeOk ms0) a b) && (ms.all (fun m => !isC m.op) || ms.all fun m => !isW m.op && !isAlloc m.op)

def liveOps : List MOper → List Nat → List Nat
  | [], out => out
  | o :: r, out =>
    let l := liveOps r out
    let l := match o.dst with | some d => l.filter (· != d) | none => l
    union (union l (opR o.op)) (match o.guard with | some (g, _) => [g] | none => [])
def live : MCode → List Nat → List (Nat × List Nat) → List Nat → MCode × List Nat
  | .skip, out, _, _ => (.skip, out)
  | .region id ops draw _, out, _, _ => (.region id ops draw (sorted out), liveOps ops out)
  | .seq a b, out, xs, rt =>
    let (b, lb) := live b out xs rt
    let (a, la) := live a lb xs rt
    (.seq a b, la)
  | .cond c a b, out, xs, rt =>
    let (a, la) := live a out xs rt
    let (b, lb) := live b out xs rt
    (.cond c a b, union (union la lb) (argR c))
  | .block id b, out, xs, rt =>
    let (b, l) := live b out ((id, out) :: xs) rt
    (.block id b, l)
  | .loop b, _, xs, rt =>
    let l0 := (live b [] xs rt).2
    let l1 := (live b l0 xs rt).2
    let (b, l) := live b l1 xs rt
    (.loop b, l)
  | .exit id, _, xs, _ => (.exit id, (xs.lookup id).getD [])
  | .ret, _, _, rt => (.ret, rt)

def codeOf (P : Program) (ntmps : Nat) : Code → Option MCode
  | .skip => some .skip
  | .region id ops draw => if draw then (if P.follows .mixedOrders then (opsDraw P ntmps ops (precs ops.toList []) 0 ops.toList).map fun l => .region id (markD (l.zip (precs ops.toList [])).zipIdx) true [] else none)
    else (opsOf P ntmps ops ops.toList).map fun l => .region id l false []
  | .seq a b => do pure (.seq (← codeOf P ntmps a) (← codeOf P ntmps b))
  | .cond c a b => do pure (.cond (← argOf c) (← codeOf P ntmps a) (← codeOf P ntmps b))
  | .block id b => (codeOf P ntmps b).map (.block id)
  | .loop b => (codeOf P ntmps b).map .loop
  | .exit id => some (.exit id)
  | .ret => some .ret
  | _ => none

/-- every region whose order is open bears it -/
def drawsOk : Code → MCode → Bool
  | .region _ ops true, .region _ ms _ keep => drawOk ops.toList ms keep
  | .seq a b, .seq a' b' => drawsOk a a' && drawsOk b b'
  | .cond _ a b, .cond _ a' b' => drawsOk a a' && drawsOk b b'
  | .block _ a, .block _ a' => drawsOk a a'
  | .loop a, .loop a' => drawsOk a a'
  | _, _ => true

def resOf (P : Program) : ResultVar → Option MRes
  | .tmp n => some (.tmp n)
  | .cell a t => do
    let g ← aggP P t
    let n ← sizeP P t
    if oneOk g n then pure (.cell a g n) else none
def resR : MRes → Nat
  | .tmp n => n
  | .cell a _ _ => a

def funcOf (P : Program) (fn : Func) : Option MFunc := do
  if fn.name == "runtime.NumGoroutine" then none
  let b ← fn.body
  let c ← codeOf P fn.ntmps b
  let res ← fn.results.toList.mapM (resOf P)
  if drawsOk b (live c (res.map resR) [] (res.map resR)).1 then pure { body := (live c (res.map resR) [] (res.map resR)).1, res } else none

def compile (P : Program) (f : Nat) : Option MFunc := (P.funcs[f]?).bind (funcOf P)

end Go.Mir
