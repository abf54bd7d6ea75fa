/- Operations, first part: those that touch no memory. -/
import Derived.Test.YtlpfeikoniepiaaRRDoorMidFrame
import Derived.Test.YtlpfeikoniepiaaRRDoorMidComp
import Derived.Laws.Small
import Derived.Laws.StructEq
import Derived.Laws.Slices
import Derived.Laws.Concat
import Derived.WideLaws
import Derived.Lib.Strings
import Derived.Great.BuildSlice
import Derived.Deep.AppendSrc
import Derived.Lib.ConvBytes
import Derived.KernelRfl
import Derived.Laws.BytesArg
import Derived.Lib.Bytealg
import Derived.Laws.BytesString
set_option linter.all false
namespace Go.Mir
set_option linter.unusedVariables false
set_option linter.unusedSimpArgs false
set_option linter.unusedSectionVars false

theorem cellDat_rep {g : Gh} {w : World} {v : Value} {d : Dat} (h : cellDat v = some d) : Rep g w d v ∧ d.under 0 = true ∧ d.safe = true ∧ d.isCell = true := by
  unfold cellDat at h
  split at h <;> try (injection h with h; subst h)
  · simp [Rep, Dat.under, Dat.safe, Dat.isCell]
  · simp [Rep, Dat.under, Dat.safe, Dat.isCell]
  · simp [Rep, Dat.under, Dat.safe, Dat.isCell]
  · simp [Rep, Dat.under, Dat.safe, Dat.isCell]
  · refine ⟨?_, rfl, rfl, rfl⟩
    simp only [Rep]
    exact ⟨none, 0, by simp, by simp, by simp, by simp⟩
  · simp [Rep, Dat.under, Dat.safe, Dat.isCell]
  · simp [Rep, Dat.under, Dat.safe, Dat.isCell]
  · cases h

/-- What is known of an operand. -/
structure ArgOk (N n : Nat) (g : Gh) (w : World) (e : Env) (tmps : Array Value) (m : MArg) (d : Dat) (v : Value) : Prop where
  rep : Rep g w d v
  under : d.under n = true
  own : (d.safe = true ∧ ∃ l, m = .lit l) ∨ ∃ t, m = .tmp t ∧ Env.get e t = some d ∧ tmps[t]? = some v ∧ Own g w (fun i => .slot N t i) d v

section
variable {P : Program} {N ntmps : Nat} {σ0 : St} {g0 : Gh} {w0 : World} {e : Env} {σ : St} {a : Act} {w : World} {g : Gh}

theorem Fr.arg (h : Fr N ntmps σ0 g0 w0 e σ a w g) {x : Operand} {m : MArg} {d : Dat} (hx : argOf x = some m) (hd : m.ev e = some d) :
    ArgOk N σ.length g w e a.tmps m d (a.eval x) := by
  cases x with
  | tmp t =>
    simp only [argOf, Option.some.injEq] at hx
    subst hx
    simp only [MArg.ev] at hd
    obtain ⟨v, hv, hr, ho, hu⟩ := h.env t d hd
    have he : a.eval (.tmp t) = v := by simp [Act.eval, Array.getD_eq_getD_getElem?, hv]
    rw [he]
    exact ⟨hr, hu, .inr ⟨t, rfl, hd, hv, ho⟩⟩
  | const v =>
    simp only [argOf, Option.map_eq_some_iff] at hx
    obtain ⟨c, hc, rfl⟩ := hx
    simp only [MArg.ev, Option.some.injEq] at hd
    subst hd
    obtain ⟨h1, h2, h3, _⟩ := cellDat_rep (g := g) (w := w) hc
    exact ⟨h1, under_mono (Nat.zero_le _) _ h2, .inl ⟨h3, _, rfl⟩⟩
  | global i => simp [argOf] at hx
  | func f =>
    simp only [argOf, Option.some.injEq] at hx
    subst hx
    simp only [MArg.ev, Option.some.injEq] at hd
    subst hd
    refine ⟨?_, rfl, .inl ⟨rfl, _, rfl⟩⟩
    simp only [Rep]
    exact ⟨[], by simp [Act.eval], by simp [RepL]⟩

/-- What an operation comes to. -/
def Comes1 (N : Nat) (σ0 : St) (g0 : Gh) (w0 : World) (dst : Option Nat) (d : Dat) (e : Env) (σ : St) (tmps : Array Value) (r : Result Next) : Prop :=
  ∃ v w' g', (r = .ok (.value v) w' ∨ (r = .ok .skip w' ∧ v = undef)) ∧ Left N σ0 g0 w0 dst d v e σ tmps w' g'

theorem ArgOk.safe_own {n : Nat} {tmps : Array Value} {m : MArg} {d : Dat} {v : Value} (h : ArgOk N n g w e tmps m d v) (hc : ∀ cs, d ≠ .tup cs) (hs : ∀ own xs, d = .slice own xs → own = false) (π : Nat → Place) : Own g w π d v := by
  cases d <;> try trivial
  · exact absurd rfl (hc _)
  · rename_i own xs
    have := hs own xs rfl
    subst this
    trivial

theorem op_move (h : Fr N ntmps σ0 g0 w0 e σ a w g) (h0 : LB (N - 1) g0) (hN : 0 < N) {x : Operand} {m : MArg} (hx : argOf x = some m) {mv : Bool} {run : Run} {esc : Nat → Bool} {base : Nat} {s : Nat} {d : Dat} {e1 : Env} {σ1 : St}
    (he : evalOp run esc base e σ (.mov mv m) = some (d, e1, σ1)) :
    ∃ g', Left N σ0 g0 w0 (some s) d (a.eval x) e1 σ1 a.tmps w g' := by
  cases mv with
  | true =>
    simp only [evalOp, Option.bind_eq_some_iff, Option.some.injEq, Prod.mk.injEq] at he
    obtain ⟨c, hc, rfl, rfl, rfl⟩ := he
    have ha := h.arg hx hc
    rcases ha.own with ⟨hs, l, rfl⟩ | ⟨t, rfl, ht, hv, ho⟩
    · exact ⟨g, h.left ha.rep (fun _ _ => Own_safe ha.rep hs) ha.under⟩
    · obtain ⟨v, hv', hl⟩ := h.take_slot h0 hN (s := s) ht
      rw [hv] at hv'
      injection hv' with hv'
      rw [hv']
      refine ⟨g.map (slotTo N t s), ?_⟩
      simpa only [MArg.take, ht] using hl
  | false =>
    simp only [evalOp, Option.bind_eq_some_iff, Option.some.injEq, Prod.mk.injEq] at he
    obtain ⟨c, hc, rfl, rfl, rfl⟩ := he
    have ha := h.arg hx hc
    exact ⟨g, h.left (Rep_strip ha.rep) (fun _ _ => Own_strip) (by rw [under_strip]; exact ha.under)⟩

theorem op_pick (h : Fr N ntmps σ0 g0 w0 e σ a w g) {c x y : Operand} {mc mx my : MArg} (hc : argOf c = some mc) (hx : argOf x = some mx) (hy : argOf y = some my) {run : Run} {esc : Nat → Bool} {base : Nat} {dst : Option Nat} {d : Dat} {e1 : Env} {σ1 : St}
    (he : evalOp run esc base e σ (.pick mc mx my) = some (d, e1, σ1)) :
    ∃ b, a.eval c = .bool b ∧ Left N σ0 g0 w0 dst d (if b then a.eval x else a.eval y) e1 σ1 a.tmps w g := by
  simp only [evalOp, Option.bind_eq_some_iff] at he
  obtain ⟨dc, hdc, he⟩ := he
  have hac := h.arg hc hdc
  cases dc <;> simp only [Option.bind_eq_some_iff, reduceCtorEq] at he
  rename_i b
  obtain ⟨d2, hd2, he⟩ := he
  simp only [Option.some.injEq, Prod.mk.injEq] at he
  obtain ⟨rfl, rfl, rfl⟩ := he
  have hb : a.eval c = .bool b := by simpa [Rep] using hac.rep
  refine ⟨b, hb, ?_⟩
  cases b with
  | true =>
    have ha := h.arg hx hd2
    exact h.left (Rep_strip ha.rep) (fun _ _ => Own_strip) (by rw [under_strip]; exact ha.under)
  | false =>
    have ha := h.arg hy hd2
    exact h.left (Rep_strip ha.rep) (fun _ _ => Own_strip) (by rw [under_strip]; exact ha.under)
end

/-! ### arithmetic -/
/-- a value that is no composite -/
def Dat.flat : Dat → Bool
  | .int _ _ | .bool _ | .str _ => true
  | _ => false
theorem flat_own {g : Gh} {w : World} {π : Nat → Place} {d : Dat} {v : Value} (h : d.flat = true) : Own g w π d v := by cases d <;> first | trivial | simp [Dat.flat] at h
theorem flat_under {n : Nat} {d : Dat} (h : d.flat = true) : d.under n = true := by cases d <;> first | rfl | simp [Dat.flat] at h

def Dat.val : Dat → Value
  | .int k n => .int k n
  | .bool b => .bool b
  | .str s => .string ⟨s.toArray⟩
  | _ => _root_.Go.undef
theorem flat_rep {g : Gh} {w : World} {d : Dat} (h : d.flat = true) : Rep g w d d.val := by cases d <;> first | (simp only [Rep, Dat.val]; done) | simp [Dat.flat] at h
theorem flat_val {g : Gh} {w : World} {d : Dat} {v : Value} (h : d.flat = true) (hr : Rep g w d v) : v = d.val := by cases d <;> first | simpa only [Rep, Dat.val] using hr | simp [Dat.flat] at h
theorem beq_int (m n : Int) : (m == n) = decide (m = n) := by by_cases h : m = n <;> simp [h]

theorem run_int {P : Program} {w : World} {op : BinOp} {k k' : IntKind} {m n : Int} {t : TypeId} {x y : Operand} {d : Dat} (h : binD op (.int k m) (.int k' n) = some d) :
    ((do eqGuard op t x y (.int k m) (.int k' n); binOp op t (.int k m) (.int k' n)) : Sem Value).run P w = .ok d.val w ∧ d.flat = true := by
  rw [eqGuard_at_int]
  by_cases hk : k = k'
  · subst hk
    cases op <;> simp only [binD, intBin, if_true, Option.some.injEq] at h <;>
      first
      | (subst h; exact ⟨by simp [binOp, Op.intArith, Op.intCmp, Op.intBits, Dat.val, bits, beq_int, bne], rfl⟩)
      | (split at h
         · cases h
         · injection h with h
           subst h
           rename_i hn
           exact ⟨by simp [binOp, Op.intDiv, Op.shift, hn, Dat.val], rfl⟩)
  · cases op <;> simp only [binD, hk, if_false, reduceCtorEq] at h
    all_goals
      split at h
      · cases h
      · injection h with h
        subst h
        rename_i hn
        exact ⟨by simp [binOp, Op.shift, hn, Dat.val], rfl⟩

theorem less_eq (x y : List UInt8) : less x y = Op.bytesLess x y := by
  induction x generalizing y with
  | nil => cases y <;> rfl
  | cons a x ih =>
    cases y with
    | nil => rfl
    | cons b y => simp only [less, Op.bytesLess, ih]; by_cases h : a = b <;> simp [h]
theorem beq_bytes (x y : List UInt8) : (x == y) = decide (x = y) := by by_cases h : x = y <;> simp [h]

theorem run_str {P : Program} {w : World} {op : BinOp} {m n : List UInt8} {t : TypeId} {x y : Operand} {d : Dat} (h : binD op (.str m) (.str n) = some d) :
    ((do eqGuard op t x y (.string ⟨m.toArray⟩) (.string ⟨n.toArray⟩); binOp op t (.string ⟨m.toArray⟩) (.string ⟨n.toArray⟩)) : Sem Value).run P w = .ok d.val w ∧ d.flat = true := by
  rw [eqGuard_at_string]
  simp only [binD] at h
  have e1 : (ByteArray.mk m.toArray).size = m.length := by simp [ByteArray.size]
  have e2 : (ByteArray.mk n.toArray).size = n.length := by simp [ByteArray.size]
  cases op <;> simp only [strBin, Option.some.injEq, reduceCtorEq] at h
  case add =>
    split at h
    · rename_i hl
      injection h with h
      subst h
      refine ⟨?_, rfl⟩
      have : ¬ ((m.length + n.length : Nat) : Int) > IntKind.i64.max := by rw [IntKind.max_i64]; omega
      simp only [Sem.run_bind, Sem.run_pure, Result.andThen_ok, binOp, Op.stringOp, e1, e2, this, if_false, Dat.val]
      rw [_root_.Go.ByteArray.mk_append_mk]
    · cases h
  all_goals
    subst h
    exact ⟨by simp [binOp, Op.stringOp, Dat.val, less_eq, beq_bytes], rfl⟩

theorem bytes_toList (l : List UInt8) : (ByteArray.mk l.toArray).toList = l := by simp
/-! ### '==' of structs -/
theorem cellsEq_split : ∀ (ks ms : List Nat) (xs ys : List Dat) (r : Bool), cellsEq (ks ++ ms) xs ys = some r →
    ∃ r1 r2, cellsEq ks (xs.take ks.length) (ys.take ks.length) = some r1 ∧ cellsEq ms (xs.drop ks.length) (ys.drop ks.length) = some r2 ∧ r = (r1 && r2)
  | [], ms, xs, ys, r, h => ⟨true, r, by simp [cellsEq], by simpa using h, rfl⟩
  | k :: ks, ms, [], ys, r, h => by simp [cellsEq] at h
  | k :: ks, ms, x :: xs, [], r, h => by simp [cellsEq] at h
  | k :: ks, ms, x :: xs, y :: ys, r, h => by
    simp only [List.cons_append, cellsEq, Option.bind_eq_some_iff, Option.some.injEq] at h
    obtain ⟨b, hb, c, hc, rfl⟩ := h
    obtain ⟨r1, r2, h1, h2, rfl⟩ := cellsEq_split ks ms xs ys c hc
    exact ⟨b && r1, r2, by simp [cellsEq, hb, h1], by simpa using h2, by simp [Bool.and_assoc]⟩
theorem cellsEq_len : ∀ {ks : List Nat} {xs ys : List Dat} {r : Bool}, cellsEq ks xs ys = some r → xs.length = ks.length ∧ ys.length = ks.length
  | [], [], [], _, _ => ⟨rfl, rfl⟩
  | [], [], _ :: _, _, h => by simp [cellsEq] at h
  | [], _ :: _, _, _, h => by simp [cellsEq] at h
  | _ :: _, [], _, _, h => by simp [cellsEq] at h
  | _ :: _, _ :: _, [], _, h => by simp [cellsEq] at h
  | k :: ks, x :: xs, y :: ys, r, h => by
    simp only [cellsEq, Option.bind_eq_some_iff, Option.some.injEq] at h
    obtain ⟨b, _, c, hc, _⟩ := h
    have := cellsEq_len hc
    simp [this.1, this.2]
theorem cellEq_flat {k : Nat} {x y : Dat} {r : Bool} (h : cellEq k x y = some r) : x.flat = true ∧ y.flat = true := by
  cases x <;> cases y <;> simp [cellEq] at h <;> exact ⟨rfl, rfl⟩
theorem cellsEq_flat : ∀ {ks : List Nat} {xs ys : List Dat} {r : Bool}, cellsEq ks xs ys = some r → (∀ x ∈ xs, x.flat = true) ∧ ∀ y ∈ ys, y.flat = true
  | [], [], [], _, _ => by simp
  | [], [], _ :: _, _, h => by simp [cellsEq] at h
  | [], _ :: _, _, _, h => by simp [cellsEq] at h
  | _ :: _, [], _, _, h => by simp [cellsEq] at h
  | _ :: _, _ :: _, [], _, h => by simp [cellsEq] at h
  | k :: ks, x :: xs, y :: ys, r, h => by
    simp only [cellsEq, Option.bind_eq_some_iff] at h
    obtain ⟨b, hb, c, hc, _⟩ := h
    obtain ⟨h1, h2⟩ := cellEq_flat hb
    obtain ⟨h3, h4⟩ := cellsEq_flat hc
    exact ⟨by simpa [h1] using h3, by simpa [h2] using h4⟩
def valT (agg : Bool) (xs : List Dat) : Value := if agg then .agg (xs.map Dat.val).toArray else ((xs.map Dat.val).head?).getD _root_.Go.undef
theorem run_part {P : Program} {w : World} {t : TypeId} {agg : Bool} {n : Nat} (ha : aggP P t = some agg) (hn : agg = true → sizeP P t = some n) (h1 : agg = false → n = 1) (cs : List Value) (off : Nat) (hl : off + n ≤ cs.length) :
    (part t cs.toArray off).run P w = .ok (if agg then .agg ((cs.drop off).take n).toArray else (((cs.drop off).take n).head?).getD _root_.Go.undef) w := by
  simp only [aggP, Option.map_eq_some_iff] at ha
  obtain ⟨dsc, hd, ha⟩ := ha
  cases agg with
  | true =>
    have hn := hn rfl
    simp only [sizeP, Option.map_eq_some_iff] at hn
    obtain ⟨inf, hi, rfl⟩ := hn
    have hag : (isAgg t).run P w = .ok true w := by
      simp only [isAgg, Sem.run_bind, run_underlying hd, Result.andThen_ok]
      split at ha <;> simp_all
    simp only [part, Sem.run_bind, hag, Result.andThen_ok, if_true, sizeOf, typeInfo, run_program, hi, Sem.run_pure]
    congr 2
    simp [List.extract_toArray, List.extract_eq_take_drop]
  | false =>
    have hag : (isAgg t).run P w = .ok false w := by
      simp only [isAgg, Sem.run_bind, run_underlying hd, Result.andThen_ok]
      split at ha <;> simp_all
    have hn1 := h1 rfl
    simp only [part, Sem.run_bind, hag, Result.andThen_ok, Bool.false_eq_true, if_false, hn1]
    have hlt : off < cs.length := by omega
    have e1 : cs.toArray[off]? = some cs[off] := by simp [hlt]
    have e2 : ((List.take 1 (List.drop off cs)).head?).getD _root_.Go.undef = cs[off] := by
      rw [List.drop_eq_getElem_cons hlt]
      rfl
    rw [e1, e2]
    rfl
theorem eqLay_agg {P : Program} {d : Nat} {t : TypeId} {n : List Nat} (h : eqLay P d t = some n) : ∃ agg, aggP P t = some agg ∧ (agg = true → sizeP P t = some n.length) ∧ (agg = false → n.length = 1) := by
  cases d with
  | zero => simp [eqLay] at h
  | succ d =>
    simp only [eqLay] at h
    split at h <;> rename_i hu
    · exact ⟨false, by simp [aggP, hu], by simp, fun _ => by simp at h; simp [← h]⟩
    · exact ⟨false, by simp [aggP, hu], by simp, fun _ => by simp at h; simp [← h]⟩
    · exact ⟨false, by simp [aggP, hu], by simp, fun _ => by simp at h; simp [← h]⟩
    · split at h
      · cases h
      · rename_i hc
        simp only [Bool.or_eq_true, not_or, bne_iff_ne, ne_eq, Decidable.not_not] at hc
        exact ⟨true, by simp [aggP, hu], fun _ => by rw [hc.2, h]; rfl, by simp⟩
    · cases h

theorem run_eqFields {P : Program} {d k : Nat} {xs ys : List Dat}
    (ih : ∀ t n, eqLay P d t = some n → ∀ (xs ys : List Dat) r, cellsEq n xs ys = some r → ∀ (agg : Bool), aggP P t = some agg → ∀ w, (Op.equalIn (d + k) t (valT agg xs) (valT agg ys)).run P w = .ok r w) :
    ∀ (fs : List Field) (off : Nat) (n : List Nat) (r : Bool), eqFs (eqLay P d) fs off = some n → off ≤ xs.length → off ≤ ys.length → cellsEq n (xs.drop off) (ys.drop off) = some r → ∀ w,
      (Op.eqFields (d + k) (xs.map Dat.val).toArray (ys.map Dat.val).toArray fs).run P w = .ok r w
  | [], off, n, r, hf, hl, hl2, hc, w => by
    simp only [eqFs, Option.some.injEq] at hf
    subst hf
    obtain ⟨h1, h2⟩ := cellsEq_len hc
    rw [List.eq_nil_of_length_eq_zero h1, List.eq_nil_of_length_eq_zero h2] at hc
    simp only [cellsEq, Option.some.injEq] at hc
    subst hc
    rfl
  | f :: fs, off, n, r, hf, hl, hl2, hc, w => by
    simp only [eqFs] at hf
    split at hf
    · rename_i hcond
      obtain ⟨hname, hoff⟩ := hcond
      obtain ⟨m, hm, hf⟩ := Option.bind_eq_some_iff.1 hf
      obtain ⟨n2, hf2, rfl⟩ := Option.map_eq_some_iff.1 hf
      obtain ⟨agg, ha, hs, h1⟩ := eqLay_agg hm
      obtain ⟨hx, hy⟩ := cellsEq_len hc
      simp only [List.length_drop, List.length_append] at hx hy
      obtain ⟨r1, r2, hc1, hc2, rfl⟩ := cellsEq_split m n2 _ _ r hc
      simp only [List.drop_drop] at hc2
      have e1 := run_part (w := w) ha hs h1 (xs.map Dat.val) off (by simp; omega)
      have e2 := run_part (w := w) ha hs h1 (ys.map Dat.val) off (by simp; omega)
      have e3 := ih f.type m hm _ _ r1 hc1 agg ha w
      have v1 : (if agg = true then Value.agg (((xs.map Dat.val).drop off).take m.length).toArray else ((((xs.map Dat.val).drop off).take m.length).head?).getD _root_.Go.undef) = valT agg ((xs.drop off).take m.length) := by simp only [valT, List.map_take, List.map_drop]
      have v2 : (if agg = true then Value.agg (((ys.map Dat.val).drop off).take m.length).toArray else ((((ys.map Dat.val).drop off).take m.length).head?).getD _root_.Go.undef) = valT agg ((ys.drop off).take m.length) := by simp only [valT, List.map_take, List.map_drop]
      rw [v1] at e1
      rw [v2] at e2
      simp only [Op.eqFields, hname, ne_eq, not_false_eq_true, if_true, hoff, Sem.run_bind, e1, e2, e3, Result.andThen_ok]
      cases r1 with
      | true =>
        simp only [Bool.not_true, Bool.false_eq_true, if_false, Bool.true_and]
        exact run_eqFields ih fs (off + m.length) n2 r2 hf2 (by omega) (by omega) hc2 w
      | false => simp
    · cases hf

theorem cell0 {x y : Dat} {r : Bool} (h : cellEq 0 x y = some r) : ∃ k a b, x = .int k a ∧ y = .int k b ∧ r = (a == b) := by
  cases x <;> cases y <;> simp [cellEq] at h
  obtain ⟨rfl, rfl⟩ := h
  exact ⟨_, _, _, rfl, rfl, (beq_int _ _).symm⟩
theorem cell1 {x y : Dat} {r : Bool} (h : cellEq 1 x y = some r) : ∃ a b, x = .bool a ∧ y = .bool b ∧ r = (a == b) := by
  cases x <;> cases y <;> simp [cellEq] at h
  exact ⟨_, _, rfl, rfl, h.symm⟩
theorem cell2 {x y : Dat} {r : Bool} (h : cellEq 2 x y = some r) : ∃ a b, x = .str a ∧ y = .str b ∧ r = (a == b) := by
  cases x <;> cases y <;> simp [cellEq] at h
  exact ⟨_, _, rfl, rfl, by rw [beq_bytes]; exact h.symm⟩
theorem run_eqLay {P : Program} (k : Nat) : ∀ (d : Nat) t n, eqLay P d t = some n → ∀ (xs ys : List Dat) r, cellsEq n xs ys = some r → ∀ (agg : Bool), aggP P t = some agg → ∀ w,
    (Op.equalIn (d + k) t (valT agg xs) (valT agg ys)).run P w = .ok r w
  | 0, t, n, h, _, _, _, _, _, _, _ => by simp [eqLay] at h
  | d + 1, t, n, h, xs, ys, r, hc, agg, ha, w => by
    have hdk : d + 1 + k = (d + k) + 1 := by omega
    rw [hdk]
    obtain ⟨hl, hyl⟩ := cellsEq_len hc
    simp only [eqLay] at h
    split at h <;> rename_i hu
    · injection h with h
      subst h
      match xs, ys, hl, hyl, hc with
      | [x], [y], _, _, hc =>
        have hag : agg = false := by simpa [aggP, hu] using ha.symm
        subst hag
        simp only [cellsEq, Option.bind_eq_some_iff, Option.bind_some, Option.some.injEq, Bool.and_true, exists_eq_right] at hc
        obtain ⟨k', m, n, rfl, rfl, rfl⟩ := cell0 hc
        exact run_equalIn_int w (d + k) t _ _ _ _ hu
    · injection h with h
      subst h
      match xs, ys, hl, hyl, hc with
      | [x], [y], _, _, hc =>
        have hag : agg = false := by simpa [aggP, hu] using ha.symm
        subst hag
        simp only [cellsEq, Option.bind_eq_some_iff, Option.bind_some, Option.some.injEq, Bool.and_true, exists_eq_right] at hc
        obtain ⟨m, n, rfl, rfl, rfl⟩ := cell1 hc
        exact run_equalIn_bool' w (d + k) t _ _ hu
    · injection h with h
      subst h
      match xs, ys, hl, hyl, hc with
      | [x], [y], _, _, hc =>
        have hag : agg = false := by simpa [aggP, hu] using ha.symm
        subst hag
        simp only [cellsEq, Option.bind_eq_some_iff, Option.bind_some, Option.some.injEq, Bool.and_true, exists_eq_right] at hc
        obtain ⟨m, n, rfl, rfl, rfl⟩ := cell2 hc
        have := run_equalIn_string (P := P) w (d + k) t ⟨m.toArray⟩ ⟨n.toArray⟩ hu
        rw [bytes_toList, bytes_toList] at this
        exact this
    · split at h
      · cases h
      · rename_i hcond
        simp only [Bool.or_eq_true, not_or, Bool.not_eq_true] at hcond
        have hag : agg = true := by simpa [aggP, hu] using ha.symm
        subst hag
        rename_i fs
        have hfo : P.fieldsOf t = fs := by simp [Program.fieldsOf, hu]
        simp only [valT, if_true]
        rw [run_equalIn_agg w (d + k) t _ _ (by rw [hfo]; exact hu) hcond.1, hfo]
        exact run_eqFields (run_eqLay k d) fs.toList 0 n r h (by omega) (by omega) (by simpa using hc) w
    · cases h

/-! ### the operations, as the machine does them -/
theorem repL_flat {g : Gh} {w : World} : ∀ {cs : List Dat} {vs : List Value}, (∀ x ∈ cs, x.flat = true) → RepL g w cs vs → vs = cs.map Dat.val
  | [], vs, _, h => by simpa [RepL] using h
  | c :: r, vs, hf, h => by
    simp only [RepL] at h
    obtain ⟨v, vr, rfl, hv, hr⟩ := h
    rw [flat_val (hf c (by simp)) hv, repL_flat (fun x hx => hf x (by simp [hx])) hr]
    rfl

section
variable {P : Program} {N ntmps : Nat} {σ0 : St} {g0 : Gh} {w0 : World} {e : Env} {σ : St} {a : Act} {w : World} {g : Gh} {run : Run} {esc : Nat → Bool} {base : Nat} {dst : Option Nat} {d : Dat} {e1 : Env} {σ1 : St}

theorem Fr.left_flat (h : Fr N ntmps σ0 g0 w0 e σ a w g) (hd : d.flat = true) : Left N σ0 g0 w0 dst d d.val e σ a.tmps w g :=
  h.left (flat_rep hd) (fun _ _ => flat_own hd) (flat_under hd)

theorem op_bin (h : Fr N ntmps σ0 g0 w0 e σ a w g) {x y : Operand} {mx my : MArg} (hx : argOf x = some mx) (hy : argOf y = some my) {op : BinOp} {t : TypeId}
    (he : evalOp run esc base e σ (.bin op mx my) = some (d, e1, σ1)) :
    ∃ v, ((do eqGuard op t x y (a.eval x) (a.eval y); binOp op t (a.eval x) (a.eval y)) : Sem Value).run P w = .ok v w ∧ Left N σ0 g0 w0 dst d v e1 σ1 a.tmps w g := by
  simp only [evalOp, Option.bind_eq_some_iff, Option.some.injEq, Prod.mk.injEq] at he
  obtain ⟨dx, hdx, dy, hdy, d', hd', rfl, rfl, rfl⟩ := he
  have hax := (h.arg hx hdx).rep
  have hay := (h.arg hy hdy).rep
  cases dx <;> cases dy <;> simp only [binD, reduceCtorEq] at hd'
  · simp only [Rep] at hax hay
    rw [hax, hay]
    obtain ⟨h1, h2⟩ := run_int (P := P) (w := w) (t := t) (x := x) (y := y) (show binD op (.int _ _) (.int _ _) = some _ from hd')
    exact ⟨_, h1, h.left_flat h2⟩
  · simp only [Rep] at hax hay
    rw [hax, hay]
    obtain ⟨h1, h2⟩ := run_str (P := P) (w := w) (t := t) (x := x) (y := y) (show binD op (.str _) (.str _) = some _ from hd')
    exact ⟨_, h1, h.left_flat h2⟩

theorem op_eqb (h : Fr N ntmps σ0 g0 w0 e σ a w g) {x y : Operand} {mx my : MArg} (hx : argOf x = some mx) (hy : argOf y = some my) {op : BinOp} {neq : Bool} {t : TypeId}
    (hop : (op = .eql ∧ neq = false) ∨ (op = .neq ∧ neq = true)) (ht : P.underlying t = some .bool)
    (he : evalOp run esc base e σ (.eqb neq mx my) = some (d, e1, σ1)) :
    ∃ v, ((do eqGuard op t x y (a.eval x) (a.eval y); binOp op t (a.eval x) (a.eval y)) : Sem Value).run P w = .ok v w ∧ Left N σ0 g0 w0 dst d v e1 σ1 a.tmps w g := by
  simp only [evalOp, Option.bind_eq_some_iff] at he
  obtain ⟨dx, hdx, dy, hdy, he⟩ := he
  have hax := (h.arg hx hdx).rep
  have hay := (h.arg hy hdy).rep
  cases dx <;> cases dy <;> simp only [reduceCtorEq, Option.some.injEq, Prod.mk.injEq] at he
  obtain ⟨rfl, rfl, rfl⟩ := he
  simp only [Rep] at hax hay
  rw [hax, hay]
  refine ⟨_, ?_, h.left_flat rfl⟩
  rcases hop with ⟨rfl, rfl⟩ | ⟨rfl, rfl⟩ <;> simp [eqGuard_at_bool, run_eql_bool, run_neq_bool, ht, Dat.val]

theorem op_eqs (h : Fr N ntmps σ0 g0 w0 e σ a w g) {x y : Operand} {mx my : MArg} (hx : argOf x = some mx) (hy : argOf y = some my) {op : BinOp} {neq : Bool} {t : TypeId} {ks : List Nat}
    (hop : (op = .eql ∧ neq = false) ∨ (op = .neq ∧ neq = true)) {fs : Array Field} (ht : P.underlying t = some (.struct fs)) (hg : P.eqGuardType P.depth t = false) (hk : eqLay P 20 t = some ks)
    (he : evalOp run esc base e σ (.eqs neq ks mx my) = some (d, e1, σ1)) :
    ∃ v, ((do eqGuard op t x y (a.eval x) (a.eval y); binOp op t (a.eval x) (a.eval y)) : Sem Value).run P w = .ok v w ∧ Left N σ0 g0 w0 dst d v e1 σ1 a.tmps w g := by
  simp only [evalOp, Option.bind_eq_some_iff] at he
  obtain ⟨dx, hdx, dy, hdy, he⟩ := he
  have hax := (h.arg hx hdx).rep
  have hay := (h.arg hy hdy).rep
  cases dx <;> cases dy <;> simp only [reduceCtorEq, Option.bind_eq_some_iff, Option.some.injEq, Prod.mk.injEq] at he
  obtain ⟨r, hr, rfl, rfl, rfl⟩ := he
  simp only [Rep] at hax hay
  obtain ⟨vs, hv, hl, _⟩ := hax
  obtain ⟨us, hu, hl', _⟩ := hay
  obtain ⟨f1, f2⟩ := cellsEq_flat hr
  rw [repL_flat f1 hl] at hv
  rw [repL_flat f2 hl'] at hu
  rw [hv, hu]
  have ha : aggP P t = some true := by simp [aggP, ht]
  have e1 := run_eqLay (P := P) 9980 20 t ks hk _ _ r hr true ha w
  simp only [valT, if_true] at e1
  refine ⟨_, ?_, h.left_flat rfl⟩
  rcases hop with ⟨rfl, rfl⟩ | ⟨rfl, rfl⟩
  · simp only [Sem.run_bind, run_eqGuard_agg w _ t x y _ _ hg, Result.andThen_ok, run_eql_struct]
    rw [e1]
    rfl
  · simp only [Sem.run_bind, run_eqGuard_agg w _ t x y _ _ hg, Result.andThen_ok, run_neq_struct]
    rw [e1]
    rfl

theorem op_un (h : Fr N ntmps σ0 g0 w0 e σ a w g) {x : Operand} {mx : MArg} (hx : argOf x = some mx) {op : UnOp}
    (he : evalOp run esc base e σ (.un op mx) = some (d, e1, σ1)) :
    ∃ v, (Op.unary op (a.eval x)).run P w = .ok v w ∧ Left N σ0 g0 w0 dst d v e1 σ1 a.tmps w g := by
  simp only [evalOp, Option.bind_eq_some_iff] at he
  obtain ⟨dx, hdx, he⟩ := he
  have hax := (h.arg hx hdx).rep
  cases op <;> cases dx <;> simp only [reduceCtorEq, Option.some.injEq, Prod.mk.injEq] at he <;> obtain ⟨rfl, rfl, rfl⟩ := he <;> simp only [Rep] at hax <;> rw [hax]
  · exact ⟨_, by simp [Op.unary, Op.intArith, Dat.val], h.left_flat rfl⟩
  · exact ⟨_, by simp [Op.unary, Dat.val], h.left_flat rfl⟩

theorem op_conv (h : Fr N ntmps σ0 g0 w0 e σ a w g) {x : Operand} {mx : MArg} (hx : argOf x = some mx) {s t : TypeId} {k k' : IntKind} (hs : P.underlying s = some (.int k')) (ht : P.underlying t = some (.int k))
    (he : evalOp run esc base e σ (.conv k mx) = some (d, e1, σ1)) :
    ∃ v, (convert s t (a.eval x)).run P w = .ok v w ∧ Left N σ0 g0 w0 dst d v e1 σ1 a.tmps w g := by
  simp only [evalOp, Option.bind_eq_some_iff] at he
  obtain ⟨dx, hdx, he⟩ := he
  have hax := (h.arg hx hdx).rep
  cases dx <;> simp only [reduceCtorEq, Option.some.injEq, Prod.mk.injEq] at he
  obtain ⟨rfl, rfl, rfl⟩ := he
  simp only [Rep] at hax
  rw [hax]
  exact ⟨_, by simp [convert, run_underlying hs, run_underlying ht, Conv.intToInt, Dat.val], h.left_flat rfl⟩

/-- several operands -/
theorem Fr.args (h : Fr N ntmps σ0 g0 w0 e σ a w g) : ∀ {l : List Operand} {ms : List MArg} {ds : List Dat}, l.mapM argOf = some ms → MArg.evs e ms = some ds →
    RepL g w ds (l.map a.eval) ∧ Dat.underL σ.length ds = true
  | [], ms, ds, hm, hd => by
    simp only [List.mapM_nil, Option.pure_def, Option.some.injEq] at hm
    subst hm
    simp only [MArg.evs, Option.some.injEq] at hd
    subst hd
    exact ⟨by simp [RepL], rfl⟩
  | x :: l, ms, ds, hm, hd => by
    simp only [List.mapM_cons, Option.bind_eq_bind, Option.bind_eq_some_iff, Option.pure_def, Option.some.injEq] at hm
    obtain ⟨m, hx, ms', hl, rfl⟩ := hm
    simp only [MArg.evs, Option.bind_eq_some_iff, Option.some.injEq] at hd
    obtain ⟨d, hd, ds', hds, rfl⟩ := hd
    have ha := h.arg hx hd
    obtain ⟨h1, h2⟩ := h.args hl hds
    exact ⟨RepL_cons ha.rep h1, by simp [Dat.underL, ha.under, h2]⟩

theorem op_mkfn (h : Fr N ntmps σ0 g0 w0 e σ a w g) {l : Array Operand} {ms : List MArg} {f : Nat} (hl : argsOf l = some ms)
    (he : evalOp run esc base e σ (.mkfn f ms) = some (d, e1, σ1)) :
    ∃ v, (Instr.makeFunc (.func f) #[] (l.map a.eval)).run P w = .ok v w ∧ Left N σ0 g0 w0 dst d v e1 σ1 a.tmps w g := by
  simp only [evalOp, Option.bind_eq_some_iff, Option.some.injEq, Prod.mk.injEq] at he
  obtain ⟨ds, hds, rfl, rfl, rfl⟩ := he
  obtain ⟨h1, h2⟩ := h.args hl hds
  refine ⟨_, rfl, h.left ?_ (fun _ _ => trivial) (by simp only [Dat.under]; rw [underL_map under_strip1]; exact h2)⟩
  simp only [Rep]
  refine ⟨_, ?_, RepL_map (fun _ _ => Rep_strip1) h1⟩
  congr 1
  apply Array.ext'
  simp

theorem op_extract (h : Fr N ntmps σ0 g0 w0 e σ a w g) (h0 : LB (N - 1) g0) (hN : 0 < N) {x : Operand} {mx : MArg} (hx : argOf x = some mx) {i s : Nat}
    (he : evalOp run esc base e σ (.extract i mx) = some (d, e1, σ1)) :
    ∃ v g', (Instr.extract (a.eval x) i).run P w = .ok v w ∧ Left N σ0 g0 w0 (some s) d v e1 σ1 a.tmps w g' := by
  simp only [evalOp, Option.bind_eq_some_iff] at he
  obtain ⟨dx, hdx, he⟩ := he
  have ha := h.arg hx hdx
  cases dx <;> simp only [reduceCtorEq, Option.bind_eq_some_iff] at he
  rename_i cs
  obtain ⟨c, hc, he⟩ := he
  have hr := ha.rep
  rcases ha.own with ⟨_, l, rfl⟩ | ⟨t, rfl, ht, hv, ho⟩
  · simp only [reduceCtorEq] at he
  simp only [Option.some.injEq, Prod.mk.injEq] at he
  obtain ⟨rfl, rfl, rfl⟩ := he
  simp only [Rep] at hr
  obtain ⟨vs, hvs, hl, hnt⟩ := hr
  obtain ⟨u, hu, hur⟩ := RepL_get hl hc
  have hcu : c.under σ.length = true := underL_get (by simpa [Dat.under] using ha.under) hc
  let φ : Place → Place := fun π => match π with
    | .slot m q j => if m = N ∧ q = t ∧ j = i then .slot N s 0 else .slot m q j
    | π => π
  have hlt : ∀ m q j, m < N → φ (.slot m q j) = .slot m q j := fun m q j hm => by simp [φ, show ¬ m = N by omega]
  refine ⟨u, g.map φ, ?_, ⟨fun q c' hc' hq => ?_, fun q hq => ?_, h.st.map φ (fun _ _ => rfl), h.ch.map h0 hN φ ⟨hlt, fun _ _ _ => rfl⟩, ?_⟩⟩
  · rw [hvs]
    simp [Instr.extract, hu]
  · by_cases hqt : q = t
    · subst hqt
      rw [Env.get_put_same] at hc'
      injection hc' with hc'
      subst hc'
      refine ⟨a.eval x, hv, ?_, ?_, ?_⟩
      · refine Rep_ext (N := σ.length) (Ext.map φ) _ _ ?_ ?_
        · simp only [Dat.under]
          refine underL_mk fun d hd => ?_
          rcases List.mem_or_eq_of_mem_set hd with hd | rfl
          · exact underL_mem (by simpa [Dat.under] using ha.under) d hd
          · rw [under_strip1]; exact hcu
        · simp only [Rep]
          refine ⟨vs, hvs, RepL_mk (by rw [List.length_set]; exact RepL_len hl) fun j dj vj hdj hvj => ?_, ?_⟩
          case refine_2 =>
            rw [List.all_eq_true]
            intro d hd
            rcases List.mem_or_eq_of_mem_set hd with hd | rfl
            · exact List.all_eq_true.1 hnt d hd
            · have := List.all_eq_true.1 hnt c (List.mem_of_getElem? hc)
              cases c <;> simp_all [Dat.strip1, Dat.noTup]
          rw [List.getElem?_set] at hdj
          split at hdj
          · rename_i hij
            subst hij
            split at hdj
            · injection hdj with hdj
              subst hdj
              rw [hu] at hvj
              injection hvj with hvj
              subst hvj
              exact Rep_strip1 hur
            · cases hdj
          · obtain ⟨vj', hvj', hr'⟩ := RepL_get hl hdj
            rw [hvj] at hvj'
            injection hvj' with hvj'
            rw [hvj']; exact hr'
      · simp only [Own] at ho ⊢
        intro vs' hvs' j xs uj hxs huj
        rw [List.getElem?_set] at hxs
        split at hxs
        · rename_i hij
          subst hij
          split at hxs
          · injection hxs with hxs
            cases c <;> simp [Dat.strip1] at hxs
          · cases hxs
        · rename_i hij
          have := (ho vs' hvs' j xs uj hxs huj).map φ
          simpa [φ, show ¬ j = i from fun e => hij e.symm] using this
      · simp only [Dat.under]
        refine underL_mk fun d hd => ?_
        rcases List.mem_or_eq_of_mem_set hd with hd | rfl
        · exact underL_mem (by simpa [Dat.under] using ha.under) d hd
        · rw [under_strip1]; exact hcu
    · rw [Env.get_put_other _ _ hqt] at hc'
      obtain ⟨u1, hu1, hr1, ho1, hu2⟩ := h.env q c' hc'
      exact ⟨u1, hu1, Rep_ext (N := σ.length) (Ext.map φ) _ _ hu2 hr1, ho1.map φ (fun j => by simp [φ, hqt]), hu2⟩
  · injection hq with hq
    subst hq
    refine ⟨Rep_ext (N := σ.length) (Ext.map φ) _ _ hcu hur, ?_, hcu⟩
    cases c <;> try trivial
    · have := List.all_eq_true.1 hnt _ (List.mem_of_getElem? hc)
      simp [Dat.noTup] at this
    · rename_i own xs
      cases own
      · trivial
      · simp only [Own] at ho ⊢
        have := (ho vs hvs i xs u hc hu).map φ
        simpa [φ] using this
  · refine h.lb.map φ fun π hπ => ?_
    cases π <;> simp only [φ] <;> try exact hπ
    split
    · exact Nat.le_refl _
    · exact hπ
end
end Go.Mir
/- Operations, second part: cuts, fields, elements; nothing is written. -/
namespace Go.Mir
set_option linter.unusedVariables false
set_option linter.unusedSectionVars false
set_option linter.unusedSimpArgs false

theorem all_len {α : Type} (f : α → List Dat) (n : Nat) (h : ∀ a, (f a).length = n) (l : List α) : ((l.map f).all fun x => x.length == n) = true := by simp [h]

section
variable {P : Program} {N ntmps : Nat} {σ0 : St} {g0 : Gh} {w0 : World} {e : Env} {σ : St} {a : Act} {w : World} {g : Gh} {run : Run} {esc : Nat → Bool} {base : Nat} {dst : Option Nat} {d : Dat} {e1 : Env} {σ1 : St}

theorem Fr.bound (h : Fr N ntmps σ0 g0 w0 e σ a w g) {x : Operand} {m : MArg} {n dflt : Nat} (hx : argOf x = some m) (hb : Go.Mir.bound e dflt (some m) = some n) : ∃ k, a.eval x = .int k (n : Int) := by
  simp only [Go.Mir.bound, Option.bind_eq_some_iff] at hb
  obtain ⟨d, hd, hb⟩ := hb
  have hr := (h.arg hx hd).rep
  cases d <;> simp only [reduceCtorEq] at hb
  split at hb
  · injection hb with hb
    simp only [Rep] at hr
    rename_i k i h0
    exact ⟨k, by rw [hr, ← hb, Int.toNat_of_nonneg h0]⟩
  · cases hb
theorem run_bound {w : World} {k : IntKind} {n y : Nat} {c : BoundsCode} (h : n ≤ y) : (Instr.sliceBound (.int k (n : Int)) y c).run P w = .ok n w := by
  simp [Instr.sliceBound, asIntOf, h]

/-- the three bounds of a cut -/
theorem run_bounds (h : Fr N ntmps σ0 g0 w0 e σ a w g) (sl : Bool) {len cap l hh m : Nat} {lo hi mx : Option Operand} {ml mh mm : Option MArg} (hlo : optOf lo = some ml) (hhi : optOf hi = some mh) (hmx : optOf mx = some mm)
    (hb1 : Go.Mir.bound e 0 ml = some l) (hb2 : Go.Mir.bound e len mh = some hh) (hb3 : Go.Mir.bound e hh mm = some m) (hlh : l ≤ hh) (hhl : hh ≤ len) (hm : m = hh) (hc : len ≤ cap) (hnn : mx.isSome = true → hi.isSome = true) :
    (Instr.sliceBounds sl len cap (lo.map a.eval) (hi.map a.eval) (mx.map a.eval)).run P w = .ok (l, hh, if mx.isSome then hh else cap) w := by
  subst hm
  have L : ∀ (x : Option Operand) (mx : Option MArg) (n dflt : Nat), optOf x = some mx → Go.Mir.bound e dflt mx = some n → (x = none ∧ n = dflt) ∨ ∃ o k, x = some o ∧ a.eval o = .int k (n : Int) := by
    intro x mx n dflt hx hb
    cases x with
    | none =>
      simp only [optOf, Option.some.injEq] at hx
      subst hx
      simp only [Go.Mir.bound, Option.some.injEq] at hb
      exact .inl ⟨rfl, hb.symm⟩
    | some o =>
      simp only [optOf, Option.map_eq_some_iff] at hx
      obtain ⟨mo, hmo, rfl⟩ := hx
      obtain ⟨k, hk⟩ := h.bound hmo hb
      exact .inr ⟨o, k, rfl, hk⟩
  rcases L lo ml l 0 hlo hb1 with ⟨rfl, rfl⟩ | ⟨ol, kl, rfl, el⟩ <;> rcases L hi mh m len hhi hb2 with ⟨rfl, rfl⟩ | ⟨oh, kh, rfl, eh⟩ <;> rcases L mx mm m m hmx hb3 with ⟨rfl, _⟩ | ⟨om, km, rfl, em⟩ <;>
    simp only [Option.isSome_none, Option.isSome_some, Bool.false_eq_true, forall_const, reduceCtorEq, imp_self] at hnn <;>
    simp [Instr.sliceBounds, *, run_bound (P := P) (w := w) hlh, run_bound (P := P) (w := w) (Nat.le_trans hhl hc), run_bound (P := P) (w := w) (Nat.le_refl m), run_bound (P := P) (w := w) (Nat.zero_le _)]

theorem RepRows_cut {b off m : Nat} {xs : List (List Dat)} (hr : RepRows g w b off m xs) (l n : Nat) : RepRows g w b (off + l * m) m ((xs.drop l).take n) := by
  refine RepRows_mk fun i x hx => ?_
  rw [List.getElem?_take] at hx
  split at hx
  · rw [List.getElem?_drop] at hx
    obtain ⟨h1, h2⟩ := RepRows_get hr hx
    refine ⟨h1, ?_⟩
    rwa [show off + l * m + i * m = off + (l + i) * m by rw [Nat.add_mul]; omega]
  · cases hx

theorem underLL_cut {n : Nat} {xs : List (List Dat)} (h : Dat.underLL n xs = true) (l k : Nat) : Dat.underLL n ((xs.drop l).take k) = true :=
  underLL_mk fun d hd => underLL_mem h d (List.mem_of_mem_drop (List.mem_of_mem_take hd))

theorem op_slice (h : Fr N ntmps σ0 g0 w0 e σ a w g) {x : Operand} {lo hi mx : Option Operand} {mx' : MArg} {ml mh mm : Option MArg} (hx : argOf x = some mx') (hlo : optOf lo = some ml) (hhi : optOf hi = some mh) (hmx : optOf mx = some mm)
    {t el esz : Nat} (ht : P.underlying t = some (.slice el)) (hs : sizeP P el = some esz) (hnn : mx.isSome = true → hi.isSome = true)
    (he : evalOp run esc base e σ (.slice esz mx' ml mh mm) = some (d, e1, σ1)) :
    ∃ v, (Instr.sliceAt t (a.eval x) (lo.map a.eval) (hi.map a.eval) (mx.map a.eval)).run P w = .ok v w ∧ Left N σ0 g0 w0 dst d v e1 σ1 a.tmps w g := by
  simp only [evalOp, Option.bind_eq_some_iff] at he
  obtain ⟨dx, hdx, he⟩ := he
  have ha := h.arg hx hdx
  cases dx <;> simp only [reduceCtorEq, Option.bind_eq_some_iff] at he
  rename_i own xs
  obtain ⟨l, hl, hh, hhh, m, hm, he⟩ := he
  split at he
  · rename_i hc
    obtain ⟨hlh, hhl, hmh, hall⟩ := hc
    simp only [Option.some.injEq, Prod.mk.injEq] at he
    obtain ⟨rfl, rfl, rfl⟩ := he
    have hr := ha.rep
    simp only [Rep] at hr
    obtain ⟨A, c, hv, hlc, h0, hrow⟩ := hr
    have hb := run_bounds (P := P) h true hlo hhi hmx hl hhh hm hlh hhl hmh hlc hnn
    simp only [sizeP, Option.map_eq_some_iff] at hs
    obtain ⟨inf, hinf, rfl⟩ := hs
    have hmm : mm.isSome = mx.isSome := by
      cases mx with
      | none => simp only [optOf, Option.some.injEq] at hmx; subst hmx; rfl
      | some o => simp only [optOf, Option.map_eq_some_iff] at hmx; obtain ⟨_, _, rfl⟩ := hmx; rfl
    refine ⟨.slice (if (if mx.isSome then hh else c) = l then A else A.map (·.add (l * inf.size))) (hh - l) ((if mx.isSome then hh else c) - l), ?_, h.left ?_ ?_ ?_⟩
    · simp only [Instr.sliceAt, Instr.slice, Sem.run_bind, run_underlying ht, Result.andThen_ok, hv, hb, sizeOf, typeInfo, run_program, hinf, Sem.run_pure]
    · have hcut : ((xs.drop l).take (hh - l)).length = hh - l := by rw [List.length_take, List.length_drop]; omega
      simp only [Rep]
      refine ⟨_, _, by rw [hcut], ?_, ?_, fun hne => ?_⟩
      · rw [hcut]; split <;> omega
      · intro ho hnil
        rw [hmm] at ho
        rw [hnil] at hcut
        simp only [ho, if_true]
        simpa using hcut.symm
      · have hlt : l < hh := by
          rcases Nat.lt_or_ge l hh with h' | h'
          · exact h'
          · have : hh - l = 0 := by omega
            rw [this] at hne
            simp at hne
        have hxne : xs ≠ [] := by intro e; subst e; simp at hhl; omega
        obtain ⟨b, off, m0, hA, hp, hrows⟩ := hrow hxne
        have hne2 : (if mx.isSome then hh else c) ≠ l := by split <;> omega
        rw [if_neg hne2, hA]
        by_cases hl0 : l = 0
        · subst hl0
          refine ⟨b, off, m0, by simp [Addr.add], ?_, ?_⟩
          · rw [hcut]; exact Nat.le_trans (Nat.add_le_add_left (Nat.mul_le_mul_right _ (by omega)) _) hp
          · have := RepRows_cut hrows 0 (hh - 0)
            simpa using this
        · have hm0 : inf.size = m0 := by
            have h1 := hall.resolve_left hl0
            obtain ⟨x0, hx0⟩ : ∃ x0, xs[0]? = some x0 := by
              cases xs with
              | nil => exact absurd rfl hxne
              | cons y ys => exact ⟨y, rfl⟩
            have h2 := (RepRows_get hrows hx0).1
            have h3 := List.all_eq_true.1 h1 x0 (List.mem_of_getElem? hx0)
            simp only [beq_iff_eq] at h3
            omega
          subst hm0
          refine ⟨b, off + l * inf.size, inf.size, ?_, ?_, RepRows_cut hrows l (hh - l)⟩
          · simp only [Option.map_some, Addr.add_lit]
          · rw [hcut]
            refine Nat.le_trans ?_ hp
            rw [Nat.add_assoc, ← Nat.add_mul]
            exact Nat.add_le_add_left (Nat.mul_le_mul_right _ (by omega)) _
    · intro s _
      rw [hmm]
      cases hmx2 : mx.isSome with
      | false => trivial
      | true =>
        have hcut : ((xs.drop l).take (hh - l)).length = hh - l := by rw [List.length_take, List.length_drop]; omega
        simp only [Own]
        exact ⟨_, _, by rw [hcut], .inl (by rw [hcut]; simp)⟩
    · simp only [Dat.under]
      exact underLL_cut (by simpa [Dat.under] using ha.under) _ _
  · cases he

theorem op_substr (h : Fr N ntmps σ0 g0 w0 e σ a w g) {x : Operand} {lo hi : Option Operand} {mx' : MArg} {ml mh : Option MArg} (hx : argOf x = some mx') (hlo : optOf lo = some ml) (hhi : optOf hi = some mh)
    {t : Nat} (ht : P.underlying t = some .string) (he : evalOp run esc base e σ (.substr mx' ml mh) = some (d, e1, σ1)) :
    ∃ v, (Instr.sliceAt t (a.eval x) (lo.map a.eval) (hi.map a.eval) none).run P w = .ok v w ∧ Left N σ0 g0 w0 dst d v e1 σ1 a.tmps w g := by
  simp only [evalOp, Option.bind_eq_some_iff] at he
  obtain ⟨dx, hdx, he⟩ := he
  have ha := h.arg hx hdx
  cases dx <;> simp only [reduceCtorEq, Option.bind_eq_some_iff] at he
  rename_i s
  obtain ⟨l, hl, hh, hhh, he⟩ := he
  split at he
  · rename_i hc
    obtain ⟨hlh, hhl⟩ := hc
    simp only [Option.some.injEq, Prod.mk.injEq] at he
    obtain ⟨rfl, rfl, rfl⟩ := he
    have hr := ha.rep
    simp only [Rep] at hr
    have hsz : (ByteArray.mk s.toArray).size = s.length := by simp [ByteArray.size]
    have hb := run_bounds (P := P) (cap := s.length) (mx := none) (mm := none) h false hlo hhi rfl hl hhh rfl hlh hhl rfl (Nat.le_refl _) (by simp)
    refine ⟨_, ?_, h.left_flat (d := .str ((s.drop l).take (hh - l))) rfl⟩
    simp only [Option.map_none, Option.isSome_none, Bool.false_eq_true, if_false] at hb
    simp only [Instr.sliceAt, Instr.slice, Sem.run_bind, run_underlying ht, Result.andThen_ok, hr, hsz, hb, Sem.run_pure, Dat.val, Option.isSome_none, Bool.false_eq_true, if_false]
    congr 2
    exact Lib.extract_eq _ _ _
  · cases he

theorem op_fieldAddr (h : Fr N ntmps σ0 g0 w0 e σ a w g) {x : Operand} {mx : MArg} (hx : argOf x = some mx) {t f off n : Nat} {agg : Bool} (hf : fieldP P t f = some (off, n, agg)) (hn : n ≠ 0)
    (he : evalOp run esc base e σ (.fieldAddr off mx) = some (d, e1, σ1)) :
    ∃ v, (Instr.fieldAt t (a.eval x) f).run P w = .ok v w ∧ Left N σ0 g0 w0 dst d v e1 σ1 a.tmps w g := by
  simp only [fieldP] at hf
  split at hf
  · rename_i fs hu
    simp only [Option.bind_eq_some_iff, Option.map_eq_some_iff, Prod.mk.injEq] at hf
    obtain ⟨fld, hfld, n', hn', agg', _, rfl, rfl, rfl⟩ := hf
    simp only [sizeP, Option.map_eq_some_iff] at hn'
    obtain ⟨inf, hinf, rfl⟩ := hn'
    simp only [evalOp, Option.bind_eq_some_iff] at he
    obtain ⟨dx, hdx, he⟩ := he
    have ha := h.arg hx hdx
    have hr := ha.rep
    have step : ∀ b off, a.eval x = .pointer (some ⟨b, off, none⟩) → (Instr.fieldAt t (a.eval x) f).run P w = .ok (.pointer (some ⟨b, off + fld.offset, none⟩)) w := by
      intro b off hv
      simp [Instr.fieldAt, run_underlying hu, hfld, hv, Instr.sureAddr, fieldPlace, sizeOf, typeInfo, hinf, hn, Addr.add_lit]
    cases dx <;> simp only [reduceCtorEq, Option.some.injEq, Prod.mk.injEq] at he
    · obtain ⟨rfl, rfl, rfl⟩ := he
      simp only [Rep] at hr
      exact ⟨_, step _ _ hr, h.left (by simp only [Rep]) (fun _ _ => trivial) (by have := ha.under; simpa [Dat.under] using this)⟩
    · rename_i cs
      split at he
      · rename_i hlt
        simp only [Option.some.injEq, Prod.mk.injEq] at he
        obtain ⟨rfl, rfl, rfl⟩ := he
        simp only [Rep] at hr
        obtain ⟨b, off, hv, hp, hat⟩ := hr
        refine ⟨_, step _ _ hv, h.left ?_ (fun _ _ => trivial) ?_⟩
        · simp only [Rep]
          refine ⟨b, off + fld.offset, rfl, by rw [List.length_drop]; omega, RepAt_mk fun i d hd => ?_⟩
          rw [List.getElem?_drop] at hd
          have := RepAt_get hat hd
          rwa [show off + fld.offset + i = off + (fld.offset + i) by omega]
        · have hu := ha.under
          simp only [Dat.under] at hu ⊢
          exact underL_mk fun d hd => underL_mem hu d (List.mem_of_mem_drop hd)
      · cases he
  · cases hf

theorem Rep_ofCells {agg : Bool} {n : Nat} {cs : List Dat} {vs : List Value} {d : Dat} (hl : RepL g w cs vs) (hc : cs.all Dat.isCell = true) (h : ofCells agg cs = some d) :
    Rep g w d (if agg then .agg vs.toArray else (vs.head?).getD _root_.Go.undef) ∧ (∀ m, Dat.underL m cs = true → d.under m = true) := by
  unfold ofCells at h
  cases agg with
  | true =>
    simp only [if_true, Option.some.injEq] at h
    subst h
    refine ⟨?_, fun m hm => by simp only [Dat.under]; rw [underL_map under_strip1]; exact hm⟩
    simp only [if_true, Rep]
    refine ⟨vs, rfl, RepL_map (fun _ _ => Rep_strip1) hl, ?_⟩
    rw [List.all_map]
    rw [← hc]
    congr 1
    funext d
    exact isCell_strip1 d
  | false =>
    simp only [Bool.false_eq_true, if_false] at h ⊢
    split at h
    · rename_i d'
      injection h with h
      subst h
      simp only [RepL] at hl
      obtain ⟨v, vr, rfl, hv, _⟩ := hl
      exact ⟨by simpa using hv, fun m hm => by simpa [Dat.underL] using hm⟩
    · cases h

theorem RepL_take {cs : List Dat} {vs : List Value} (h : RepL g w cs vs) (off n : Nat) : RepL g w ((cs.drop off).take n) ((vs.drop off).take n) := by
  refine RepL_mk (by have := RepL_len h; simp [this]) fun i d v hd hv => ?_
  rw [List.getElem?_take] at hd hv
  split at hd
  · rename_i hlt
    rw [if_pos hlt] at hv
    rw [List.getElem?_drop] at hd hv
    obtain ⟨v', hv', hr⟩ := RepL_get h hd
    rw [hv] at hv'
    injection hv' with hv'
    rw [hv']; exact hr
  · cases hd

theorem all_take {p : Dat → Bool} {cs : List Dat} (h : cs.all p = true) (off n : Nat) : ((cs.drop off).take n).all p = true := by
  rw [List.all_eq_true] at h ⊢
  exact fun d hd => h d (List.mem_of_mem_drop (List.mem_of_mem_take hd))
theorem underL_take {m : Nat} {cs : List Dat} (h : Dat.underL m cs = true) (off n : Nat) : Dat.underL m ((cs.drop off).take n) = true :=
  underL_mk fun d hd => underL_mem h d (List.mem_of_mem_drop (List.mem_of_mem_take hd))

/-- the types' word on one cell: the loader's check gives it; asked of each type that is met -/
def oneP (P : Program) (t : TypeId) (agg : Bool) (n : Nat) : Prop := aggP P t = some agg ∧ sizeP P t = some n ∧ (agg = false → n = 1)

theorem op_field (h : Fr N ntmps σ0 g0 w0 e σ a w g) {x : Operand} {mx : MArg} (hx : argOf x = some mx) {t f off n : Nat} {agg : Bool} (hf : fieldP P t f = some (off, n, agg)) (h1 : agg = false → n = 1)
    (he : evalOp run esc base e σ (.field agg off n mx) = some (d, e1, σ1)) :
    ∃ v, (Instr.field t (a.eval x) f).run P w = .ok v w ∧ Left N σ0 g0 w0 dst d v e1 σ1 a.tmps w g := by
  simp only [fieldP] at hf
  split at hf
  · rename_i fs hu
    simp only [Option.bind_eq_some_iff, Option.map_eq_some_iff, Prod.mk.injEq] at hf
    obtain ⟨fld, hfld, n', hn', agg', hagg, rfl, rfl, rfl⟩ := hf
    simp only [evalOp, Option.bind_eq_some_iff] at he
    obtain ⟨dx, hdx, he⟩ := he
    have ha := h.arg hx hdx
    have hr := ha.rep
    cases dx <;> simp only [reduceCtorEq] at he
    rename_i cs
    split at he
    · rename_i hle
      simp only [Option.bind_eq_some_iff, Option.some.injEq, Prod.mk.injEq] at he
      obtain ⟨d', hd', rfl, rfl, rfl⟩ := he
      simp only [Rep] at hr
      obtain ⟨vs, hv, hl, hcell⟩ := hr
      obtain ⟨r1, r2⟩ := Rep_ofCells (n := n') (RepL_take hl fld.offset n') (all_take hcell _ _) hd'
      refine ⟨_, ?_, h.left (Rep_strip r1) (fun _ _ => Own_strip) ?_⟩
      · have := run_part (P := P) (w := w) hagg (fun _ => hn') h1 vs fld.offset (by rw [RepL_len hl]; exact hle)
        simp only [Instr.field, Sem.run_bind, run_underlying hu, Result.andThen_ok, hfld, hv, asAgg, Sem.run_pure, this]
      · rw [under_strip]
        exact r2 _ (underL_take (by simpa [Dat.under] using ha.under) _ _)
    · cases he
  · cases hf

theorem op_index (h : Fr N ntmps σ0 g0 w0 e σ a w g) {x i : Operand} {mx mi : MArg} (hx : argOf x = some mx) (hi : argOf i = some mi) {t el esz : Nat} (ht : P.underlying t = some (.slice el)) (hs : sizeP P el = some esz)
    (he : evalOp run esc base e σ (.index esz mx mi) = some (d, e1, σ1)) :
    ∃ v, (Instr.indexAt t (a.eval x) (a.eval i)).run P w = .ok v w ∧ Left N σ0 g0 w0 dst d v e1 σ1 a.tmps w g := by
  simp only [evalOp, Option.bind_eq_some_iff] at he
  obtain ⟨dx, hdx, di, hdi, he⟩ := he
  have ha := h.arg hx hdx
  have hai := (h.arg hi hdi).rep
  have hr := ha.rep
  cases dx <;> cases di <;> simp only [reduceCtorEq] at he
  rename_i own xs k n
  split at he
  · rename_i h0
    simp only [Option.bind_eq_some_iff] at he
    obtain ⟨cs, hcs, he⟩ := he
    split at he
    · rename_i hc
      obtain ⟨hlen, hpos⟩ := hc
      simp only [Option.some.injEq, Prod.mk.injEq] at he
      obtain ⟨rfl, rfl, rfl⟩ := he
      simp only [Rep] at hr hai
      obtain ⟨A, c, hv, hlc, _, hrow⟩ := hr
      have hlt : n.toNat < xs.length := (List.getElem?_eq_some_iff.1 hcs).1
      obtain ⟨b, off, m, hA, hp, hrows⟩ := hrow (by intro e; subst e; simp at hlt)
      obtain ⟨hm, hat⟩ := RepRows_get hrows hcs
      simp only [sizeP, Option.map_eq_some_iff] at hs
      obtain ⟨inf, hinf, hsz⟩ := hs
      have hmm : inf.size = m := by omega
      refine ⟨.pointer (some ⟨b, off + n.toNat * m, none⟩), ?_, h.left ?_ (fun _ _ => trivial) ?_⟩
      · have hin : 0 ≤ n ∧ n < (xs.length : Int) := ⟨h0, by omega⟩
        simp only [Instr.indexAt, hai, asIntOf, hv, Sem.run_bind, Sem.run_pure, Result.andThen_ok, run_underlying ht, hA, hin, and_self, if_true, sizeOf, typeInfo, run_program, hinf, Addr.add_lit, hmm]
      · simp only [Rep]
        refine ⟨b, off + n.toNat * m, rfl, ?_, hat⟩
        rw [hm]
        have : (n.toNat + 1) * m ≤ xs.length * m := Nat.mul_le_mul_right _ hlt
        rw [Nat.add_mul] at this
        omega
      · have hu := ha.under
        simp only [Dat.under] at hu ⊢
        exact underLL_mem hu cs (List.mem_of_getElem? hcs)
    · cases he
  · cases he

theorem op_indexArr (h : Fr N ntmps σ0 g0 w0 e σ a w g) {x i : Operand} {mx mi : MArg} (hx : argOf x = some mx) (hi : argOf i = some mi) {t el esz len : Nat} (ht : P.underlying t = some (.array len el)) (hs : sizeP P el = some esz)
    (he : evalOp run esc base e σ (.indexArr len esz mx mi) = some (d, e1, σ1)) :
    ∃ v, (Instr.indexAt t (a.eval x) (a.eval i)).run P w = .ok v w ∧ Left N σ0 g0 w0 dst d v e1 σ1 a.tmps w g := by
  simp only [evalOp, Option.bind_eq_some_iff] at he
  obtain ⟨dx, hdx, di, hdi, he⟩ := he
  have ha := h.arg hx hdx
  have hai := (h.arg hi hdi).rep
  have hr := ha.rep
  simp only [sizeP, Option.map_eq_some_iff] at hs
  obtain ⟨inf, hinf, hsz⟩ := hs
  have step : ∀ b off k n, a.eval x = .pointer (some ⟨b, off, none⟩) → a.eval i = .int k n → 0 ≤ n ∧ n < (len : Int) → (Instr.indexAt t (a.eval x) (a.eval i)).run P w = .ok (.pointer (some ⟨b, off + n.toNat * esz, none⟩)) w := by
    intro b off k n hv hi hin
    simp only [Instr.indexAt, hi, asIntOf, hv, Sem.run_bind, Sem.run_pure, Result.andThen_ok, run_underlying ht, Instr.sureAddr, hin, and_self, if_true, sizeOf, typeInfo, run_program, hinf, hsz, Addr.add_lit]
  cases dx <;> cases di <;> simp only [reduceCtorEq] at he
  · rename_i id off k n
    split at he
    · rename_i hin
      simp only [Option.some.injEq, Prod.mk.injEq] at he
      obtain ⟨rfl, rfl, rfl⟩ := he
      simp only [Rep] at hr hai
      exact ⟨_, step _ _ _ _ hr hai hin, h.left (by simp only [Rep]) (fun _ _ => trivial) (by have := ha.under; simpa [Dat.under] using this)⟩
    · cases he
  · rename_i cs k n
    split at he
    · rename_i hin
      obtain ⟨h1, h2, hlt⟩ := hin
      simp only [Option.some.injEq, Prod.mk.injEq] at he
      obtain ⟨rfl, rfl, rfl⟩ := he
      simp only [Rep] at hr hai
      obtain ⟨b, off, hv, hp, hat⟩ := hr
      refine ⟨_, step _ _ _ _ hv hai ⟨h1, h2⟩, h.left ?_ (fun _ _ => trivial) ?_⟩
      · simp only [Rep]
        refine ⟨b, off + n.toNat * esz, rfl, by rw [List.length_drop]; omega, RepAt_mk fun i d hd => ?_⟩
        rw [List.getElem?_drop] at hd
        have := RepAt_get hat hd
        rwa [show off + n.toNat * esz + i = off + (n.toNat * esz + i) by omega]
      · have hu := ha.under
        simp only [Dat.under] at hu ⊢
        exact underL_mk fun d hd => underL_mem hu d (List.mem_of_mem_drop hd)
    · cases he

theorem op_at (h : Fr N ntmps σ0 g0 w0 e σ a w g) {x i : Operand} {mx mi : MArg} (hx : argOf x = some mx) (hi : argOf i = some mi) {t : Nat} (ht : P.underlying t = some .string)
    (he : evalOp run esc base e σ (.at mx mi) = some (d, e1, σ1)) :
    ∃ v, (Instr.index t (a.eval x) (a.eval i)).run P w = .ok v w ∧ Left N σ0 g0 w0 dst d v e1 σ1 a.tmps w g := by
  simp only [evalOp, Option.bind_eq_some_iff] at he
  obtain ⟨dx, hdx, di, hdi, he⟩ := he
  have hax := (h.arg hx hdx).rep
  have hai := (h.arg hi hdi).rep
  cases dx <;> cases di <;> simp only [reduceCtorEq] at he
  rename_i s k n
  split at he
  · rename_i h0
    simp only [Option.bind_eq_some_iff, Option.some.injEq, Prod.mk.injEq] at he
    obtain ⟨c, hc, rfl, rfl, rfl⟩ := he
    simp only [Rep] at hax hai
    refine ⟨_, ?_, h.left_flat (d := .int .u8 c.toNat) rfl⟩
    have hg : (ByteArray.mk s.toArray)[n.toNat]? = some c := by
      have hlt : n.toNat < s.length := (List.getElem?_eq_some_iff.1 hc).1
      have hlt2 : n.toNat < (ByteArray.mk s.toArray).size := by simpa [ByteArray.size] using hlt
      rw [_root_.Go.ByteArray.getElem?_lt' _ _ hlt2]
      have : (ByteArray.mk s.toArray)[n.toNat] = s[n.toNat] := rfl
      rw [this]
      exact (List.getElem?_eq_getElem hlt).symm.trans hc
    simp only [Instr.index, hai, hax, asIntOf, Sem.run_bind, Sem.run_pure, Result.andThen_ok, run_underlying ht, h0, if_true, hg, Dat.val]
  · cases he

theorem op_len_slice (h : Fr N ntmps σ0 g0 w0 e σ a w g) {x : Operand} {mx : MArg} (hx : argOf x = some mx) {t ty el : Nat} (ht : P.underlying t = some (.slice el))
    (he : evalOp run esc base e σ (.len false mx) = some (d, e1, σ1)) :
    ∃ v, (Builtin.len_ #[t] ty #[a.eval x]).run P w = .ok v w ∧ Left N σ0 g0 w0 dst d v e1 σ1 a.tmps w g := by
  simp only [evalOp, Option.bind_eq_some_iff] at he
  obtain ⟨dx, hdx, he⟩ := he
  have hax := (h.arg hx hdx).rep
  cases dx <;> simp only [reduceCtorEq, Option.some.injEq, Prod.mk.injEq] at he
  obtain ⟨rfl, rfl, rfl⟩ := he
  rename_i own xs
  simp only [Rep] at hax
  obtain ⟨A, c, hv, _⟩ := hax
  refine ⟨_, ?_, h.left_flat (d := .int .i64 xs.length) rfl⟩
  simp [Builtin.len_, run_underlying ht, hv, goInt, Dat.val]
theorem op_len_str (h : Fr N ntmps σ0 g0 w0 e σ a w g) {x : Operand} {mx : MArg} (hx : argOf x = some mx) {t ty : Nat} (ht : P.underlying t = some .string)
    (he : evalOp run esc base e σ (.len true mx) = some (d, e1, σ1)) :
    ∃ v, (Builtin.len_ #[t] ty #[a.eval x]).run P w = .ok v w ∧ Left N σ0 g0 w0 dst d v e1 σ1 a.tmps w g := by
  simp only [evalOp, Option.bind_eq_some_iff] at he
  obtain ⟨dx, hdx, he⟩ := he
  have hax := (h.arg hx hdx).rep
  cases dx <;> simp only [reduceCtorEq, Option.some.injEq, Prod.mk.injEq] at he
  obtain ⟨rfl, rfl, rfl⟩ := he
  rename_i s
  simp only [Rep] at hax
  refine ⟨_, ?_, h.left_flat (d := .int .i64 s.length) rfl⟩
  have hsz : (ByteArray.mk s.toArray).size = s.length := by simp [ByteArray.size]
  simp [Builtin.len_, run_underlying ht, hax, hsz, goInt, Dat.val]

theorem op_min (h : Fr N ntmps σ0 g0 w0 e σ a w g) {x y : Operand} {mx my : MArg} (hx : argOf x = some mx) (hy : argOf y = some my) {ts : Array TypeId} {ty : Nat}
    (he : evalOp run esc base e σ (.min2 mx my) = some (d, e1, σ1)) :
    ∃ v, (Builtin.min_ ts ty #[a.eval x, a.eval y]).run P w = .ok v w ∧ Left N σ0 g0 w0 dst d v e1 σ1 a.tmps w g := by
  simp only [evalOp, Option.bind_eq_some_iff] at he
  obtain ⟨dx, hdx, dy, hdy, he⟩ := he
  have hax := (h.arg hx hdx).rep
  have hay := (h.arg hy hdy).rep
  cases dx <;> cases dy <;> simp only [reduceCtorEq] at he
  split at he
  · rename_i hk
    subst hk
    simp only [Option.some.injEq, Prod.mk.injEq] at he
    obtain ⟨rfl, rfl, rfl⟩ := he
    simp only [Rep] at hax hay
    rw [hax, hay]
    exact ⟨_, run_min_int2 w _ _ _ _ _ _, h.left_flat rfl⟩
  · cases he
theorem op_max (h : Fr N ntmps σ0 g0 w0 e σ a w g) {x y : Operand} {mx my : MArg} (hx : argOf x = some mx) (hy : argOf y = some my) {ts : Array TypeId} {ty : Nat}
    (he : evalOp run esc base e σ (.max2 mx my) = some (d, e1, σ1)) :
    ∃ v, (Builtin.max_ ts ty #[a.eval x, a.eval y]).run P w = .ok v w ∧ Left N σ0 g0 w0 dst d v e1 σ1 a.tmps w g := by
  simp only [evalOp, Option.bind_eq_some_iff] at he
  obtain ⟨dx, hdx, dy, hdy, he⟩ := he
  have hax := (h.arg hx hdx).rep
  have hay := (h.arg hy hdy).rep
  cases dx <;> cases dy <;> simp only [reduceCtorEq] at he
  split at he
  · rename_i hk
    subst hk
    simp only [Option.some.injEq, Prod.mk.injEq] at he
    obtain ⟨rfl, rfl, rfl⟩ := he
    simp only [Rep] at hax hay
    rw [hax, hay]
    refine ⟨_, run_max_int2 w _ _ _ _ _ _, ?_⟩
    exact h.left_flat rfl
  · cases he
end
end Go.Mir
/- Operations, third part: variables: made, read, written. -/
namespace Go.Mir
set_option linter.unusedVariables false
set_option linter.unusedSectionVars false
set_option linter.unusedSimpArgs false

section
variable {P : Program} {N ntmps : Nat} {σ0 : St} {g0 : Gh} {w0 : World} {e : Env} {σ : St} {a : Act} {w : World} {g : Gh} {run : Run} {esc : Nat → Bool} {base : Nat} {dst : Option Nat} {d : Dat} {e1 : Env} {σ1 : St}

theorem cell_oneCell {u : Value} {d : Dat} (hc : d.isCell = true) (hr : Rep g w d u) : u.oneCell' = true := by
  cases d <;> simp only [Dat.isCell, Bool.false_eq_true] at hc <;> simp only [Rep] at hr
  all_goals first
    | (subst hr; rfl)
    | (obtain ⟨_, _, rfl, _⟩ := hr; rfl)
    | (obtain ⟨_, rfl, _⟩ := hr; rfl)

/-- cells that lie in a row are read -/
theorem run_loadVar_at {t : TypeId} {agg : Bool} {n b off : Nat} {vs : List Value} (ha : aggP P t = some agg) (hn : sizeP P t = some n) (h1 : agg = false → n = 1) (hl : vs.length = n)
    (hc : ∀ i v, vs[i]? = some v → w.cell? ⟨b, off + i, none⟩ = some v) :
    (loadVar t ⟨b, off, none⟩).run P w = .ok (if agg then .agg vs.toArray else (vs.head?).getD _root_.Go.undef) w := by
  simp only [aggP, Option.map_eq_some_iff] at ha
  obtain ⟨dsc, hd, ha⟩ := ha
  simp only [sizeP, Option.map_eq_some_iff] at hn
  obtain ⟨inf, hi, hn⟩ := hn
  cases agg with
  | true =>
    have hag : (isAgg t).run P w = .ok true w := by
      simp only [isAgg, Sem.run_bind, run_underlying hd, Result.andThen_ok]
      split at ha <;> simp_all
    have hlc := run_loadCells_list (P := P) w ⟨b, off, none⟩ vs (fun j v hv => by rw [Addr.add_lit]; exact hc j v hv)
    rw [hl, ← hn] at hlc
    simp only [loadVar, Sem.run_bind, hag, Result.andThen_ok, if_true, sizeOf, typeInfo, run_program, hi, Sem.run_pure, hlc]
  | false =>
    have hag : (isAgg t).run P w = .ok false w := by
      simp only [isAgg, Sem.run_bind, run_underlying hd, Result.andThen_ok]
      split at ha <;> simp_all
    rw [h1 rfl] at hl
    match vs, hl with
    | [v], _ =>
      have := hc 0 v rfl
      simp only [Nat.add_zero] at this
      simp [loadVar, hag, this]

theorem StOk.cell (h : StOk g w σ) {id : Nat} {c : List Dat} (hc : St.get σ id = some c) : ∃ vs T, w.heap[g.ρ id]? = some (.cells (vs : List Value).toArray T (0, 0)) ∧ RepL g w c vs ∧ (∀ i v, vs[i]? = some v → w.cell? ⟨g.ρ id, i, none⟩ = some v) ∧
    ∀ (i : Nat) d v, c[i]? = some d → vs[i]? = some v → d.isCell = true ∧ Own g w (fun _ => .var id i) d v := by
  obtain ⟨vs, T, hh, hl, ho⟩ := h.var id c hc
  exact ⟨vs, T, hh, hl, fun i v hv => by rw [cell_of_row w _ _ _ _ _ hh]; simpa using hv, ho⟩

theorem StOk.cells_all (h : StOk g w σ) {id : Nat} {c : List Dat} (hc : St.get σ id = some c) : c.all Dat.isCell = true := by
  obtain ⟨vs, T, hh, hl, _, ho⟩ := h.cell hc
  rw [List.all_eq_true]
  intro d hd
  obtain ⟨i, hi⟩ := List.getElem?_of_mem hd
  obtain ⟨v, hv, _⟩ := RepL_get hl hi
  exact (ho i d v hi hv).1

/-- What a pointer leads to, read. -/
theorem Fr.load (h : Fr N ntmps σ0 g0 w0 e σ a w g) {p : Dat} {v : Value} (hr : Rep g w p v) (hu : p.under σ.length = true) {t : TypeId} {agg : Bool} {n : Nat} (ha : aggP P t = some agg) (hn : sizeP P t = some n) (h1 : agg = false → n = 1)
    {d : Dat} (hd : loadD agg n σ p = some d) : ∃ u, (Instr.loadAt t v).run P w = .ok u w ∧ Rep g w d u ∧ d.under σ.length = true ∧
      (∀ id off, p = .ptr id off → agg = false → ∃ (c : List Dat) (vs : List Value), St.get σ id = some c ∧ c[off]? = some d ∧ vs[off]? = some u ∧ Own g w (fun _ => .var id off) d u) := by
  cases p <;> simp only [loadD, reduceCtorEq, Option.bind_eq_some_iff] at hd
  · rename_i id off
    obtain ⟨c, hc, hd⟩ := hd
    split at hd
    · rename_i hle
      simp only [Rep] at hr
      subst hr
      obtain ⟨vs, T, hh, hl, hcell, ho⟩ := h.st.cell hc
      obtain ⟨r1, r2⟩ := Rep_ofCells (n := n) (RepL_take hl off n) (all_take (h.st.cells_all hc) off n) hd
      have hlen := RepL_len hl
      refine ⟨_, ?_, r1, r2 _ (underL_take (h.st.under id c hc) off n), ?_⟩
      · simp only [Instr.loadAt, Instr.sureAddr, Sem.run_bind, Sem.run_pure, Result.andThen_ok]
        refine run_loadVar_at ha hn h1 (by rw [List.length_take, List.length_drop]; omega) fun i v hv => ?_
        rw [List.getElem?_take] at hv
        split at hv
        · rw [List.getElem?_drop] at hv
          exact hcell _ _ hv
        · cases hv
      · intro id' off' hp hag
        injection hp with e1 e2
        subst e1 e2 hag
        have hn1 := h1 rfl
        subst hn1
        have hlt : off < c.length := by omega
        have hltv : off < vs.length := by omega
        simp only [ofCells, Bool.false_eq_true, if_false] at hd ⊢
        rw [List.drop_eq_getElem_cons hlt] at hd
        simp only [List.take_succ_cons, List.take_zero, Option.some.injEq] at hd
        have e3 : ((List.take 1 (List.drop off vs)).head?).getD _root_.Go.undef = vs[off] := by
          rw [List.drop_eq_getElem_cons hltv]; rfl
        rw [e3]
        have hcd : c[off]? = some d := by rw [List.getElem?_eq_getElem hlt, hd]
        have hvd : vs[off]? = some vs[off] := List.getElem?_eq_getElem hltv
        exact ⟨c, vs, hc, hcd, hvd, (ho off d _ hcd hvd).2⟩
    · cases hd
  · rename_i cs
    split at hd
    · rename_i hle
      simp only [Rep] at hr
      obtain ⟨b, off, rfl, hp, hat⟩ := hr
      have hex : ∃ vs : List Value, vs.length = n ∧ RepL g w (cs.take n) vs ∧ ∀ i v, vs[i]? = some v → w.cell? ⟨b, off + i, none⟩ = some v := by
        have key : ∀ i, i < n → ∃ u, w.cell? ⟨b, off + i, none⟩ = some u := fun i hi => by
          obtain ⟨u, hu, _⟩ := RepAt_get hat (List.getElem?_eq_getElem (show i < cs.length by omega))
          exact ⟨u, hu⟩
        refine ⟨(List.range n).map fun i => (w.cell? ⟨b, off + i, none⟩).getD _root_.Go.undef, by simp, RepL_mk (by simp; omega) fun i d v hd hv => ?_, fun i v hv => ?_⟩
        · rw [List.getElem?_take] at hd
          split at hd
          · rename_i hi
            obtain ⟨u, hu, _, hru⟩ := RepAt_get hat hd
            simp only [List.getElem?_map, List.getElem?_range hi, Option.map_some, Option.some.injEq] at hv
            rw [hu] at hv
            simp only [Option.getD_some] at hv
            subst hv
            exact hru
          · cases hd
        · by_cases hi : i < n
          · obtain ⟨u, hu⟩ := key i hi
            simp only [List.getElem?_map, List.getElem?_range hi, Option.map_some, Option.some.injEq] at hv
            rw [hu] at hv ⊢
            simpa using hv
          · rw [List.getElem?_eq_none (by simp; omega)] at hv
            cases hv
      obtain ⟨vs, hvl, hrl, hcell⟩ := hex
      have hall : (cs.take n).all Dat.isCell = true := by
        rw [List.all_eq_true]
        intro d hd
        obtain ⟨i, hi⟩ := List.getElem?_of_mem (List.mem_of_mem_take hd)
        exact (RepAt_get hat hi).choose_spec.2.1
      obtain ⟨r1, r2⟩ := Rep_ofCells (n := n) hrl hall hd
      refine ⟨_, ?_, r1, r2 _ (by simpa using underL_take (by simpa [Dat.under] using hu) 0 n), fun id off hp => by cases hp⟩
      simp only [Instr.loadAt, Instr.sureAddr, Sem.run_bind, Sem.run_pure, Result.andThen_ok]
      exact run_loadVar_at ha hn h1 hvl hcell
    · cases hd

/-- var id off's room goes to slot s -/
def varTo (N id off s : Nat) : Place → Place
  | .var i j => if i = id ∧ j = off then .slot N s 0 else .var i j
  | π => π
def toVar (N t id off : Nat) : Place → Place
  | .slot m q i => if m = N ∧ q = t ∧ i = 0 then .var id off else .slot m q i
  | π => π

theorem LB.varTo {id off s : Nat} (h : LB N g) : LB N (g.map (Go.Mir.varTo N id off s)) := by
  refine h.map _ fun π hπ => ?_
  cases π <;> simp only [Go.Mir.varTo] <;> try exact hπ
  split
  · exact Nat.le_refl _
  · exact hπ
theorem LB.toVar {t id off : Nat} (h : LB N g) : LB N (g.map (Go.Mir.toVar N t id off)) := by
  refine h.map _ fun π hπ => ?_
  cases π <;> simp only [Go.Mir.toVar] <;> try exact hπ
  split
  · trivial
  · exact hπ
theorem keeps_varTo {id off s : Nat} : Keeps N (Go.Mir.varTo N id off s) := ⟨fun _ _ _ _ => rfl, fun _ _ _ => rfl⟩
theorem keeps_toVar {t id off : Nat} : Keeps N (Go.Mir.toVar N t id off) := ⟨fun m s i hm => by simp only [Go.Mir.toVar]; rw [if_neg (by omega)], fun _ _ _ => rfl⟩

theorem EnvOk.map (h : EnvOk N σ.length g w e a.tmps) (φ : Place → Place) (hφ : ∀ s i, φ (.slot N s i) = .slot N s i) : EnvOk N σ.length (g.map φ) w e a.tmps := by
  intro s d hd
  obtain ⟨v, hv, hr, ho, hu⟩ := h s d hd
  exact ⟨v, hv, Rep_ext (N := σ.length) (Ext.map φ) _ _ hu hr, ho.map φ (fun i => hφ s i), hu⟩

/-- the variables with one of them told anew -/
theorem StOk.set {g' : Gh} {w' : World} (h : StOk g w σ) {id : Nat} (hid : id < σ.length) {c : List Dat}
    (hext : Ext σ.length g w g' w') (hsize : w.heap.size ≤ w'.heap.size)
    (hv : ∃ vs T, w'.heap[g'.ρ id]? = some (.cells (vs : List Value).toArray T (0, 0)) ∧ RepL g' w' c vs ∧ ∀ (i : Nat) d v, c[i]? = some d → vs[i]? = some v → d.isCell = true ∧ Own g' w' (fun _ => .var id i) d v)
    (hu : Dat.underL σ.length c = true)
    (hother : ∀ j, j < σ.length → j ≠ id → w'.heap[g.ρ j]? = w.heap[g.ρ j]?)
    (hown : ∀ j i d v, j < σ.length → j ≠ id → Own g w (fun _ => .var j i) d v → Own g' w' (fun _ => .var j i) d v)
    (hfree : ∀ j, j < σ.length → g'.prot (g.ρ j) = 0 ∧ g'.lock (g.ρ j) = none)
    (hfresh : ∀ b, w'.heap.size ≤ b → g'.prot b = 0 ∧ g'.lock b = none) : StOk g' w' (St.set σ id c) := by
  have hl := St.set_length σ id c
  refine ⟨fun j cj hj => ?_, fun j cj hj => ?_, ?_, ?_, hfresh⟩
  · by_cases hji : j = id
    · subst hji
      rw [St.get_set_same c hid] at hj
      injection hj with hj
      subst hj
      exact hv
    · rw [St.get_set_other c hji] at hj
      obtain ⟨vs, T, hh, hrl, ho⟩ := h.var j cj hj
      have hjl := St.get_lt hj
      refine ⟨vs, T, ?_, RepL_ext hext cj vs (h.under j cj hj) hrl, fun i d v hd hvi => ?_⟩
      · rw [hext.rho j hjl, hother j hjl hji]
        exact hh
      · obtain ⟨k1, k2⟩ := ho i d v hd hvi
        exact ⟨k1, hown j i d v hjl hji k2⟩
  · rw [hl]
    by_cases hji : j = id
    · subst hji
      rw [St.get_set_same c hid] at hj
      injection hj with hj
      subst hj
      exact hu
    · rw [St.get_set_other c hji] at hj
      exact h.under j cj hj
  · intro i j hi hj hij
    rw [hl] at hi hj
    rw [hext.rho i hi, hext.rho j hj] at hij
    exact h.inj i j hi hj hij
  · intro j hj
    rw [hl] at hj
    rw [hext.rho j hj]
    exact hfree j hj

theorem op_load (h : Fr N ntmps σ0 g0 w0 e σ a w g) (h0 : LB (N - 1) g0) (hN : 0 < N) {x : Operand} {mx : MArg} (hx : argOf x = some mx) {t : TypeId} {mv agg : Bool} {n s : Nat} (ha : aggP P t = some agg) (hn : sizeP P t = some n) (h1 : agg = false → n = 1) (hmv : mv = true → agg = false)
    (he : evalOp run esc base e σ (.load mv agg n mx) = some (d, e1, σ1)) :
    ∃ v g', (Instr.loadAt t (a.eval x)).run P w = .ok v w ∧ Left N σ0 g0 w0 (some s) d v e1 σ1 a.tmps w g' := by
  simp only [evalOp, Option.bind_eq_some_iff] at he
  obtain ⟨p, hp, d', hd', he⟩ := he
  have hax := h.arg hx hp
  obtain ⟨u, hrun, hr, hu, hptr⟩ := h.load hax.rep hax.under ha hn h1 hd'
  have plain : (d = d'.strip ∧ e1 = e ∧ σ1 = σ) → ∃ v g', (Instr.loadAt t (a.eval x)).run P w = .ok v w ∧ Left N σ0 g0 w0 (some s) d v e1 σ1 a.tmps w g' := by
    rintro ⟨rfl, rfl, rfl⟩
    exact ⟨u, g, hrun, h.left (Rep_strip hr) (fun _ _ => Own_strip) (by rw [under_strip]; exact hu)⟩
  split at he
  · rename_i hmv1
    split at he
    · rename_i id off
      simp only [Option.bind_eq_some_iff, Option.some.injEq, Prod.mk.injEq] at he
      obtain ⟨c, hc, rfl, rfl, rfl⟩ := he
      obtain ⟨c', vs', hc', hcd, _, ho⟩ := hptr id off rfl (hmv hmv1)
      rw [hc] at hc'
      injection hc' with hc'
      subst hc'
      have hid := St.get_lt hc
      have hset := St.set_length σ id (c.take off ++ d'.strip1 :: c.drop (off + 1))
      have hofflt : off < c.length := (List.getElem?_eq_some_iff.1 hcd).1
      have hc2 : c.take off ++ d'.strip1 :: c.drop (off + 1) = c.set off d'.strip1 := (List.set_eq_take_append_cons_drop).symm ▸ by simp [hofflt]
      rw [hc2] at hset ⊢
      obtain ⟨vs, T, hh, hl, hcell, hov⟩ := h.st.cell hc
      have hdc : d'.isCell = true := by
        have := h.st.cells_all hc
        exact List.all_eq_true.1 this d' (List.mem_of_getElem? hcd)
      have hφv : ∀ j i, (j, i) ≠ (id, off) → varTo N id off s (.var j i) = .var j i := fun j i hji => by
        simp only [varTo]
        rw [if_neg (fun e => hji (by rw [e.1, e.2]))]
      refine ⟨u, g.map (varTo N id off s), hrun, ⟨fun q cq hq _ => ?_, fun q hq => ?_, ?_, ?_, h.lb.varTo⟩⟩
      · rw [hset]
        exact h.env.map _ (fun _ _ => rfl) q cq hq
      · injection hq with hq
        subst hq
        rw [hset]
        refine ⟨Rep_ext (N := σ.length) (Ext.map _) _ _ hu hr, ?_, hu⟩
        have hnt : ∀ cs, d' ≠ .tup cs := by rintro cs rfl; simp [Dat.isCell] at hdc
        have hm := ho.map (π' := fun _ => .slot N s 0) (varTo N id off s) (fun _ => by simp [varTo])
        clear plain hc2 hset hov
        cases d' with
        | tup cs => exact absurd rfl (hnt cs)
        | slice own xs =>
          cases own
          · trivial
          · exact hm
        | _ => trivial
      · refine h.st.set hid (Ext.map _) (Nat.le_refl _) ⟨vs, T, hh, ?_, fun i di vi hdi hvi => ?_⟩ ?_ (fun _ _ _ => rfl) ?_ ?_ ?_
        · refine RepL_mk (by rw [List.length_set]; exact RepL_len hl) fun i di vi hdi hvi => ?_
          rw [List.getElem?_set] at hdi
          obtain ⟨vi', hvi', hri⟩ : ∃ v', vs[i]? = some v' ∧ Rep g w di v' := by
            split at hdi
            · rename_i hij
              subst hij
              simp only [hofflt, if_true, Option.some.injEq] at hdi
              subst hdi
              obtain ⟨v', hv', hr'⟩ := RepL_get hl hcd
              exact ⟨v', hv', Rep_strip1 hr'⟩
            · exact RepL_get hl hdi
          rw [hvi] at hvi'
          injection hvi' with hvi'
          subst hvi'
          refine Rep_ext (N := σ.length) (Ext.map _) _ _ ?_ hri
          split at hdi
          · simp only [hofflt, if_true, Option.some.injEq] at hdi
            rw [← hdi, under_strip1]
            exact hu
          · exact underL_get (h.st.under id c hc) hdi
        · rw [List.getElem?_set] at hdi
          split at hdi
          · simp only [hofflt, if_true, Option.some.injEq] at hdi
            subst hdi
            exact ⟨by rw [isCell_strip1]; exact hdc, Own_strip1 (by rintro cs rfl; simp [Dat.isCell] at hdc)⟩
          · rename_i hij
            obtain ⟨k1, k2⟩ := hov i di vi hdi hvi
            exact ⟨k1, k2.map _ (fun _ => hφv id i (by simp; exact fun e => hij e.symm))⟩
        · refine underL_mk fun d hd => ?_
          rcases List.mem_or_eq_of_mem_set hd with hd | rfl
          · exact underL_mem (h.st.under id c hc) d hd
          · rw [under_strip1]; exact hu
        · intro j i dj vj hj hji hoj
          exact hoj.map _ (fun _ => hφv j i (by simp [hji]))
        · intro j hj
          exact ⟨(h.st.free j hj).1, by simp [Gh.map, (h.st.free j hj).2]⟩
        · intro b hb
          exact ⟨(h.st.fresh b hb).1, by simp [Gh.map, (h.st.fresh b hb).2]⟩
      · have := h.ch.map h0 hN (varTo N id off s) keeps_varTo
        refine ⟨this.os, this.tape, this.output, this.size, this.ext, by rw [hset]; exact this.len, this.keep, fun j hj1 hj2 => this.new j hj1 (by rw [hset] at hj2; exact hj2), fun n hn hlo j cj hj hcj => ?_⟩
        by_cases hji : j = id
        · subst hji
          rw [St.get_set_same _ hid] at hcj
          injection hcj with hcj
          subst hcj
          have hc0 := this.low n hn hlo j c hj hc
          refine underL_mk fun d hd => ?_
          rcases List.mem_or_eq_of_mem_set hd with hd | rfl
          · exact underL_mem hc0 d hd
          · rw [under_strip1]; exact underL_get hc0 hcd
        · rw [St.get_set_other _ hji] at hcj
          exact this.low n hn hlo j cj hj hcj
    · simp only [Option.some.injEq, Prod.mk.injEq] at he
      exact plain ⟨he.1.symm, he.2.1.symm, he.2.2.symm⟩
  · simp only [Option.some.injEq, Prod.mk.injEq] at he
    exact plain ⟨he.1.symm, he.2.1.symm, he.2.2.symm⟩
end
end Go.Mir
/- Operations, fourth part: what is written, what is made. -/
namespace Go.Mir
set_option linter.unusedVariables false
set_option linter.unusedSectionVars false
set_option linter.unusedSimpArgs false

theorem safe_cell {d : Dat} (h : d.safe = true) : d.isCell = true := by cases d <;> first | rfl | simp [Dat.safe] at h

theorem EnvOk.soft {N n : Nat} {g g' : Gh} {w w' : World} {e : Env} {tmps : Array Value} (h : EnvOk N n g w e tmps) (hext : Ext n g w g' w') (hs : ∀ b π, g.lock b = some π → Same g w g' w' b) : EnvOk N n g' w' e tmps := by
  intro s d hd
  obtain ⟨v, hv, hr, ho, hu⟩ := h s d hd
  exact ⟨v, hv, Rep_ext hext _ _ hu hr, ho.same fun b i hb => hs b _ hb, hu⟩
theorem EnvOk.mono {N n m : Nat} {g : Gh} {w : World} {e : Env} {tmps : Array Value} (h : EnvOk N n g w e tmps) (hnm : n ≤ m) : EnvOk N m g w e tmps := by
  intro s d hd
  obtain ⟨v, hv, hr, ho, hu⟩ := h s d hd
  exact ⟨v, hv, hr, ho, under_mono hnm _ hu⟩

section
variable {P : Program} {N ntmps : Nat} {σ0 : St} {g0 : Gh} {w0 : World} {e : Env} {σ : St} {a : Act} {w : World} {g : Gh} {run : Run} {esc : Nat → Bool} {base : Nat} {dst : Option Nat} {d : Dat} {e1 : Env} {σ1 : St}

theorem cells_rep {v : Value} {c : List Dat} (hr : Rep g w d v) (hc : d.cells? = some c) :
    ∃ vs : List Value, v.cells = vs.toArray ∧ RepL g w c vs ∧ (∀ u ∈ vs, u.oneCell' = true) ∧ (∀ n, d.under n = true → Dat.underL n c = true) ∧ c.all Dat.isCell = true := by
  have one : d.isCell = true → c = [d] → ∃ vs : List Value, v.cells = vs.toArray ∧ RepL g w c vs ∧ (∀ u ∈ vs, u.oneCell' = true) ∧ (∀ n, d.under n = true → Dat.underL n c = true) ∧ c.all Dat.isCell = true := by
    rintro hcell rfl
    have h1 := cell_oneCell hcell hr
    refine ⟨[v], ?_, RepL_cons hr (by simp [RepL]), by simpa using h1, fun n hn => by simp [Dat.underL, hn], by simp [hcell]⟩
    cases v <;> first | rfl | simp [Value.oneCell'] at h1
  cases d <;> simp only [Dat.cells?, reduceCtorEq, Option.some.injEq] at hc <;> try exact one rfl hc.symm
  split at hc
  · rename_i cs hall
    injection hc with hc
    subst hc
    simp only [Rep] at hr
    obtain ⟨vs, rfl, hl, hcell⟩ := hr
    refine ⟨vs, rfl, hl, fun u hu => ?_, fun n hn => by simpa [Dat.under] using hn, hcell⟩
    obtain ⟨i, hi⟩ := List.getElem?_of_mem hu
    have hlt : i < cs.length := by rw [← RepL_len hl]; exact (List.getElem?_eq_some_iff.1 hi).1
    obtain ⟨v', hv', hr'⟩ := RepL_get hl (List.getElem?_eq_getElem hlt)
    rw [hi] at hv'
    injection hv' with hv'
    subst hv'
    exact cell_oneCell (List.all_eq_true.1 hcell _ (List.getElem_mem hlt)) hr'
  · cases hc

/-- A value is given away, to a variable's cells from 'off' on. -/
theorem Fr.give (h : Fr N ntmps σ0 g0 w0 e σ a w g) (h0 : LB (N - 1) g0) (hN : 0 < N) {x : Operand} {m : MArg} {c : List Dat} (hx : argOf x = some m) (hd : m.ev e = some d) (hc : d.cells? = some c) (id off : Nat) :
    ∃ g', (∀ b, g'.ρ b = g.ρ b) ∧ Fr N ntmps σ0 g0 w0 (m.take e) σ a w g' ∧ Rep g' w d (a.eval x) ∧ d.under σ.length = true ∧
      ∀ (i : Nat) di vi, c[i]? = some di → (a.eval x).cells[i]? = some vi → Own g' w (fun _ => .var id (off + i)) di vi := by
  have ha := h.arg hx hd
  have plain : (∀ (i : Nat) di vi, c[i]? = some di → (a.eval x).cells[i]? = some vi → Own g w (fun _ => .var id (off + i)) di vi) → Fr N ntmps σ0 g0 w0 (m.take e) σ a w g →
      ∃ g', (∀ b, g'.ρ b = g.ρ b) ∧ Fr N ntmps σ0 g0 w0 (m.take e) σ a w g' ∧ Rep g' w d (a.eval x) ∧ d.under σ.length = true ∧
      ∀ (i : Nat) di vi, c[i]? = some di → (a.eval x).cells[i]? = some vi → Own g' w (fun _ => .var id (off + i)) di vi :=
    fun ho hf => ⟨g, fun _ => rfl, hf, ha.rep, ha.under, ho⟩
  obtain ⟨vs, hcells, hl, hone', hu', hcell⟩ := cells_rep ha.rep hc
  have take_fr : Fr N ntmps σ0 g0 w0 (m.take e) σ a w g := by
    rcases ha.own with ⟨hs, l, rfl⟩ | ⟨t, rfl, ht, hv, ho⟩
    · exact h
    · refine ⟨fun q cq hq => ?_, h.st, h.ch, h.lb, h.defers, h.tsize⟩
      simp only [MArg.take, ht] at hq
      by_cases hqt : q = t
      · subst hqt
        rw [Env.get_put_same] at hq
        injection hq with hq
        subst hq
        exact ⟨_, hv, Rep_strip ha.rep, Own_strip, by rw [under_strip]; exact ha.under⟩
      · rw [Env.get_put_other _ _ hqt] at hq
        exact h.env q cq hq
  have safe_own : ∀ (i : Nat) di vi, c[i]? = some di → (a.eval x).cells[i]? = some vi → di.safe = true → Own g w (fun _ => .var id (off + i)) di vi := by
    intro i di vi hdi hvi hsafe
    obtain ⟨v', hv', hr'⟩ := RepL_get hl hdi
    rw [hcells] at hvi
    simp only [List.getElem?_toArray] at hvi
    rw [hvi] at hv'
    injection hv' with hv'
    subst hv'
    exact Own_safe hr' hsafe
  by_cases hsafe : c.all Dat.safe = true
  · exact plain (fun i di vi hdi hvi => safe_own i di vi hdi hvi (List.all_eq_true.1 hsafe di (List.mem_of_getElem? hdi))) take_fr
  · -- one slice with room
    cases d <;> simp only [Dat.cells?, reduceCtorEq, Option.some.injEq] at hc
    case agg cs =>
      split at hc
      · rename_i hall
        injection hc with hc
        subst hc
        exact absurd hall hsafe
      · cases hc
    case slice own xs =>
     subst hc
     rcases ha.own with ⟨hs, l, rfl⟩ | ⟨t, rfl, ht, hv, ho⟩
     · exact absurd (by simp [hs]) hsafe
     · have hlow : ∀ q : Nat, q ≠ t → ∀ i, toVar N t id off (.slot N q i) = .slot N q i := fun q hq i => by simp [toVar, hq]
       refine ⟨g.map (toVar N t id off), fun _ => rfl, ⟨fun q cq hq => ?_, h.st.map _ (fun _ _ => rfl), h.ch.map h0 hN _ keeps_toVar, h.lb.toVar, h.defers, h.tsize⟩, Rep_ext (N := σ.length) (Ext.map _) _ _ ha.under ha.rep, ha.under, fun i di vi hdi hvi => ?_⟩
       · simp only [MArg.take, ht] at hq
         by_cases hqt : q = t
         · subst hqt
           rw [Env.get_put_same] at hq
           injection hq with hq
           subst hq
           exact ⟨_, hv, Rep_ext (N := σ.length) (Ext.map _) _ _ (by rw [under_strip]; exact ha.under) (Rep_strip ha.rep), Own_strip, by rw [under_strip]; exact ha.under⟩
         · rw [Env.get_put_other _ _ hqt] at hq
           obtain ⟨u1, hu1, hr1, ho1, hu2⟩ := h.env q cq hq
           exact ⟨u1, hu1, Rep_ext (N := σ.length) (Ext.map _) _ _ hu2 hr1, ho1.map _ (fun i => hlow q hqt i), hu2⟩
       · cases i with
         | zero =>
           simp only [List.getElem?_cons_zero, Option.some.injEq] at hdi
           subst hdi
           have hvv : (a.eval x).cells = #[a.eval x] := by
             have := cell_oneCell (g := g) (w := w) (d := .slice own xs) rfl ha.rep
             cases hh : a.eval x <;> first | rfl | (rw [hh] at this; simp [Value.oneCell'] at this)
           rw [hvv] at hvi
           simp only [List.getElem?_toArray, List.getElem?_cons_zero, Option.some.injEq] at hvi
           subst hvi
           cases own
           · trivial
           · simp only [Own] at ho ⊢
             have := ho.map (toVar N t id off)
             simpa [toVar] using this
         | succ i => simp at hdi
    all_goals (subst hc; exact absurd rfl hsafe)

/-- Cells of a variable are written. -/
theorem Fr.put (h : Fr N ntmps σ0 g0 w0 e σ a w g) {id off : Nat} {c cn : List Dat} {vs : List Value} (hc : St.get σ id = some c) (hle : off + cn.length ≤ c.length) (hr : RepL g w cn vs) (hall : cn.all Dat.isCell = true)
    (hu : Dat.underL σ.length cn = true) (hone : ∀ u ∈ vs, u.oneCell' = true) (hown : ∀ (i : Nat) di vi, cn[i]? = some di → vs[i]? = some vi → Own g w (fun _ => .var id (off + i)) di vi) (hlow : σ0.length ≤ id ∨ Dat.underL (id + 1) cn = true) :
    ∃ w', (storeCells ⟨g.ρ id, off, none⟩ vs).run P w = .ok () w' ∧ Fr N ntmps σ0 g0 w0 e (St.set σ id (c.take off ++ cn ++ c.drop (off + cn.length))) a w' g := by
  obtain ⟨us, T, hh, hl, hcell, hov⟩ := h.st.cell hc
  have hid := St.get_lt hc
  have hvl := RepL_len hr
  have hul := RepL_len hl
  obtain ⟨hp0, hlk⟩ := h.st.free id hid
  have hst := run_storeCells_at P (g.ρ id) off T vs 0 us.toArray w hh (by simp; omega) hone
  simp only [Nat.add_zero] at hst
  refine ⟨_, hst, ?_⟩
  generalize hus : (us.take off ++ vs ++ us.drop (off + vs.length)) = us' 
  have hrow : (w.setRow (g.ρ id) us'.toArray).heap[g.ρ id]? = some (.cells us'.toArray T (0, 0)) := setRow_heap w _ _ _ T _ hh
  have hoth : ∀ k, k ≠ g.ρ id → (w.setRow (g.ρ id) us'.toArray).heap[k]? = w.heap[k]? := fun k hk => setRow_other w _ k _ hk
  have hext : ∀ n, Ext n g w g (w.setRow (g.ρ id) us'.toArray) := fun n => ⟨fun b o u ho hcu => by
    have hb : b ≠ g.ρ id := by rintro rfl; omega
    rw [cell_setRow_other w _ _ _ hb]; exact hcu, fun _ => Nat.le_refl _, fun _ _ => rfl⟩
  have hsame : ∀ b, b ≠ g.ρ id → Same g w g (w.setRow (g.ρ id) us'.toArray) b := fun b hb => ⟨hoth b hb, rfl, rfl⟩
  have hlock : ∀ b π, g.lock b = some π → Same g w g (w.setRow (g.ρ id) us'.toArray) b := fun b π hb => hsame b (by rintro rfl; rw [hlk] at hb; cases hb)
  have hlen := St.set_length σ id (c.take off ++ cn ++ c.drop (off + cn.length))
  have hsimp : us.toArray.toList = us := by simp
  refine ⟨by rw [hlen]; exact h.env.soft (hext _) hlock, ?_, ?_, h.lb, h.defers, h.tsize⟩
  · refine h.st.set hid (hext _) (by simp) ⟨us', T, hrow, ?_, fun i di vi hdi hvi => ?_⟩ ?_ (fun j hj hji => hoth _ fun e => hji (h.st.inj j id hj hid e)) (fun j i dj vj hj hji ho => ho.same fun b k hb => hlock b _ hb) (fun j hj => h.st.free j hj)
      (fun b hb => h.st.fresh b (by simpa using hb))
    · refine RepL_ext (hext σ.length) _ _ ?_ ?_
      · refine underL_mk fun d hd => ?_
        rcases List.mem_append.1 hd with hd | hd
        · rcases List.mem_append.1 hd with hd | hd
          · exact underL_mem (h.st.under id c hc) d (List.mem_of_mem_take hd)
          · exact underL_mem hu d hd
        · exact underL_mem (h.st.under id c hc) d (List.mem_of_mem_drop hd)
      · rw [← hus]
        refine RepL_append (RepL_append ?_ hr) ?_
        · have := RepL_take hl 0 off
          simpa using this
        · have := RepL_take hl (off + cn.length) (c.length - (off + cn.length))
          rw [List.take_of_length_le (by simp), List.take_of_length_le (by simp; omega)] at this
          rwa [hvl]
    · have hdl : (c.take off ++ cn).length = off + cn.length := by simp; omega
      have hvll : (us.take off ++ vs).length = off + cn.length := by simp; omega
      have key : di.isCell = true ∧ Own g w (fun _ => .var id i) di vi := by
        rw [← hus] at hvi
        by_cases hi : i < off + cn.length
        · rw [List.getElem?_append_left (by omega)] at hdi hvi
          by_cases hi2 : i < off
          · rw [List.getElem?_append_left (by simp; omega), List.getElem?_take_of_lt hi2] at hdi hvi
            exact hov i di vi hdi hvi
          · rw [List.getElem?_append_right (by simp; omega)] at hdi hvi
            rw [show i - (c.take off).length = i - off by simp; omega] at hdi
            rw [show i - (us.take off).length = i - off by simp; omega] at hvi
            have := hown _ di vi hdi hvi
            rw [show off + (i - off) = i by omega] at this
            exact ⟨List.all_eq_true.1 hall di (List.mem_of_getElem? hdi), this⟩
        · rw [List.getElem?_append_right (by omega), List.getElem?_drop] at hdi hvi
          rw [show off + cn.length + (i - (c.take off ++ cn).length) = i by omega] at hdi
          rw [show off + vs.length + (i - (us.take off ++ vs).length) = i by omega] at hvi
          exact hov i di vi hdi hvi
      exact ⟨key.1, key.2.same fun b k hb => hlock b _ hb⟩
    · refine underL_mk fun d hd => ?_
      rcases List.mem_append.1 hd with hd | hd
      · rcases List.mem_append.1 hd with hd | hd
        · exact underL_mem (h.st.under id c hc) d (List.mem_of_mem_take hd)
        · exact underL_mem hu d hd
      · exact underL_mem (h.st.under id c hc) d (List.mem_of_mem_drop hd)
  · refine ⟨h.ch.os, h.ch.tape, h.ch.output, by simpa using h.ch.size, h.ch.ext.trans (hext _), by rw [hlen]; exact h.ch.len, fun b hb => ?_, fun j h1 h2 => by rw [hlen] at h2; exact h.ch.new j h1 h2, fun n hn hlo j cj hj hcj => ?_⟩
    · obtain ⟨k1, k2, k3⟩ := h.ch.keep b hb
      have hb' := h.ch.foreign hb
      exact ⟨by rw [hoth b (Ne.symm (hb'.2.1 id hid))]; exact k1, k2, k3⟩
    · by_cases hji : j = id
      · subst hji
        rw [St.get_set_same _ hid] at hcj
        injection hcj with hcj
        subst hcj
        have hc0 := h.ch.low n hn hlo j c hj hc
        rcases hlow with hlow | hlow
        · omega
        · refine underL_mk fun d hd => ?_
          rcases List.mem_append.1 hd with hd | hd
          · rcases List.mem_append.1 hd with hd | hd
            · exact underL_mem hc0 d (List.mem_of_mem_take hd)
            · exact under_mono (by omega) _ (underL_mem hlow d hd)
          · exact underL_mem hc0 d (List.mem_of_mem_drop hd)
      · rw [St.get_set_other _ hji] at hcj
        exact h.ch.low n hn hlo j cj hj hcj

theorem op_store (h : Fr N ntmps σ0 g0 w0 e σ a w g) (h0 : LB (N - 1) g0) (hN : 0 < N) {x y : Operand} {mx my : MArg} (hx : argOf x = some mx) (hy : argOf y = some my) {t : TypeId} {n : Nat} (hn : sizeP P t = some n) (hbase : base = σ0.length)
    (he : evalOp run esc base e σ (.store n mx my) = some (d, e1, σ1)) :
    ∃ w' g', (Instr.storeAt t (a.eval x) (a.eval y)).run P w = .ok () w' ∧ Left N σ0 g0 w0 dst d undef e1 σ1 a.tmps w' g' := by
  simp only [evalOp, Option.bind_eq_some_iff] at he
  obtain ⟨p, hp, he⟩ := he
  have hap := h.arg hx hp
  cases p <;> simp only [reduceCtorEq, Option.bind_eq_some_iff] at he
  rename_i id off
  obtain ⟨dy, hdy, c, hc, cs, hcs, he⟩ := he
  split at he
  · rename_i hcond
    obtain ⟨hcn, hle, hlow⟩ := hcond
    rw [hbase] at hlow
    simp only [Option.some.injEq, Prod.mk.injEq] at he
    obtain ⟨rfl, rfl, rfl⟩ := he
    have hr := hap.rep
    simp only [Rep] at hr
    obtain ⟨g', hρ, hf, hrd, hud, hown⟩ := h.give h0 hN hy hdy hc id off
    obtain ⟨vs, hvs, hl, hone, hu, hall⟩ := cells_rep hrd hc
    subst hcn
    obtain ⟨w', hrun, hf'⟩ := hf.put (P := P) hcs hle hl hall (hu _ hud) hone (fun i di vi hdi hvi => hown i di vi hdi (by rw [hvs]; simpa using hvi)) hlow
    refine ⟨w', g', ?_, hf'.left (by simp only [Rep]) (fun _ _ => trivial) rfl⟩
    simp only [sizeP, Option.map_eq_some_iff] at hn
    obtain ⟨inf, hinf, hn⟩ := hn
    have hlen := RepL_len hl
    rw [hρ] at hrun
    simp only [Instr.storeAt, hr, Instr.sureAddr, Sem.run_bind, Sem.run_pure, Result.andThen_ok, storeVar, sizeOf, typeInfo, run_program, hinf, hvs, hn]
    simp [hlen, hrun]
  · cases he

/-- A variable is made. -/
theorem Fr.alloc (h : Fr N ntmps σ0 g0 w0 e σ a w g) {cn : List Dat} {vs : List Value} (T : TypeId) (hr : RepL g w cn vs) (hall : cn.all Dat.isCell = true) (hu : Dat.underL σ.length cn = true)
    (hown : ∀ (i : Nat) di vi, cn[i]? = some di → vs[i]? = some vi → Own g w (fun _ => .var σ.length i) di vi) :
    ∃ g', g'.ρ σ.length = w.heap.size ∧ Fr N ntmps σ0 g0 w0 e (cn :: σ) a (w.alloc (.cells vs.toArray T)) g' := by
  obtain ⟨hp0, hl0⟩ := h.st.fresh _ (Nat.le_refl _)
  refine ⟨{ g with ρ := fun id => if id = σ.length then w.heap.size else g.ρ id }, by simp, ?_⟩
  have hold : ∀ k, k < w.heap.size → (w.alloc (.cells vs.toArray T)).heap[k]? = w.heap[k]? := fun k hk => heap_alloc_old w _ k hk
  have hnew : (w.alloc (.cells vs.toArray T)).heap[w.heap.size]? = some (.cells vs.toArray T (0, 0)) := heap_alloc_new w _
  have hext : Ext σ.length g w { g with ρ := fun id => if id = σ.length then w.heap.size else g.ρ id } (w.alloc (.cells vs.toArray T)) := by
    refine ⟨fun b o u ho hcu => ?_, fun _ => Nat.le_refl _, fun id hid => if_neg (by omega)⟩
    have hb : b < w.heap.size := by
      rcases Nat.lt_or_ge b w.heap.size with h' | h'
      · exact h'
      · have := (h.st.fresh b h').1; omega
    simp only [World.cell?, hold b hb] at hcu ⊢
    exact hcu
  have hsame : ∀ b, b < w.heap.size → Same g w { g with ρ := fun id => if id = σ.length then w.heap.size else g.ρ id } (w.alloc (.cells vs.toArray T)) b := fun b hb => ⟨hold b hb, rfl, rfl⟩
  have hlock : ∀ b π, g.lock b = some π → Same g w { g with ρ := fun id => if id = σ.length then w.heap.size else g.ρ id } (w.alloc (.cells vs.toArray T)) b := fun b π hb => by
    refine hsame b ?_
    rcases Nat.lt_or_ge b w.heap.size with h' | h'
    · exact h'
    · rw [(h.st.fresh b h').2] at hb; cases hb
  refine ⟨(h.env.soft hext hlock).mono (by simp), ?_, ?_, h.lb, h.defers, h.tsize⟩
  · refine ⟨fun id c hc => ?_, fun id c hc => ?_, ?_, ?_, fun b hb => h.st.fresh b (by simp at hb; omega)⟩
    · simp only [St.get_nil, St.get_cons] at hc
      split at hc
      · rename_i hid
        injection hc with hc
        subst hc
        refine ⟨vs, T, by simp only [hid, if_true]; exact hnew, RepL_ext hext _ _ hu hr, fun i di vi hdi hvi => ⟨List.all_eq_true.1 hall di (List.mem_of_getElem? hdi), ?_⟩⟩
        rw [hid]
        exact (hown i di vi hdi hvi).same fun b k hb => hlock b _ hb
      · rename_i hid
        have hlt := St.get_lt hc
        obtain ⟨us, T', hh, hl, ho⟩ := h.st.var id c hc
        refine ⟨us, T', by simp only [hid, if_false]; rw [hold _ (h.st.lt hlt)]; exact hh, RepL_ext hext _ _ (h.st.under id c hc) hl, fun i di vi hdi hvi => ?_⟩
        obtain ⟨k1, k2⟩ := ho i di vi hdi hvi
        exact ⟨k1, k2.same fun b k hb => hlock b _ hb⟩
    · simp only [St.get_nil, St.get_cons] at hc
      split at hc
      · injection hc with hc
        subst hc
        exact underL_mono (by simp) _ hu
      · exact underL_mono (by simp) _ (h.st.under id c hc)
    · intro i j hi hj hij
      simp only [List.length_cons] at hi hj
      by_cases h1 : i = σ.length <;> by_cases h2 : j = σ.length
      · omega
      · simp only [h1, h2, if_true, if_false] at hij
        have := h.st.lt (show j < σ.length by omega)
        omega
      · simp only [h1, h2, if_true, if_false] at hij
        have := h.st.lt (show i < σ.length by omega)
        omega
      · simp only [h1, h2, if_false] at hij
        exact h.st.inj i j (by omega) (by omega) hij
    · intro id hid
      simp only [List.length_cons] at hid
      by_cases h1 : id = σ.length
      · simp only [h1, if_true]
        exact ⟨hp0, hl0⟩
      · simp only [h1, if_false]
        exact h.st.free id (by omega)
  · refine h.ch.trans ⟨rfl, rfl, rfl, by simp, hext, by simp, fun b hb => hsame b hb.1, fun j h1 h2 => ?_, fun n hn hh j cj hj hcj => ?_⟩
    · simp only [List.length_cons] at h2
      have : j = σ.length := by omega
      simp [this]
    · rw [St.get_cons_old (by omega)] at hcj
      exact hh j cj hj hcj

theorem mapM_get {α β : Type} {f : α → Option β} : ∀ {l : List α} {r : List β}, l.mapM f = some r → r.length = l.length ∧ ∀ (i : Nat) a b, l[i]? = some a → r[i]? = some b → f a = some b
  | [], r, h => by simp at h; subst h; simp
  | x :: l, r, h => by
    simp only [List.mapM_cons, Option.bind_eq_bind, Option.bind_eq_some_iff, Option.pure_def, Option.some.injEq] at h
    obtain ⟨y, hy, s, hs, rfl⟩ := h
    obtain ⟨h1, h2⟩ := mapM_get hs
    refine ⟨by simp [h1], fun i a b ha hb => ?_⟩
    cases i with
    | zero => simp at ha hb; subst ha hb; exact hy
    | succ i => exact h2 i a b (by simpa using ha) (by simpa using hb)
theorem cellDats_rep {vs : List Value} {cs : List Dat} (h : vs.mapM cellDat = some cs) : RepL g w cs vs ∧ (∀ n, Dat.underL n cs = true) ∧ cs.all Dat.safe = true := by
  obtain ⟨hl, hg⟩ := mapM_get h
  have get : ∀ (i : Nat) d, cs[i]? = some d → ∃ v, vs[i]? = some v ∧ cellDat v = some d := fun i d hd => by
    have hlt : i < vs.length := by rw [← hl]; exact (List.getElem?_eq_some_iff.1 hd).1
    exact ⟨vs[i], List.getElem?_eq_getElem hlt, hg i _ d (List.getElem?_eq_getElem hlt) hd⟩
  refine ⟨RepL_mk hl.symm fun i d v hd hv => ?_, fun n => underL_mk fun d hd => ?_, ?_⟩
  · exact (cellDat_rep (hg i v d hv hd)).1
  · obtain ⟨i, hi⟩ := List.getElem?_of_mem hd
    obtain ⟨v, _, hv⟩ := get i d hi
    exact under_mono (Nat.zero_le _) _ (cellDat_rep (g := g) (w := w) hv).2.1
  · rw [List.all_eq_true]
    intro d hd
    obtain ⟨i, hi⟩ := List.getElem?_of_mem hd
    obtain ⟨v, _, hv⟩ := get i d hi
    exact (cellDat_rep (g := g) (w := w) hv).2.2.1
theorem zeroP_at {t : TypeId} {zero : List Dat} (h : zeroP P t = some zero) : ∃ inf z, P.info? t = some inf ∧ inf.zero = some z ∧ z.cells.toList.mapM cellDat = some zero := by
  simp only [zeroP, Option.bind_eq_some_iff] at h
  obtain ⟨z, ⟨inf, h1, h2⟩, h3⟩ := h
  exact ⟨inf, z, h1, h2, h3⟩

theorem all_cell {cs : List Dat} (h : cs.all Dat.safe = true) : cs.all Dat.isCell = true := by
  rw [List.all_eq_true] at h ⊢
  exact fun d hd => safe_cell (h d hd)

theorem op_alloc (h : Fr N ntmps σ0 g0 w0 e σ a w g) {t : TypeId} {zero : List Dat} (hz : zeroP P t = some zero) (he : evalOp run esc base e σ (.alloc zero) = some (d, e1, σ1)) (x : Value) :
    ∃ v w' g', (Instr.alloc t true x).run P w = .ok v w' ∧ Left N σ0 g0 w0 dst d v e1 σ1 a.tmps w' g' := by
  simp only [evalOp, Option.some.injEq, Prod.mk.injEq] at he
  obtain ⟨rfl, rfl, rfl⟩ := he
  obtain ⟨inf, z, h1, h2, h3⟩ := zeroP_at hz
  obtain ⟨hr, hu, hs⟩ := cellDats_rep (g := g) (w := w) h3
  obtain ⟨g', hρ, hf⟩ := h.alloc t hr (all_cell hs) (hu _) (fun i di vi hdi hvi => by
    obtain ⟨v', hv', hr'⟩ := RepL_get hr hdi
    rw [hvi] at hv'
    injection hv' with hv'
    subst hv'
    exact Own_safe hr' (List.all_eq_true.1 hs di (List.mem_of_getElem? hdi)))
  refine ⟨.pointer (some ⟨w.heap.size, 0, none⟩), _, g', ?_, hf.left ?_ (fun _ _ => trivial) (by simp [Dat.under])⟩
  · simp [Instr.alloc, zeroValue, typeInfo, h1, h2, newVar, newRow]
  · simp only [Rep, hρ]

theorem op_box (h : Fr N ntmps σ0 g0 w0 e σ a w g) (h0 : LB (N - 1) g0) (hN : 0 < N) {t : TypeId} {x : Operand} {mx : MArg} (hx : argOf x = some mx) {n : Nat} (he : evalOp run esc base e σ (.box n mx) = some (d, e1, σ1)) :
    ∃ v w' g', (Instr.box t (a.eval x)).run P w = .ok v w' ∧ Left N σ0 g0 w0 dst d v e1 σ1 a.tmps w' g' := by
  simp only [evalOp, Option.bind_eq_some_iff] at he
  obtain ⟨dx, hdx, c, hc, he⟩ := he
  split at he
  · simp only [Option.some.injEq, Prod.mk.injEq] at he
    obtain ⟨rfl, rfl, rfl⟩ := he
    obtain ⟨g', hρ, hf, hrd, hud, hown⟩ := h.give h0 hN hx hdx hc σ.length 0
    obtain ⟨vs, hvs, hl, hone, hu, hall⟩ := cells_rep hrd hc
    obtain ⟨g2, hρ2, hf2⟩ := hf.alloc t hl hall (hu _ hud) (fun i di vi hdi hvi => by simpa using hown i di vi hdi (by rw [hvs]; simpa using hvi))
    refine ⟨.pointer (some ⟨w.heap.size, 0, none⟩), _, g2, ?_, hf2.left ?_ (fun _ _ => trivial) (by simp [Dat.under])⟩
    · simp [Instr.box, newVar, newRow, hvs]
    · simp only [Rep, hρ2]
  · cases he

theorem op_nilCheck (h : Fr N ntmps σ0 g0 w0 e σ a w g) {x : Operand} {mx : MArg} (hx : argOf x = some mx) (o : Oper) (ho : o.op = .nilCheck x) (he : evalOp run esc base e σ (.nilCheck mx) = some (d, e1, σ1)) :
    ∃ v, (execOp a.eval o).run P w = .ok (.value v) w ∧ Left N σ0 g0 w0 dst d v e1 σ1 a.tmps w g := by
  simp only [evalOp, Option.bind_eq_some_iff] at he
  obtain ⟨dx, hdx, he⟩ := he
  have ha := h.arg hx hdx
  cases dx <;> simp only [reduceCtorEq, Option.some.injEq, Prod.mk.injEq] at he
  all_goals
    obtain ⟨rfl, rfl, rfl⟩ := he
    have hr := ha.rep
    refine ⟨a.eval x, ?_, h.left ha.rep (fun _ _ => trivial) ha.under⟩
    simp only [Rep] at hr
  · simp [execOp, ho, hr]
  · obtain ⟨b, off, hv, _⟩ := hr
    simp [execOp, ho, hv]
  · obtain ⟨vs, hv, _⟩ := hr
    simp [execOp, ho, hv]
end
end Go.Mir
/- Operations, fifth part: composites, slice literals, append. -/
namespace Go.Mir
set_option linter.unusedVariables false
set_option linter.unusedSectionVars false
set_option linter.unusedSimpArgs false

theorem foldl_set : ∀ (l : List Value) (k off : Nat) (cs : Array Value), off + k + l.length ≤ cs.size →
    ((l.zipIdx k).foldl (fun cs (x : Value × Nat) => cs.setIfInBounds (off + x.2) x.1) cs) = (cs.toList.take (off + k) ++ l ++ cs.toList.drop (off + k + l.length)).toArray
  | [], k, off, cs, h => by simp
  | v :: l, k, off, cs, h => by
    simp only [List.length_cons] at h
    simp only [List.zipIdx_cons, List.foldl_cons]
    rw [foldl_set l (k + 1) off _ (by simp; omega)]
    have e := list_seg_step cs.toList (off + k) v l (by simp; omega)
    congr 1
    simpa [Array.toList_setIfInBounds, Nat.add_assoc, Nat.add_comm, Nat.add_left_comm] using e
theorem fill_step {place : Nat → Option (Nat × Nat)} {cs l : List Value} {i off n : Nat} {v : Value} {rest : List (Nat × Value)} (hp : place i = some (off, n)) (hv : v.cells = l.toArray) (hl : l.length = n) (ho : off + n ≤ cs.length) :
    Instr.fill place cs.toArray ((i, v) :: rest) = Instr.fill place (cs.take off ++ l ++ cs.drop (off + n)).toArray rest := by
  have hf := foldl_set l 0 off cs.toArray (by simp; omega)
  simp only [Nat.add_zero, hl] at hf
  simp only [Instr.fill, hp, hv, List.size_toArray, hl, ne_eq, not_true_eq_false, decide_false, Bool.false_or]
  rw [if_neg (by simp; omega)]
  congr 1
  rw [← Array.foldl_toList]
  simpa using hf

theorem cells_strip1 {d : Dat} {l : List Dat} (h : d.strip1.cells? = some l) : l.all Dat.safe = true := by
  cases d <;> simp only [Dat.strip1, Dat.cells?, reduceCtorEq, Option.some.injEq] at h
  case agg cs =>
    split at h
    · rename_i hs
      injection h with h
      exact h ▸ hs
    · cases h
  all_goals (subst h; rfl)
theorem cells_norm {d : Dat} {l : List Dat} (h : d.norm.cells? = some l) : l.all Dat.safe = true := by
  cases d <;> simp only [Dat.norm, Dat.cells?, reduceCtorEq, Option.some.injEq] at h
  case agg cs =>
    split at h
    · rename_i hs
      injection h with h
      exact h ▸ hs
    · cases h
  all_goals (subst h; rfl)

section
variable {P : Program} {N ntmps : Nat} {σ0 : St} {g0 : Gh} {w0 : World} {e : Env} {σ : St} {a : Act} {w : World} {g : Gh} {run : Run} {esc : Nat → Bool} {base : Nat} {dst : Option Nat} {d : Dat} {e1 : Env} {σ1 : St}

theorem Fr.fill (h : Fr N ntmps σ0 g0 w0 e σ a w g) {place : Nat → Option (Nat × Nat)} : ∀ {parts : List (Nat × Operand)} {ps : List (Nat × Nat × MArg)} {zs cs : List Dat} {us : List Value},
    parts.mapM (fun p => (argOf p.2).bind fun m => (place p.1).map fun q => (q.1, q.2, m)) = some ps → fillD e zs ps = some cs → RepL g w zs us → zs.all Dat.isCell = true → Dat.underL σ.length zs = true →
    ∃ vs : List Value, Instr.fill place us.toArray (parts.map fun p => (p.1, a.eval p.2)) = some vs.toArray ∧ RepL g w cs vs ∧ cs.all Dat.isCell = true ∧ Dat.underL σ.length cs = true
  | [], ps, zs, cs, us, hm, hf, hr, hall, hu => by
    simp only [List.mapM_nil, Option.pure_def, Option.some.injEq] at hm
    subst hm
    simp only [fillD, Option.some.injEq] at hf
    subst hf
    exact ⟨us, rfl, hr, hall, hu⟩
  | (i, x) :: parts, ps, zs, cs, us, hm, hf, hr, hall, hu => by
    simp only [List.mapM_cons, Option.bind_eq_bind, Option.bind_eq_some_iff, Option.map_eq_some_iff, Option.pure_def, Option.some.injEq] at hm
    obtain ⟨_, ⟨m, hx, ⟨off, n⟩, hp, rfl⟩, ps', hps, rfl⟩ := hm
    simp only [fillD, Option.bind_eq_some_iff] at hf
    obtain ⟨d, hd, l, hl, hf⟩ := hf
    split at hf
    · rename_i hc
      obtain ⟨hln, hle⟩ := hc
      have ha := h.arg hx hd
      obtain ⟨vs, hv, hrl, _, hul, hcl⟩ := cells_rep (Rep_strip1 ha.rep) hl
      have hvl := RepL_len hrl
      have hz := RepL_len hr
      have hr' : RepL g w (zs.take off ++ l ++ zs.drop (off + n)) (us.take off ++ vs ++ us.drop (off + n)) := by
        refine RepL_append (RepL_append ?_ hrl) ?_
        · have := RepL_take hr 0 off
          simpa using this
        · have := RepL_take hr (off + n) (zs.length - (off + n))
          rwa [List.take_of_length_le (by simp), List.take_of_length_le (by simp; omega)] at this
      have hall' : (zs.take off ++ l ++ zs.drop (off + n)).all Dat.isCell = true := by
        rw [List.all_eq_true] at hall hcl ⊢
        intro d hd
        rcases List.mem_append.1 hd with hd | hd
        · rcases List.mem_append.1 hd with hd | hd
          · exact hall d (List.mem_of_mem_take hd)
          · exact hcl d hd
        · exact hall d (List.mem_of_mem_drop hd)
      have hu' : Dat.underL σ.length (zs.take off ++ l ++ zs.drop (off + n)) = true := by
        refine underL_mk fun d' hd => ?_
        rcases List.mem_append.1 hd with hd | hd
        · rcases List.mem_append.1 hd with hd | hd
          · exact underL_mem hu _ (List.mem_of_mem_take hd)
          · exact underL_mem (hul _ (by rw [under_strip1]; exact ha.under)) _ hd
        · exact underL_mem hu _ (List.mem_of_mem_drop hd)
      obtain ⟨vs', h1, h2⟩ := h.fill hps hf hr' hall' hu'
      refine ⟨vs', ?_, h2⟩
      simp only [List.map_cons]
      rw [fill_step hp hv (by omega) (by omega)]
      exact h1
    · cases hf

theorem op_build (h : Fr N ntmps σ0 g0 w0 e σ a w g) {t : TypeId} {parts : Array (Nat × Operand)} {ps : List (Nat × Nat × MArg)} {zero : List Dat} (hz : zeroP P t = some zero) (hps : parts.toList.mapM (partOf P t) = some ps) (hok : fieldsOk P t = true)
    (he : evalOp run esc base e σ (.build zero ps) = some (d, e1, σ1)) :
    ∃ v, (Instr.build t (parts.map fun (i, x) => (i, a.eval x))).run P w = .ok v w ∧ Left N σ0 g0 w0 dst d v e1 σ1 a.tmps w g := by
  simp only [evalOp, Option.bind_eq_some_iff, Option.some.injEq, Prod.mk.injEq] at he
  obtain ⟨cs, hcs, rfl, rfl, rfl⟩ := he
  obtain ⟨inf, z, h1, h2, h3⟩ := zeroP_at hz
  obtain ⟨hr, hu, hs⟩ := cellDats_rep (g := g) (w := w) h3
  have hpf : partOf P t = fun p => (argOf p.2).bind fun m => (placeP P t p.1).map fun q => (q.1, q.2, m) := rfl
  rw [hpf] at hps
  obtain ⟨vs, hf, hrv, hallv, huv⟩ := h.fill hps hcs hr (all_cell hs) (hu _)
  refine ⟨.agg vs.toArray, ?_, h.left ?_ (fun _ _ => trivial) (by simpa [Dat.under] using huv)⟩
  · refine run_build w t _ _ ?_
    have hparts : (parts.map fun (i, x) => (i, a.eval x)).toList = parts.toList.map fun p => (p.1, a.eval p.2) := by simp
    rw [hparts]
    unfold fieldsOk at hok
    unfold Program.built
    simp only [h1, h2]
    split at hok
    · rename_i fs hu
      obtain ⟨places, hpl⟩ := Option.isSome_iff_exists.1 hok
      simp only [hu, hpl, h2]
      have : (fun i => places.toArray[i]?) = placeP P t := by
        funext i
        simp only [placeP, hu, List.getElem?_toArray]
        obtain ⟨hlen, hget⟩ := mapM_get hpl
        cases hf : fs[i]? with
        | none =>
          have : fs.size ≤ i := Array.getElem?_eq_none_iff.1 hf
          rw [List.getElem?_eq_none (by rw [hlen]; simpa using this)]
          rfl
        | some f =>
          have hlt : i < fs.size := (Array.getElem?_eq_some_iff.1 hf).1
          have hpl' : i < places.length := by rw [hlen]; simpa using hlt
          have hp : places[i]? = some places[i] := List.getElem?_eq_getElem hpl'
          have := hget i f places[i] (by simpa using hf) hp
          rw [hp, ← this]
          simp only [sizeP, Option.bind_some, Option.map_map]
          rfl
      rw [this]
      simpa using hf
    · rename_i n el hu
      obtain ⟨ie, hie⟩ := Option.isSome_iff_exists.1 hok
      simp only [hu, hie, h2]
      have : (fun i => some (i * ie.size, ie.size)) = placeP P t := by
        funext i
        simp [placeP, hu, sizeP, hie]
      rw [this]
      simpa using hf
    · cases hok
  · simp only [Rep]
    exact ⟨vs, rfl, hrv, hallv⟩

/-! ### new rows -/
theorem Fr.block0 (h : Fr N ntmps σ0 g0 w0 e σ a w g) {w' : World} (hos : w'.os = w.os) (htape : w'.tape = w.tape) (hout : w'.output = w.output) (hsize : w'.heap.size = w.heap.size + 1)
    (hold : ∀ k, k < w.heap.size → w'.heap[k]? = w.heap[k]?) (k : Nat) (l : Option Place) (hl : ∀ π, l = some π → π.low N) :
    Fr N ntmps σ0 g0 w0 e σ a w' { g with prot := fun b => if b = w.heap.size then k else g.prot b, lock := fun b => if b = w.heap.size then l else g.lock b } := by
  have hext : ∀ n, Ext n g w { g with prot := fun b => if b = w.heap.size then k else g.prot b, lock := fun b => if b = w.heap.size then l else g.lock b } w' := by
    refine fun n => ⟨fun b o u ho hcu => ?_, fun b => ?_, fun id hid => rfl⟩
    · have hb : b < w.heap.size := by
        rcases Nat.lt_or_ge b w.heap.size with h' | h'
        · exact h'
        · have := (h.st.fresh b h').1; omega
      simp only [World.cell?, hold b hb] at hcu ⊢
      exact hcu
    · by_cases hb : b = w.heap.size
      · rw [hb, (h.st.fresh _ (Nat.le_refl _)).1]; omega
      · simp [hb]
  have hsame : ∀ b, b < w.heap.size → Same g w { g with prot := fun b => if b = w.heap.size then k else g.prot b, lock := fun b => if b = w.heap.size then l else g.lock b } w' b :=
    fun b hb => ⟨hold b hb, by simp [show b ≠ w.heap.size by omega], by simp [show b ≠ w.heap.size by omega]⟩
  have hlt : ∀ b π, g.lock b = some π → b < w.heap.size := fun b π hb => by
    rcases Nat.lt_or_ge b w.heap.size with h' | h'
    · exact h'
    · rw [(h.st.fresh b h').2] at hb; cases hb
  refine ⟨h.env.soft (hext _) fun b π hb => hsame b (hlt b π hb), ?_, ?_, ?_, h.defers, h.tsize⟩
  · refine ⟨fun id c hc => ?_, h.st.under, h.st.inj, fun id hid => ?_, fun b hb => ?_⟩
    · obtain ⟨us, T', hh, hrl, ho⟩ := h.st.var id c hc
      refine ⟨us, T', by rw [hold _ (h.st.lt (St.get_lt hc))]; exact hh, RepL_ext (hext σ.length) _ _ (h.st.under id c hc) hrl, fun i di vi hdi hvi => ?_⟩
      obtain ⟨k1, k2⟩ := ho i di vi hdi hvi
      exact ⟨k1, k2.same fun b k hb => hsame b (hlt b _ hb)⟩
    · have := h.st.lt hid
      simp only [show g.ρ id ≠ w.heap.size by omega, if_false]
      exact h.st.free id hid
    · simp only [show b ≠ w.heap.size by omega, if_false]
      exact h.st.fresh b (by omega)
  · exact h.ch.trans ⟨hos, htape, hout, by omega, hext _, Nat.le_refl _, fun b hb => hsame b hb.1, fun j h1 h2 => by omega, fun _ _ hh => hh⟩
  · intro b π hb
    simp only at hb
    split at hb
    · exact hl π hb
    · exact h.lb b π hb

theorem Fr.block (h : Fr N ntmps σ0 g0 w0 e σ a w g) {w' : World} {cells : Array Value} {T : TypeId} (hos : w'.os = w.os) (htape : w'.tape = w.tape) (hout : w'.output = w.output) (hsize : w'.heap.size = w.heap.size + 1)
    (hold : ∀ k, k < w.heap.size → w'.heap[k]? = w.heap[k]?) (hnew : w'.heap[w.heap.size]? = some (.cells cells T (0, 0))) (k : Nat) (l : Option Place) (hl : ∀ π, l = some π → π.low N) :
    Fr N ntmps σ0 g0 w0 e σ a w' { g with prot := fun b => if b = w.heap.size then k else g.prot b, lock := fun b => if b = w.heap.size then l else g.lock b } :=
  h.block0 hos htape hout hsize hold k l hl
/-- rows, out of the cells one behind the other -/
theorem RepRows_flat {b m : Nat} : ∀ {xs : List (List Dat)} {vss : List (List Value)} {off : Nat}, xs.length = vss.length → (∀ (i : Nat) x vs, xs[i]? = some x → vss[i]? = some vs → x.length = m ∧ RepL g w x vs ∧ x.all Dat.isCell = true) →
    (∀ (j : Nat) v, vss.flatten[j]? = some v → w.cell? ⟨b, off + j, none⟩ = some v) → RepRows g w b off m xs
  | [], vss, off, _, _, _ => by simp only [RepRows]
  | x :: xs, [], off, hl, _, _ => by simp at hl
  | x :: xs, vs :: vss, off, hl, hr, hc => by
    simp only [RepRows]
    obtain ⟨hm, hrl, hall⟩ := hr 0 x vs rfl rfl
    have hlen := RepL_len hrl
    refine ⟨⟨hm, RepAt_mk fun i d hd => ?_⟩, RepRows_flat (by simpa using hl) (fun i x vs h1 h2 => hr (i + 1) x vs (by simpa using h1) (by simpa using h2)) fun j v hv => ?_⟩
    · obtain ⟨u, hu, hru⟩ := RepL_get hrl hd
      refine ⟨u, hc i u ?_, List.all_eq_true.1 hall d (List.mem_of_getElem? hd), hru⟩
      rw [List.flatten_cons, List.getElem?_append_left (by rw [hlen]; exact (List.getElem?_eq_some_iff.1 hd).1)]
      exact hu
    · have := hc (m + j) v (by rw [List.flatten_cons, List.getElem?_append_right (by omega)]; simpa [hlen, hm] using hv)
      rwa [show off + m + j = off + (m + j) by omega]
theorem RepRows_append {b m off : Nat} {xs ys : List (List Dat)} (hx : RepRows g w b off m xs) (hy : RepRows g w b (off + xs.length * m) m ys) : RepRows g w b off m (xs ++ ys) := by
  refine RepRows_mk fun i x hi => ?_
  by_cases h : i < xs.length
  · rw [List.getElem?_append_left h] at hi
    exact RepRows_get hx hi
  · rw [List.getElem?_append_right (by omega)] at hi
    have := RepRows_get hy hi
    rwa [show off + xs.length * m + (i - xs.length) * m = off + i * m by rw [Nat.add_assoc, ← Nat.add_mul]; congr 2; omega] at this
theorem flatten_len {m : Nat} {vss : List (List Value)} (h : ∀ vs ∈ vss, vs.length = m) : vss.flatten.length = vss.length * m := by
  induction vss with
  | nil => simp
  | cons v r ih => simp only [List.flatten_cons, List.length_append, List.length_cons, h v (by simp), ih fun vs hvs => h vs (by simp [hvs]), Nat.add_mul]; omega

/-- the operands of a slice literal -/
theorem Fr.elems (h : Fr N ntmps σ0 g0 w0 e σ a w g) {esz : Nat} : ∀ {l : List Operand} {ms : List MArg} {xs : List (List Dat)}, l.mapM argOf = some ms → elemsD e esz ms = some xs →
    ∃ vss : List (List Value), vss.length = l.length ∧ xs.length = l.length ∧ (∀ (i : Nat) x vs, l[i]? = some x → vss[i]? = some vs → (a.eval x).cells = vs.toArray) ∧
      (∀ (i : Nat) x vs, xs[i]? = some x → vss[i]? = some vs → x.length = esz ∧ RepL g w x vs ∧ x.all Dat.isCell = true) ∧ Dat.underLL σ.length xs = true ∧ xs.all (fun x => x.all Dat.safe) = true
  | [], ms, xs, hm, he => by
    simp only [List.mapM_nil, Option.pure_def, Option.some.injEq] at hm
    subst hm
    simp only [elemsD, Option.some.injEq] at he
    subst he
    exact ⟨[], rfl, rfl, by simp, by simp, rfl, rfl⟩
  | x :: l, ms, xs, hm, he => by
    simp only [List.mapM_cons, Option.bind_eq_bind, Option.bind_eq_some_iff, Option.pure_def, Option.some.injEq] at hm
    obtain ⟨m, hx, ms', hl, rfl⟩ := hm
    simp only [elemsD, Option.bind_eq_some_iff] at he
    obtain ⟨d, hd, c, hc, he⟩ := he
    split at he
    · rename_i hcl
      simp only [Option.bind_eq_some_iff, Option.some.injEq] at he
      obtain ⟨xs', hxs, rfl⟩ := he
      have ha := h.arg hx hd
      obtain ⟨vs, hv, hrl, _, hul, hall⟩ := cells_rep (Rep_norm ha.rep) hc
      obtain ⟨vss, k1, k2, k3, k4, k5, k6⟩ := h.elems hl hxs
      refine ⟨vs :: vss, by simp [k1], by simp [k2], fun i y vs' hy hvs => ?_, fun i y vs' hy hvs => ?_, ?_, ?_⟩
      · cases i with
        | zero => simp at hy hvs; subst hy hvs; exact hv
        | succ i => exact k3 i y vs' (by simpa using hy) (by simpa using hvs)
      · cases i with
        | zero => simp at hy hvs; subst hy hvs; exact ⟨hcl, hrl, hall⟩
        | succ i => exact k4 i y vs' (by simpa using hy) (by simpa using hvs)
      · simp only [Dat.underLL, Bool.and_eq_true]
        exact ⟨hul _ (by rw [under_norm]; exact ha.under), k5⟩
      · simp only [List.all_cons, Bool.and_eq_true]
        exact ⟨cells_norm hc, k6⟩
    · cases he

theorem fill_rows {n : Nat} : ∀ {parts : List (Nat × Value)} {vss : List (List Value)} {k : Nat} {ds zs : List Value}, parts.length = vss.length → (∀ (i : Nat) (p : Nat × Value) vs, parts[i]? = some p → vss[i]? = some vs → p.1 = k + i ∧ p.2.cells = vs.toArray ∧ vs.length = n) →
    ds.length = k * n → zs.length = vss.length * n → Instr.fill (fun i => some (i * n, n)) (ds ++ zs).toArray parts = some (ds ++ vss.flatten).toArray
  | [], vss, k, ds, zs, hl, _, _, hz => by
    have : vss = [] := List.eq_nil_of_length_eq_zero hl.symm
    subst this
    have : zs = [] := List.eq_nil_of_length_eq_zero (by simpa using hz)
    subst this
    simp [Instr.fill]
  | p :: parts, [], k, ds, zs, hl, _, _, _ => by simp at hl
  | (i, v) :: parts, vs :: vss, k, ds, zs, hl, hp, hd, hz => by
    obtain ⟨h1, h2, h3⟩ := hp 0 (i, v) vs rfl rfl
    simp only [Nat.add_zero] at h1
    simp only at h2
    simp only [List.length_cons, Nat.add_mul, Nat.one_mul] at hz
    subst h1
    rw [fill_step (off := i * n) (n := n) rfl h2 h3 (by rw [List.length_append]; omega)]
    have e1 : (ds ++ zs).take (i * n) ++ vs ++ (ds ++ zs).drop (i * n + n) = (ds ++ vs) ++ zs.drop n := by
      rw [← hd, List.take_left, List.drop_append]
      congr 1
      · rw [List.drop_eq_nil_of_le (by omega)]
        simp
    rw [e1, fill_rows (k := i + 1) (by simpa using hl) (fun j p vs' hp' hv' => by
      have := hp (j + 1) p vs' (by simpa using hp') (by simpa using hv')
      exact ⟨by omega, this.2⟩) (by rw [List.length_append, Nat.add_mul]; omega) (by rw [List.length_drop]; omega)]
    simp

theorem op_buildSlice (h : Fr N ntmps σ0 g0 w0 e σ a w g) (hN : 0 < N) {t el : TypeId} {len n : Nat} {parts : Array (Nat × Operand)} {ps : List MArg} (ht : P.underlying t = some (.slice el)) (hn : sizeP P el = some n) (hix : parts.toList.map (·.1) = List.range len)
    (hle : len * n ≤ 2 ^ 24) (hpos : 0 < n) (hz : ((P.info? el).bind (·.zero)).isSome = true) (hps : parts.toList.mapM (fun x => argOf x.2) = some ps) (he : evalOp run esc base e σ (.buildSlice n ps) = some (d, e1, σ1)) :
    ∃ v w' g', (Instr.buildSlice t len (parts.map fun (i, x) => (i, a.eval x))).run P w = .ok v w' ∧ Left N σ0 g0 w0 dst d v e1 σ1 a.tmps w' g' := by
  simp only [evalOp, Option.bind_eq_some_iff, Option.some.injEq, Prod.mk.injEq] at he
  obtain ⟨xs, hxs, rfl, rfl, rfl⟩ := he
  obtain ⟨z, hz⟩ := Option.isSome_iff_exists.1 hz
  obtain ⟨ie, hie, hz⟩ := Option.bind_eq_some_iff.1 hz
  have hsz : ie.size = n := by simpa [sizeP, hie] using hn
  have hps' : (parts.toList.map (·.2)).mapM argOf = some ps := by rw [List.mapM_map]; exact hps
  obtain ⟨vss, k1, k2, k3, k4, k5, k6⟩ := h.elems hps' hxs
  have hlen : parts.toList.length = len := by have := congrArg List.length hix; simpa using this
  have hvl : vss.length = len := by rw [k1, List.length_map, hlen]
  have hxl : xs.length = len := by rw [k2, List.length_map, hlen]
  have hvn : ∀ vs ∈ vss, vs.length = n := by
    intro vs hvs
    obtain ⟨i, hi⟩ := List.getElem?_of_mem hvs
    have hlt : i < xs.length := by rw [hxl, ← hvl]; exact (List.getElem?_eq_some_iff.1 hi).1
    obtain ⟨h1, h2, _⟩ := k4 i xs[i] vs (List.getElem?_eq_getElem hlt) hi
    rw [RepL_len h2, h1]
  have hfl := flatten_len hvn
  -- the machine's cells
  have hrun : (Instr.buildSlice t len (parts.map fun (i, x) => (i, a.eval x))).run P w = .ok (.slice (some ⟨w.heap.size, 0, none⟩) len len) (w.alloc (.cells vss.flatten.toArray el)) := by
    have hfill : ∀ zs : Array Value, zs.size = len * n → Instr.fill (fun i => some (i * ie.size, ie.size)) zs (parts.map fun (i, x) => (i, a.eval x)).toList = some vss.flatten.toArray := by
      intro zs hzl
      rw [hsz]
      have := fill_rows (n := n) (parts := (parts.map fun (i, x) => (i, a.eval x)).toList) (vss := vss) (k := 0) (ds := []) (zs := zs.toList) (by simpa using hlen.trans hvl.symm) (fun i p vs hp hvs => ?_) (by simp) (by rw [hvl, Array.length_toList, hzl])
      · simpa using this
      · simp only [Array.toList_map, List.getElem?_map, Option.map_eq_some_iff] at hp
        obtain ⟨⟨j, x⟩, hq, rfl⟩ := hp
        have hj : (parts.toList.map (·.1))[i]? = some j := by rw [List.getElem?_map, hq]; rfl
        rw [hix, List.getElem?_range (by rw [← hlen]; exact (List.getElem?_eq_some_iff.1 hq).1)] at hj
        injection hj with hj
        refine ⟨by simp [hj], k3 i x vs (by rw [List.getElem?_map, hq]; rfl) hvs, hvn vs (List.mem_of_getElem? hvs)⟩
    rcases Nat.eq_zero_or_pos len with h0 | h0
    · subst h0
      have hv0 : vss = [] := List.eq_nil_of_length_eq_zero hvl
      subst hv0
      have hp0 : parts.toList = [] := List.eq_nil_of_length_eq_zero hlen
      have hp1 : parts = #[] := by rw [← Array.toArray_toList (xs := parts), hp0]
      subst hp1
      simp [Instr.buildSlice, run_underlying ht, sizeOf, typeInfo, hie, newRow, Instr.fill]
      have hz0 : (Array.map (fun _ => (default : Value)) (Array.range 0)) = #[] := Array.eq_empty_of_size_eq_zero (by simp)
      rw [hz0]
    · have hlz : 0 < len * n := Nat.mul_pos h0 hpos
      refine run_buildSlice w t el len _ _ ie z ht hie hz (by rw [hsz]; omega) (by rw [hsz]; omega) ?_
      exact hfill _ (by simp [hsz])
  have hb := h.block (w' := w.alloc (.cells vss.flatten.toArray el)) rfl rfl rfl (by simp) (fun k hk => heap_alloc_old w _ k hk) (heap_alloc_new w _) (len * n) none (by simp)
  generalize hg' : ({ g with prot := fun b => if b = w.heap.size then len * n else g.prot b, lock := fun b => if b = w.heap.size then none else g.lock b } : Gh) = g' at hb
  have hprot : g'.prot w.heap.size = len * n := by rw [← hg']; simp
  have hext : ∀ n', Ext n' g w g' (w.alloc (.cells vss.flatten.toArray el)) := fun n' => by
    refine ⟨fun b o u ho hcu => ?_, fun b => ?_, fun id hid => by rw [← hg']⟩
    · have hbl : b < w.heap.size := by
        rcases Nat.lt_or_ge b w.heap.size with h' | h'
        · exact h'
        · have := (h.st.fresh b h').1; omega
      simp only [World.cell?, heap_alloc_old w _ b hbl] at hcu ⊢
      exact hcu
    · rw [← hg']
      by_cases hbq : b = w.heap.size
      · rw [hbq, (h.st.fresh _ (Nat.le_refl _)).1]; omega
      · simp [hbq]
  refine ⟨_, _, g', hrun, hb.left ?_ (fun s _ => ?_) (by simpa [Dat.under] using k5)⟩
  · simp only [Rep]
    refine ⟨some ⟨w.heap.size, 0, none⟩, len, by rw [hxl], by omega, fun _ hx0 => by rw [hx0] at hxl; simpa using hxl.symm, fun hne => ⟨w.heap.size, 0, n, rfl, by rw [hprot, hxl]; omega, ?_⟩⟩
    refine RepRows_flat (vss := vss) (by omega) (fun i x vs hx hvs => ?_) fun j v hv => ?_
    · obtain ⟨h1, h2, h3⟩ := k4 i x vs hx hvs
      exact ⟨h1, RepL_ext (hext σ.length) _ _ (underLL_mem k5 x (List.mem_of_getElem? hx)) h2, h3⟩
    · rw [cell_of_row _ _ _ _ _ _ (heap_alloc_new w _)]
      simpa using hv
  · simp only [Own]
    exact ⟨_, len, by rw [hxl], .inl (by rw [hxl])⟩

/-! ### append -/
theorem run_append_room_row (t tx ty el : TypeId) (i : TypeInfo) (ht : P.underlying t = some (.slice el)) (hi : P.info? el = some i) (b sLen sCap : Nat) (T : TypeId) (cur : Array Value) (hg : w.heap[b]? = some (.cells cur T (0, 0)))
    (x : Value) (n : Nat) (news : List Value) (hs : Src P i.size tx x n news w) (hroom : sLen + n ≤ sCap) (hfit : sLen * i.size + news.length ≤ cur.size) :
    (Builtin.append_ #[t, tx] ty #[.slice (some ⟨b, 0, none⟩) sLen sCap, x]).run P w =
      .ok (.slice (some ⟨b, 0, none⟩) (sLen + n) sCap) (w.setRow b (cur.toList.take (sLen * i.size) ++ news ++ cur.toList.drop (sLen * i.size + news.length)).toArray) := by
  have hst := run_storeCells_at P b (sLen * i.size) T news 0 cur w hg (by simpa using hfit) hs.one
  simp only [Nat.add_zero] at hst
  rcases hs.kind with ⟨e', hk⟩ | hk <;> simp [Builtin.append_, run_underlying ht, run_underlying hk, sizeOf, typeInfo, hi, hs.len, hroom, hs.cells, Addr.add_lit, hst]

/-- the cells of rows, one behind the other -/
theorem rows_vals {b m : Nat} : ∀ {xs : List (List Dat)} {off : Nat}, RepRows g w b off m xs →
    ∃ vss : List (List Value), vss.length = xs.length ∧ (∀ vs ∈ vss, vs.length = m) ∧ (∀ (i : Nat) x vs, xs[i]? = some x → vss[i]? = some vs → x.length = m ∧ RepL g w x vs ∧ x.all Dat.isCell = true) ∧ (∀ (j : Nat) v, vss.flatten[j]? = some v → w.cell? ⟨b, off + j, none⟩ = some v) ∧
      ∀ v ∈ vss.flatten, v.oneCell' = true
  | [], off, _ => ⟨[], rfl, by simp, by simp, by simp, by simp⟩
  | x :: xs, off, h => by
    simp only [RepRows] at h
    obtain ⟨⟨hm, hat⟩, hr⟩ := h
    obtain ⟨vss, k1, k2, k3, k4, k5⟩ := rows_vals hr
    have key : ∀ i, i < x.length → ∃ u, w.cell? ⟨b, off + i, none⟩ = some u ∧ Rep g w (x[i]?.getD .undef) u ∧ (x[i]?.getD .undef).isCell = true := fun i hi => by
      obtain ⟨u, hu, hc, hru⟩ := RepAt_get hat (List.getElem?_eq_getElem hi)
      exact ⟨u, hu, by simpa [hi] using hru, by simpa [hi] using hc⟩
    have hxv : ∃ vs : List Value, vs.length = m ∧ RepL g w x vs ∧ (∀ (j : Nat) v, vs[j]? = some v → w.cell? ⟨b, off + j, none⟩ = some v) ∧ ∀ v ∈ vs, v.oneCell' = true := by
      have hval : ∀ (j : Nat) v, ((List.range m).map fun i => (w.cell? ⟨b, off + i, none⟩).getD _root_.Go.undef)[j]? = some v → w.cell? ⟨b, off + j, none⟩ = some v ∧ j < m := fun j v hv => by
        have hj : j < m := by have := (List.getElem?_eq_some_iff.1 hv).1; simpa using this
        obtain ⟨u, hu, _⟩ := key j (by omega)
        rw [List.getElem?_map, List.getElem?_range hj, Option.map_some, hu] at hv
        exact ⟨by rw [hu]; exact hv, hj⟩
      refine ⟨(List.range m).map fun i => (w.cell? ⟨b, off + i, none⟩).getD _root_.Go.undef, by simp, RepL_mk (by simp [hm]) fun i d v hd hv => ?_, fun j v hv => (hval j v hv).1, fun v hv => ?_⟩
      · obtain ⟨h1, hj⟩ := hval i v hv
        obtain ⟨u, hu, _, hru⟩ := RepAt_get hat hd
        rw [h1] at hu
        injection hu with hu
        exact hu ▸ hru
      · obtain ⟨j, hj⟩ := List.getElem?_of_mem hv
        obtain ⟨h1, hjm⟩ := hval j v hj
        obtain ⟨u, hu, hru, hc⟩ := key j (by omega)
        rw [h1] at hu
        injection hu with hu
        rw [hu]
        exact cell_oneCell hc hru
    obtain ⟨vs, v1, v2, v3, v4⟩ := hxv
    have hcell : x.all Dat.isCell = true := by
      rw [List.all_eq_true]
      intro d hd
      obtain ⟨i, hi⟩ := List.getElem?_of_mem hd
      exact (RepAt_get hat hi).choose_spec.2.1
    refine ⟨vs :: vss, by simp [k1], fun us hus => ?_, fun i y us hy hus => ?_, fun j v hv => ?_, fun v hv => ?_⟩
    · rcases List.mem_cons.1 hus with rfl | hus
      · exact v1
      · exact k2 us hus
    · cases i with
      | zero => simp at hy hus; subst hy hus; exact ⟨hm, v2, hcell⟩
      | succ i => exact k3 i y us (by simpa using hy) (by simpa using hus)
    · rw [List.flatten_cons] at hv
      by_cases hj : j < vs.length
      · rw [List.getElem?_append_left hj] at hv
        exact v3 j v hv
      · rw [List.getElem?_append_right (by omega)] at hv
        have := k4 _ v hv
        rwa [show off + m + (j - vs.length) = off + j by omega] at this
    · rw [List.flatten_cons] at hv
      rcases List.mem_append.1 hv with hv | hv
      · exact v4 v hv
      · exact k5 v hv

theorem flat_bytes : ∀ s : List UInt8, (s.map fun c => [Value.int .u8 c.toNat]).flatten = byteCells ⟨s.toArray⟩
  | [] => rfl
  | c :: s => by
    rw [List.map_cons, List.flatten_cons, flat_bytes s]
    simp [byteCells]
/-- What is appended. -/
theorem Fr.src (h : Fr N ntmps σ0 g0 w0 e σ a w g) {y : Dat} {v : Value} (hr : Rep g w y v) (hu : y.under σ.length = true) {ys : List (List Dat)} {str : Bool} (hy : y.rows? str = some ys) {tx : TypeId} {esz : Nat}
    (hk : if str then P.underlying tx = some .string ∧ esz = 1 else ∃ e', P.underlying tx = some (.slice e')) (hall : ys.all (fun r => r.length == esz) = true) :
    ∃ vss : List (List Value), vss.length = ys.length ∧ (∀ vs ∈ vss, vs.length = esz) ∧ (∀ (i : Nat) x vs, ys[i]? = some x → vss[i]? = some vs → x.length = esz ∧ RepL g w x vs ∧ x.all Dat.isCell = true) ∧ Dat.underLL σ.length ys = true ∧ Src P esz tx v ys.length vss.flatten w := by
  cases str <;> cases y <;> simp only [Dat.rows?, reduceCtorEq, Option.some.injEq] at hy
  rotate_left
  · rename_i s
    simp only [if_true] at hk
    obtain ⟨hst, h1⟩ := hk
    subst h1
    simp only [Rep] at hr
    subst hy
    refine ⟨s.map fun c => [Value.int .u8 c.toNat], by simp, by simp, fun i x vs hx hvs => ?_, underLL_mk fun d hd => ?_, ?_⟩
    · simp only [List.getElem?_map, Option.map_eq_some_iff] at hx hvs
      obtain ⟨c, hc, rfl⟩ := hx
      obtain ⟨c', hc', rfl⟩ := hvs
      rw [hc] at hc'
      injection hc' with hc'
      subst hc'
      exact ⟨rfl, RepL_cons (by simp only [Rep]) (by simp only [RepL]), rfl⟩
    · obtain ⟨c, _, rfl⟩ := List.mem_map.1 hd
      rfl
    · have := Src.ofString (P := P) w hst ⟨s.toArray⟩
      rw [hr]
      have e1 : (s.map fun c => [Value.int .u8 c.toNat]).flatten = byteCells ⟨s.toArray⟩ := by
        exact flat_bytes s
      rw [e1]
      have e2 : (s.map fun c => [Dat.int .u8 c.toNat]).length = (ByteArray.mk s.toArray).size := by simp [ByteArray.size]
      rw [e2]
      exact this
  · rename_i own xs
    subst hy
    simp only [Bool.false_eq_true, if_false] at hk
    obtain ⟨e', hk'⟩ := hk
    simp only [Rep] at hr
    obtain ⟨A, c, rfl, hc, _, hx⟩ := hr
    have hux : Dat.underLL σ.length xs = true := by simpa [Dat.under] using hu
    by_cases hne : xs = []
    · subst hne
      refine ⟨[], rfl, by simp, by simp, rfl, ?_⟩
      cases A with
      | none => exact Src.ofNil w hk' c
      | some ad => exact Src.ofSlice w hk' ad 0 c [] (by simp) (by simp) (by simp)
    · obtain ⟨b, off, m, rfl, hp, hrows⟩ := hx hne
      have hm : m = esz := by
        obtain ⟨x0, hx0⟩ : ∃ x0, xs[0]? = some x0 := by
          cases xs with
          | nil => exact absurd rfl hne
          | cons y ys => exact ⟨y, rfl⟩
        have h2 := (RepRows_get hrows hx0).1
        have h3 := List.all_eq_true.1 hall x0 (List.mem_of_getElem? hx0)
        simp only [beq_iff_eq] at h3
        omega
      subst hm
      obtain ⟨vss, k1, k2, k3, k4, k5⟩ := rows_vals hrows
      exact ⟨vss, k1, k2, k3, hux, Src.ofSlice w hk' _ xs.length c vss.flatten (by rw [flatten_len k2, k1]) (fun j u hu => by rw [Addr.add_lit]; exact k4 j u hu) k5⟩
end
end Go.Mir
/- Operations, sixth part: append. -/
namespace Go.Mir
set_option linter.unusedVariables false
set_option linter.unusedSectionVars false
set_option linter.unusedSimpArgs false

section
variable {P : Program} {N ntmps : Nat} {σ0 : St} {g0 : Gh} {w0 : World} {e : Env} {σ : St} {a : Act} {w : World} {g : Gh} {run : Run} {esc : Nat → Bool} {base : Nat} {dst : Option Nat} {d : Dat} {e1 : Env} {σ1 : St}

theorem Fr.take_strip (h : Fr N ntmps σ0 g0 w0 e σ a w g) {x : Operand} {m : MArg} {d : Dat} (hx : argOf x = some m) (hd : m.ev e = some d) : Fr N ntmps σ0 g0 w0 (m.take e) σ a w g := by
  have ha := h.arg hx hd
  rcases ha.own with ⟨hs, l, rfl⟩ | ⟨t, rfl, ht, hv, ho⟩
  · exact h
  · refine ⟨fun q cq hq => ?_, h.st, h.ch, h.lb, h.defers, h.tsize⟩
    simp only [MArg.take, ht] at hq
    by_cases hqt : q = t
    · subst hqt
      rw [Env.get_put_same] at hq
      injection hq with hq
      subst hq
      exact ⟨_, hv, Rep_strip ha.rep, Own_strip, by rw [under_strip]; exact ha.under⟩
    · rw [Env.get_put_other _ _ hqt] at hq
      exact h.env q cq hq

/-- 'x', moved to slot s. -/
theorem Fr.move_to (h : Fr N ntmps σ0 g0 w0 e σ a w g) (h0 : LB (N - 1) g0) (hN : 0 < N) {x : Operand} {m : MArg} (hx : argOf x = some m) {d : Dat} (hd : m.ev e = some d) (s : Nat) :
    ∃ g', Left N σ0 g0 w0 (some s) d (a.eval x) (m.take e) σ a.tmps w g' := by
  have ha := h.arg hx hd
  rcases ha.own with ⟨hs, l, rfl⟩ | ⟨t, rfl, ht, hv, ho⟩
  · exact ⟨g, h.left ha.rep (fun _ _ => Own_safe ha.rep hs) ha.under⟩
  · obtain ⟨v, hv', hl⟩ := h.take_slot h0 hN (s := s) ht
    rw [hv] at hv'
    injection hv' with hv'
    rw [hv']
    refine ⟨g.map (slotTo N t s), ?_⟩
    simpa only [MArg.take, ht] using hl

theorem run_append_none (w : World) (t tx ty el : TypeId) (i : TypeInfo) (ht : P.underlying t = some (.slice el)) (hi : P.info? el = some i) (base : Option Addr) (sLen sCap : Nat) (hle : sLen ≤ sCap) (x : Value) (hs : Src P i.size tx x 0 [] w) :
    (Builtin.append_ #[t, tx] ty #[.slice base sLen sCap, x]).run P w = .ok (.slice base sLen sCap) w := by
  rcases hs.kind with ⟨e', hk⟩ | hk <;> cases base <;> simp [Builtin.append_, run_underlying ht, run_underlying hk, sizeOf, typeInfo, hi, hs.len, hle, hs.cells, storeCells]

theorem op_append (h : Fr N ntmps σ0 g0 w0 e σ a w g) (h0 : LB (N - 1) g0) (hN : 0 < N) {x y : Operand} {mx my : MArg} (hx : argOf x = some mx) (hy : argOf y = some my) {t u ty el : TypeId} {esz bytes s : Nat}
    (ht : P.underlying t = some (.slice el)) (hn : sizeP P el = some esz) (hb : (P.info? el).map (·.bytes) = some bytes) (hz : zeroSize P el = some esz) (hpos : 0 < esz) (hbpos : 0 < bytes)
    {str : Bool} (hk : if str then P.underlying u = some .string ∧ esz = 1 else ∃ e', P.underlying u = some (.slice e'))
    (he : evalOp run esc base e σ (.append str esz bytes mx my) = some (d, e1, σ1)) :
    ∃ v w' g', (Builtin.append_ #[t, u] ty #[a.eval x, a.eval y]).run P w = .ok v w' ∧ Left N σ0 g0 w0 (some s) d v e1 σ1 a.tmps w' g' := by
  simp only [evalOp, Option.bind_eq_some_iff] at he
  obtain ⟨dx, hdx, dy, hdy, he⟩ := he
  cases dx <;> simp only [reduceCtorEq, Option.bind_eq_some_iff] at he
  rename_i own xs
  obtain ⟨ys, hys, he⟩ := he
  have hax := h.arg hx hdx
  have hay := h.arg hy hdy
  simp only [zeroSize, Option.map_eq_some_iff, Option.bind_eq_some_iff] at hz
  obtain ⟨z, ⟨inf, hinf, hz⟩, hzs⟩ := hz
  have hsz : inf.size = esz := by simpa [sizeP, hinf] using hn
  have hby : inf.bytes = bytes := by simpa [hinf] using hb
  subst hsz
  have hrx := hax.rep
  simp only [Rep] at hrx
  obtain ⟨A, c, hv, hc, hc0, hrow⟩ := hrx
  split at he
  · -- nothing is appended
    rename_i hemp
    simp only [List.isEmpty_iff] at hemp
    subst hemp
    simp only [Option.some.injEq, Prod.mk.injEq] at he
    obtain ⟨rfl, rfl, rfl⟩ := he
    obtain ⟨vss, k1, k2, k3, k4, hsrc⟩ := h.src (esz := inf.size) hay.rep hay.under hys hk rfl
    have hv0 : vss = [] := List.eq_nil_of_length_eq_zero k1
    subst hv0
    obtain ⟨g', hl⟩ := h.move_to h0 hN hx hdx s
    refine ⟨_, w, g', ?_, hl⟩
    rw [hv]
    exact run_append_none w t u ty el inf ht hinf A xs.length c hc _ hsrc
  · split at he
    · rename_i hemp hcond
      obtain ⟨hown, hbytes, hxall, hyall⟩ := hcond
      subst hown
      simp only [Option.some.injEq, Prod.mk.injEq] at he
      obtain ⟨rfl, rfl, rfl⟩ := he
      have hyne : ys ≠ [] := by simpa using hemp
      have hyp : 0 < ys.length := List.length_pos_iff.2 hyne
      obtain ⟨vss, k1, k2, k3, k4, hsrc⟩ := h.src (esz := inf.size) hay.rep hay.under hys hk hyall
      have hnews := flatten_len k2
      have hux : Dat.underLL σ.length xs = true := by simpa [Dat.under] using hax.under
      have hxm : ∀ {b off m}, xs ≠ [] → RepRows g w b off m xs → m = inf.size := by
        intro b off m hne hrows
        obtain ⟨x0, hx0⟩ : ∃ x0, xs[0]? = some x0 := by
          cases xs with
          | nil => exact absurd rfl hne
          | cons y ys => exact ⟨y, rfl⟩
        have h2 := (RepRows_get hrows hx0).1
        have h3 := List.all_eq_true.1 hxall x0 (List.mem_of_getElem? hx0)
        simp only [beq_iff_eq] at h3
        omega
      -- the old cells
      have hold : ∃ oss : List (List Value), oss.length = xs.length ∧ (∀ vs ∈ oss, vs.length = inf.size) ∧ (∀ (i : Nat) x vs, xs[i]? = some x → oss[i]? = some vs → x.length = inf.size ∧ RepL g w x vs ∧ x.all Dat.isCell = true) ∧
          (Builtin.firstCells inf.size xs.length (.slice A xs.length c)).run P w.drew = .ok oss.flatten.toArray w.drew := by
        by_cases hne : xs = []
        · subst hne
          refine ⟨[], rfl, by simp, by simp, ?_⟩
          cases A with
          | none => exact run_firstCells_none w.drew inf.size 0 0 c
          | some ad => exact run_firstCells_some w.drew inf.size 0 ad 0 c [] (by simp) (by simp)
        · obtain ⟨b, off, m, rfl, hp, hrows⟩ := hrow hne
          have hm := hxm hne hrows
          subst hm
          obtain ⟨oss, o1, o2, o3, o4, o5⟩ := rows_vals hrows
          exact ⟨oss, o1, o2, o3, run_firstCells_some w.drew inf.size xs.length _ xs.length c oss.flatten (by rw [flatten_len o2, o1]) (fun j u hu => by rw [Addr.add_lit]; exact o4 j u hu)⟩
      obtain ⟨oss, o1, o2, o3, o4⟩ := hold
      have holds := flatten_len o2
      have htot : xs.length + ys.length ≤ (xs.length + ys.length) * bytes := Nat.le_mul_of_pos_right _ hbpos
      have hf1 := h.take_strip hx hdx
      have huxy : Dat.underLL σ.length (xs ++ ys) = true := underLL_mk fun r hr => by
        rcases List.mem_append.1 hr with hr | hr
        · exact underLL_mem hux r hr
        · exact underLL_mem k4 r hr
      by_cases hgrow : c < xs.length + ys.length
      · -- a new row
        have hr := run_append_grow_src (P := P) w t u ty el inf z ht hinf hz A xs.length c oss.flatten o4 (a.eval y) ys.length vss.flatten hsrc hgrow (by omega) (growslice_fits hgrow (by rw [hby]; omega))
        rw [hv]
        generalize hC : grownCap w (xs.length + ys.length) c el = C at hr
        have hCge : xs.length + ys.length ≤ C := by rw [← hC]; exact grownCap_ge w _ _ _
        generalize hcs : ((oss.flatten ++ vss.flatten).toArray ++ Builtin.zeroCells z.cells (C - (xs.length + ys.length))) = cells at hr
        have hcsz : cells.size = C * inf.size := by
          rw [← hcs, Array.size_append, size_zeroCells, hzs]
          simp only [List.size_toArray, List.length_append, holds, hnews, o1, k1, ← Nat.add_mul]
          congr 1
          omega
        have hpre : ∀ (j : Nat) v, (oss.flatten ++ vss.flatten)[j]? = some v → cells[j]? = some v := by
          intro j v hj
          have hlt := (List.getElem?_eq_some_iff.1 hj).1
          rw [← hcs, Array.getElem?_append_left (by simpa using hlt)]
          simpa using hj
        have hbk := hf1.block (w' := w.drew.alloc (.cells cells el)) rfl rfl rfl (by simp) (fun k hk => heap_alloc_old w.drew _ k hk) (heap_alloc_new w.drew _) ((xs.length + ys.length) * inf.size) (some (.slot N s 0)) (by rintro π h; injection h with h; subst h; exact Nat.le_refl _)
        generalize hg' : ({ g with prot := fun b => if b = w.heap.size then (xs.length + ys.length) * inf.size else g.prot b, lock := fun b => if b = w.heap.size then some (.slot N s 0) else g.lock b } : Gh) = g' at hbk
        have hprot : g'.prot w.heap.size = (xs.length + ys.length) * inf.size := by rw [← hg']; simp
        have hlock : g'.lock w.heap.size = some (.slot N s 0) := by rw [← hg']; simp
        have hnew : (w.drew.alloc (.cells cells el)).heap[w.heap.size]? = some (.cells cells el (0, 0)) := heap_alloc_new w.drew _
        have hext : ∀ n', Ext n' g w g' (w.drew.alloc (.cells cells el)) := fun n' => by
          refine ⟨fun b o u ho hcu => ?_, fun b => ?_, fun id hid => by rw [← hg']⟩
          · have hbl : b < w.heap.size := by
              rcases Nat.lt_or_ge b w.heap.size with h' | h'
              · exact h'
              · have := (h.st.fresh b h').1; omega
            simp only [World.cell?, heap_alloc_old w.drew _ b hbl] at hcu ⊢
            exact hcu
          · rw [← hg']
            by_cases hbq : b = w.heap.size
            · rw [hbq, (h.st.fresh _ (Nat.le_refl _)).1]; omega
            · simp [hbq]
        have hcell : ∀ j, (w.drew.alloc (.cells cells el)).cell? ⟨w.heap.size, j, none⟩ = cells[j]? := fun j => cell_of_row _ _ _ _ _ _ hnew
        refine ⟨_, _, g', hr, hbk.left ?_ (fun s' hs' => ?_) (by simpa [Dat.under] using huxy)⟩
        · simp only [Rep]
          refine ⟨some ⟨w.heap.size, 0, none⟩, C, by simp, by simp; omega, fun _ hx0 => by simp at hx0; exact absurd hx0.2 hyne, fun hne => ⟨w.heap.size, 0, inf.size, rfl, by rw [hprot]; simp, ?_⟩⟩
          refine RepRows_append (RepRows_flat (vss := oss) o1.symm (fun i x vs hxi hvs => ?_) fun j v hj => ?_) (RepRows_flat (vss := vss) k1.symm (fun i x vs hxi hvs => ?_) fun j v hj => ?_)
          · obtain ⟨h1, h2, h3⟩ := o3 i x vs hxi hvs
            exact ⟨h1, RepL_ext (hext σ.length) _ _ (underLL_mem hux x (List.mem_of_getElem? hxi)) h2, h3⟩
          · rw [hcell]
            refine hpre _ v ?_
            rw [Nat.zero_add, List.getElem?_append_left (List.getElem?_eq_some_iff.1 hj).1]
            exact hj
          · obtain ⟨h1, h2, h3⟩ := k3 i x vs hxi hvs
            exact ⟨h1, RepL_ext (hext σ.length) _ _ (underLL_mem k4 x (List.mem_of_getElem? hxi)) h2, h3⟩
          · rw [hcell]
            refine hpre _ v ?_
            rw [Nat.zero_add, List.getElem?_append_right (by rw [holds, o1]; omega), holds, o1, Nat.add_sub_cancel_left]
            exact hj
        · injection hs' with hs'
          subst hs'
          simp only [Own]
          refine ⟨some ⟨w.heap.size, 0, none⟩, C, by simp, .inr ⟨w.heap.size, inf.size, cells, el, rfl, by simp [hyne], hlock, hnew, by omega, by rw [hprot]; simp, fun r hr => ?_⟩⟩
          rcases List.mem_append.1 hr with hr | hr
          · simpa using List.all_eq_true.1 hxall r hr
          · simpa using List.all_eq_true.1 hyall r hr
      · -- in place
        have hxne : xs ≠ [] := by rintro rfl; have := hc0 rfl rfl; simp at hgrow; omega
        obtain ⟨b, off, m, hA, hp, hrows⟩ := hrow hxne
        have hm := hxm hxne hrows
        subst hm
        -- the operand is a slot that owns
        rcases hax.own with ⟨hs, _⟩ | ⟨q, rfl, hq, hqv, ho⟩
        · simp [Dat.safe, hxne] at hs
        simp only [Own] at ho
        obtain ⟨A', c', hv', hor⟩ := ho
        rw [hv] at hv'
        simp only [Value.slice.injEq, true_and] at hv'
        obtain ⟨rfl, rfl⟩ := hv'
        rcases hor with hor | ⟨b', m', cs, T, hA', _, hlk, hheap, hcm, hpr, hm'⟩
        · omega
        rw [hA] at hA'
        simp only [Option.some.injEq, Addr.mk.injEq, and_true] at hA'
        obtain ⟨rfl, rfl⟩ := hA'
        have hmm : m' = inf.size := by
          obtain ⟨x0, hx0⟩ : ∃ x0, x0 ∈ xs := List.exists_mem_of_ne_nil xs hxne
          have h3 := List.all_eq_true.1 hxall x0 hx0
          simp only [beq_iff_eq] at h3
          rw [← hm' x0 hx0, h3]
        subst hmm
        subst hA
        have hfit : xs.length * inf.size + vss.flatten.length ≤ cs.size := by
          rw [hnews, k1, ← Nat.add_mul]
          exact Nat.le_trans (Nat.mul_le_mul_right _ (by omega)) hcm
        have hr := run_append_room_row (P := P) (w := w) t u ty el inf ht hinf b xs.length c T cs hheap (a.eval y) ys.length vss.flatten hsrc (by omega) hfit
        rw [hv]
        generalize hcs' : (cs.toList.take (xs.length * inf.size) ++ vss.flatten ++ cs.toList.drop (xs.length * inf.size + vss.flatten.length)) = cs' at hr
        have hcsl : cs'.length = cs.size := by rw [← hcs']; simp only [List.length_append, List.length_take, List.length_drop, Array.length_toList]; omega
        have hkeep : ∀ j, j < xs.length * inf.size → cs'[j]? = cs[j]? := by
          intro j hj
          rw [← hcs', List.append_assoc, List.getElem?_append_left (by simp; omega), List.getElem?_take_of_lt hj]
          simp
        have hput : ∀ (j : Nat) v, vss.flatten[j]? = some v → cs'[xs.length * inf.size + j]? = some v := by
          intro j v hj
          have hlt := (List.getElem?_eq_some_iff.1 hj).1
          have htl : (cs.toList.take (xs.length * inf.size)).length = xs.length * inf.size := by simp; omega
          rw [← hcs', List.append_assoc, List.getElem?_append_right (by omega), htl, Nat.add_sub_cancel_left, List.getElem?_append_left hlt]
          exact hj
        have hrow' : (w.setRow b cs'.toArray).heap[b]? = some (.cells cs'.toArray T (0, 0)) := setRow_heap w _ _ _ T _ hheap
        have hoth : ∀ k, k ≠ b → (w.setRow b cs'.toArray).heap[k]? = w.heap[k]? := fun k hk => setRow_other w _ k _ hk
        generalize hg' : ({ g with prot := fun k => if k = b then (xs.length + ys.length) * inf.size else g.prot k, lock := fun k => (g.lock k).map (slotTo N q s) } : Gh) = g'
        have hρ' : g'.ρ = g.ρ := by rw [← hg']
        have hlock' : ∀ k, g'.lock k = (g.lock k).map (slotTo N q s) := fun k => by rw [← hg']
        have hprot' : g'.prot b = (xs.length + ys.length) * inf.size := by rw [← hg']; simp
        have hprot2 : ∀ k, k ≠ b → g'.prot k = g.prot k := fun k hk => by rw [← hg']; simp [hk]
        have hext : ∀ n', Ext n' g w g' (w.setRow b cs'.toArray) := fun n' => by
          refine ⟨fun k o u' ho hcu => ?_, fun k => ?_, fun id hid => by rw [hρ']⟩
          · by_cases hk : k = b
            · subst hk
              rw [cell_of_row _ _ _ _ _ _ hheap] at hcu
              rw [cell_of_row _ _ _ _ _ _ hrow']
              rw [hpr] at ho
              simp only [List.getElem?_toArray]
              rw [hkeep o ho]; exact hcu
            · rw [cell_setRow_other w _ _ _ hk]; exact hcu
          · by_cases hk : k = b
            · rw [hk, hprot', hpr, Nat.add_mul]; omega
            · rw [hprot2 k hk]; exact Nat.le_refl _
        -- whoever owns elsewhere, owns still
        have hown : ∀ (π π' : Nat → Place) (d : Dat) (v : Value), (∀ i, slotTo N q s (π i) = π' i) → (∀ i, π i ≠ .slot N q 0) → Own g w π d v → Own g' (w.setRow b cs'.toArray) π' d v := by
          intro π π' d v hπ hne ho
          have key : ∀ i xs v, OwnAt g w (π i) xs v → OwnAt g' (w.setRow b cs'.toArray) (π' i) xs v := by
            rintro i xs v ⟨A, c, hv, h⟩
            refine ⟨A, c, hv, h.imp id ?_⟩
            rintro ⟨k, m, cs, T, hA, hx, hl, hh, hcc, hpp, hm⟩
            have hk : k ≠ b := by rintro rfl; rw [hlk] at hl; injection hl with hl; exact hne i hl.symm
            exact ⟨k, m, cs, T, hA, hx, by rw [hlock', hl, Option.map_some, hπ], by rw [hoth k hk]; exact hh, hcc, by rw [hprot2 k hk]; exact hpp, hm⟩
          cases d <;> try trivial
          · simp only [Own] at ho ⊢
            exact fun vs hv i xs u hd hu => key i xs u (ho vs hv i xs u hd hu)
          · rename_i own xs
            cases own
            · trivial
            · simp only [Own] at ho ⊢
              exact key 0 xs v ho
        have hbsize : b < w.heap.size := by
          rcases Nat.lt_or_ge b w.heap.size with h' | h'
          · exact h'
          · rw [(h.st.fresh b h').2] at hlk; cases hlk
        have hbvar : ∀ id, id < σ.length → g.ρ id ≠ b := fun id hid e => by rw [← e, (h.st.free id hid).2] at hlk; cases hlk
        refine ⟨_, _, g', hr, ⟨fun r cr hr' hrs => ?_, fun s' hs' => ?_, ?_, ?_, ?_⟩⟩
        · -- the other slots
          obtain ⟨u', hu', hru, hou, huu⟩ := hf1.env r cr hr'
          refine ⟨u', hu', Rep_ext (hext σ.length) _ _ huu hru, ?_, huu⟩
          by_cases hrq : r = q
          · subst hrq
            simp only [MArg.take, hq] at hr'
            rw [Env.get_put_same] at hr'
            injection hr' with hr'
            subst hr'
            exact Own_strip
          · exact hown _ _ _ _ (fun i => slotTo_other hrq) (fun i e => by injection e with _ e; exact hrq e) hou
        · injection hs' with hs'
          subst hs'
          refine ⟨?_, ?_, by simpa [Dat.under] using huxy⟩
          · simp only [Rep]
            refine ⟨some ⟨b, 0, none⟩, c, by simp, by simp; omega, fun _ hx0 => by simp at hx0; exact absurd hx0.2 hyne, fun hne => ⟨b, 0, inf.size, rfl, by rw [hprot']; simp, ?_⟩⟩
            refine RepRows_append (RepRows_ext (hext σ.length) _ _ _ _ hux hp hrows) (RepRows_flat (vss := vss) k1.symm (fun i x vs hxi hvs => ?_) fun j v hj => ?_)
            · obtain ⟨h1, h2, h3⟩ := k3 i x vs hxi hvs
              exact ⟨h1, RepL_ext (hext σ.length) _ _ (underLL_mem k4 x (List.mem_of_getElem? hxi)) h2, h3⟩
            · rw [cell_of_row _ _ _ _ _ _ hrow', Nat.zero_add]
              simp only [List.getElem?_toArray]
              exact hput j v hj
          · simp only [Own]
            refine ⟨some ⟨b, 0, none⟩, c, by simp, .inr ⟨b, inf.size, cs'.toArray, T, rfl, by simp [hyne], by rw [hlock', hlk, Option.map_some, slotTo_same], hrow', by simpa [hcsl] using hcm, by rw [hprot']; simp, fun r hr => ?_⟩⟩
            rcases List.mem_append.1 hr with hr | hr
            · simpa using List.all_eq_true.1 hxall r hr
            · simpa using List.all_eq_true.1 hyall r hr
        · -- the variables
          refine ⟨fun id cc hcc => ?_, h.st.under, fun i j hi hj hij => h.st.inj i j hi hj (by rwa [hρ'] at hij), fun id hid => ?_, fun k hk => ?_⟩
          · obtain ⟨vs, T', hh, hl, ho'⟩ := h.st.var id cc hcc
            have hid := St.get_lt hcc
            refine ⟨vs, T', by rw [hρ', hoth _ (hbvar id hid)]; exact hh, RepL_ext (hext σ.length) _ _ (h.st.under id cc hcc) hl, fun i di vi hdi hvi => ?_⟩
            obtain ⟨h1, h2⟩ := ho' i di vi hdi hvi
            exact ⟨h1, hown _ _ _ _ (fun _ => rfl) (fun _ e => by cases e) h2⟩
          · rw [hρ']
            obtain ⟨h1, h2⟩ := h.st.free id hid
            exact ⟨by rw [hprot2 _ (hbvar id hid)]; exact h1, by rw [hlock', h2]; rfl⟩
          · have hk' : w.heap.size ≤ k := by simpa using hk
            obtain ⟨h1, h2⟩ := h.st.fresh k hk'
            exact ⟨by rw [hprot2 k (by omega)]; exact h1, by rw [hlock', h2]; rfl⟩
        · -- what is changed
          have hfor : ∀ k, Foreign σ0 g0 w0 k → k ≠ b := by
            rintro k hk rfl
            obtain ⟨_, _, k3⟩ := h.ch.keep k hk
            rw [hlk] at k3
            have := h0 k _ k3.symm
            simp only [Place.low] at this
            omega
          refine ⟨h.ch.os, h.ch.tape, h.ch.output, by simpa using h.ch.size, h.ch.ext.trans ((hext _).mono h.ch.len), h.ch.len, fun k hk => ?_, fun id h1 h2 => by rw [hρ']; exact h.ch.new id h1 h2, h.ch.low⟩
          have hkb := hfor k hk
          obtain ⟨k1', k2', k3'⟩ := h.ch.keep k hk
          refine ⟨by rw [hoth k hkb]; exact k1', by rw [hprot2 k hkb]; exact k2', ?_⟩
          have := (h.ch.map h0 hN (slotTo N q s) keeps_slotTo).keep k hk
          rw [hlock']
          exact this.2.2
        · intro k π hπ
          rw [hlock'] at hπ
          exact h.lb.slotTo (t := q) (s := s) k π hπ
    · cases he
end
end Go.Mir
/- Operations, seventh part: texts to bytes and back, functions without a body. -/
namespace Go.Mir
set_option linter.unusedVariables false
set_option linter.unusedSectionVars false
set_option linter.unusedSimpArgs false

theorem isU8_at {P : Program} {t : TypeId} (h : isU8 P t = true) : P.underlying t = some (.int .u8) := by
  unfold isU8 at h
  split at h
  · assumption
  · cases h
theorem u8_eq (b : UInt8) (c : Int) (h0 : 0 ≤ c) (h1 : c < 256) : ((b.toNat : Int) = c) ↔ (b == c.toNat.toUInt8) = true := by
  rw [beq_iff_eq]
  constructor
  · intro h
    subst h
    simp
  · intro h
    subst h
    show ((UInt8.ofNat c.toNat).toNat : Int) = c
    rw [UInt8.toNat_ofNat']
    omega
theorem idxB_eq (c : Int) (h0 : 0 ≤ c) (h1 : c < 256) : ∀ (l : List UInt8) (i : Nat), idxB l c i = if Lib.indexByte l c.toNat.toUInt8 = -1 then -1 else Lib.indexByte l c.toNat.toUInt8 + i
  | [], i => by simp [idxB, Lib.indexByte]
  | b :: l, i => by
    have hu := u8_eq b c h0 h1
    have hge := Lib.indexByte_ge l c.toNat.toUInt8
    unfold idxB Lib.indexByte
    by_cases hb : (b.toNat : Int) = c
    · rw [if_pos hb, if_pos (hu.1 hb)]; simp
    · rw [if_neg hb, if_neg (fun h => hb (hu.2 h)), idxB_eq c h0 h1 l (i + 1)]
      by_cases h : Lib.indexByte l c.toNat.toUInt8 = -1
      · simp [h]
      · have h' : (Lib.indexByte l c.toNat.toUInt8 == -1) = false := by simpa using h
        simp only [h, if_false, h', Bool.false_eq_true]
        rw [if_neg (by omega)]
        omega
theorem idxB_zero (l : List UInt8) (c : Int) (h0 : 0 ≤ c) (h1 : c < 256) : idxB l c 0 = Lib.indexByte l c.toNat.toUInt8 := by
  rw [idxB_eq c h0 h1]
  split
  · rename_i h; rw [h]
  · simp

theorem bytesD_vals {g : Gh} {w : World} : ∀ {xs : List (List Dat)} {s : List UInt8} {vss : List (List Value)}, bytesD xs = some s → vss.length = xs.length → (∀ (i : Nat) x vs, xs[i]? = some x → vss[i]? = some vs → RepL g w x vs) →
    ∃ ns : List Int, vss.flatten = ns.map (Value.int .u8 ·) ∧ s = ns.map (fun n => UInt8.ofNat n.toNat) ∧ ns.length = xs.length
  | [], s, vss, h, hl, _ => by
    simp only [bytesD, Option.some.injEq] at h
    subst h
    have : vss = [] := List.eq_nil_of_length_eq_zero (by simpa using hl)
    subst this
    exact ⟨[], rfl, rfl, rfl⟩
  | x :: xs, s, [], h, hl, _ => by simp at hl
  | x :: xs, s, vs :: vss, h, hl, hr => by
    have hx := hr 0 x vs rfl rfl
    match x, h, hx with
    | [], h, hx => simp [bytesD] at h
    | [.int k n], h, hx =>
      cases k <;> simp only [bytesD, reduceCtorEq] at h
      split at h
      · obtain ⟨s', hs', rfl⟩ := Option.map_eq_some_iff.1 h
        obtain ⟨ns, h1, h2, h3⟩ := bytesD_vals hs' (by simpa using hl) (fun i x vs hi hv => hr (i + 1) x vs (by simpa using hi) (by simpa using hv))
        simp only [RepL, Rep] at hx
        obtain ⟨v, vr, rfl, rfl, rfl⟩ := hx
        exact ⟨n :: ns, by simp [h1], by simp [h2], by simp [h3]⟩
      · cases h
    | .undef :: r, h, hx => simp [bytesD] at h
    | .bool _ :: r, h, hx => simp [bytesD] at h
    | .str _ :: r, h, hx => simp [bytesD] at h
    | .agg _ :: r, h, hx => simp [bytesD] at h
    | .tup _ :: r, h, hx => simp [bytesD] at h
    | .slice _ _ :: r, h, hx => simp [bytesD] at h
    | .nilp :: r, h, hx => simp [bytesD] at h
    | .ptr _ _ :: r, h, hx => simp [bytesD] at h
    | .rptr _ :: r, h, hx => simp [bytesD] at h
    | .fn _ _ :: r, h, hx => simp [bytesD] at h
    | .nilf :: r, h, hx => simp [bytesD] at h
    | .iface _ _ :: r, h, hx => simp [bytesD] at h
    | .nili :: r, h, hx => simp [bytesD] at h
    | .int _ _ :: _ :: r, h, hx => simp [bytesD] at h

section
variable {P : Program} {N ntmps : Nat} {σ0 : St} {g0 : Gh} {w0 : World} {e : Env} {σ : St} {a : Act} {w : World} {g : Gh} {run : Run} {esc : Nat → Bool} {base : Nat} {dst : Option Nat} {d : Dat} {e1 : Env} {σ1 : St}

theorem op_b2s (h : Fr N ntmps σ0 g0 w0 e σ a w g) {x : Operand} {mx : MArg} (hx : argOf x = some mx) {s t el : TypeId} (hs : P.underlying s = some (.slice el)) (ht : P.underlying t = some .string) (hel : P.underlying el = some (.int .u8))
    (he : evalOp run esc base e σ (.b2s mx) = some (d, e1, σ1)) :
    ∃ v, (convert s t (a.eval x)).run P w = .ok v w ∧ Left N σ0 g0 w0 dst d v e1 σ1 a.tmps w g := by
  simp only [evalOp, Option.bind_eq_some_iff] at he
  obtain ⟨dx, hdx, he⟩ := he
  have ha := h.arg hx hdx
  have hr := ha.rep
  cases dx <;> simp only [reduceCtorEq, Option.bind_eq_some_iff, Option.some.injEq, Prod.mk.injEq] at he
  rename_i own xs
  obtain ⟨u, hu, rfl, rfl, rfl⟩ := he
  simp only [Rep] at hr
  obtain ⟨A, c, hv, hlc, _, hrow⟩ := hr
  refine ⟨.string ⟨u.toArray⟩, ?_, h.left_flat (d := .str u) rfl⟩
  rw [hv]
  by_cases hne : xs = []
  · subst hne
    obtain rfl : u = [] := by simpa [bytesD] using hu.symm
    rw [run_convert_bytes_string w s t el A _ c hs hel ht]
    cases A with
    | none => simp [Conv.bytesToString]; rfl
    | some ad =>
      have := run_bytesToString (P := P) w ad 0 c [] (by simpa using run_loadCells_list (P := P) w ad [] (by simp))
      simp only [List.foldl_nil] at this
      exact this
  · obtain ⟨b, off, m, rfl, hp, hrows⟩ := hrow hne
    obtain ⟨vss, o1, o2, o3, o4, o5⟩ := rows_vals hrows
    obtain ⟨ns, k1, rfl, k3⟩ := bytesD_vals hu o1 (fun i x vs hi hv => (o3 i x vs hi hv).2.1)
    have := run_convert_bytes_arg (P := P) w s el hs hel b off xs.length c ns k3 (fun i hi => by
      refine o4 i _ ?_
      rw [k1, List.getElem?_map, List.getElem?_eq_getElem (by omega)]
      simp [List.getD, List.getElem?_eq_getElem (show i < ns.length by omega)]) t ht
    rw [this]
    rfl

theorem op_s2b (h : Fr N ntmps σ0 g0 w0 e σ a w g) (hN : 0 < N) {x : Operand} {mx : MArg} (hx : argOf x = some mx) {s t el : TypeId} (hs : P.underlying s = some .string) (ht : P.underlying t = some (.slice el)) (hel : P.underlying el = some (.int .u8))
    (he : evalOp run esc base e σ (.s2b mx) = some (d, e1, σ1)) :
    ∃ v w' g', (convert s t (a.eval x)).run P w = .ok v w' ∧ Left N σ0 g0 w0 dst d v e1 σ1 a.tmps w' g' := by
  simp only [evalOp, Option.bind_eq_some_iff] at he
  obtain ⟨dx, hdx, he⟩ := he
  have hr := (h.arg hx hdx).rep
  cases dx <;> simp only [reduceCtorEq] at he
  rename_i u
  split at he
  · rename_i hle
    simp only [Option.some.injEq, Prod.mk.injEq] at he
    obtain ⟨rfl, rfl, rfl⟩ := he
    simp only [Rep] at hr
    have hsz : (ByteArray.mk u.toArray).size = u.length := by simp [ByteArray.size]
    have hrun := Lib.run_convert_string_bytes (P := P) w s t el ⟨u.toArray⟩ hs ht hel
    have hbs := Lib.bytesWorld_size w el ⟨u.toArray⟩
    have hbo := fun j hj => Lib.bytesWorld_at_old w el ⟨u.toArray⟩ j hj
    have hbc := fun j hj => Lib.bytesWorld_cell w el ⟨u.toArray⟩ j hj
    have hge := grownCap_ge w (ByteArray.mk u.toArray).size 0 el
    have hos : (Lib.bytesWorld w el ⟨u.toArray⟩).os = w.os ∧ (Lib.bytesWorld w el ⟨u.toArray⟩).tape = w.tape ∧ (Lib.bytesWorld w el ⟨u.toArray⟩).output = w.output := ⟨rfl, rfl, rfl⟩
    rw [hsz] at hrun hge hbc
    generalize Lib.bytesWorld w el ⟨u.toArray⟩ = w' at hrun hbs hbo hbc hos
    generalize grownCap w u.length 0 el = C at hrun hge
    have hb := h.block0 (w' := w') hos.1 hos.2.1 hos.2.2 hbs hbo u.length none (by simp)
    refine ⟨_, w', _, by rw [hr]; exact hrun, hb.left ?_ (fun _ _ => trivial) ?_⟩
    · simp only [Rep]
      refine ⟨some ⟨w.heap.size, 0, none⟩, C, by simp [rowsU], by simpa [rowsU] using hge, by simp, fun _ => ⟨w.heap.size, 0, 1, rfl, by simp [rowsU], ?_⟩⟩
      refine RepRows_mk fun i x hxi => ?_
      simp only [rowsU, List.getElem?_map, Option.map_eq_some_iff] at hxi
      obtain ⟨c, hc, rfl⟩ := hxi
      refine ⟨rfl, ?_⟩
      simp only [RepAt, Rep]
      refine ⟨⟨_, ?_, rfl, rfl⟩, trivial⟩
      rw [Nat.zero_add, Nat.mul_one, hbc i (List.getElem?_eq_some_iff.1 hc).1]
      simp [List.getD, hc]
    · simp only [Dat.under]
      exact underLL_mk fun x hx => by
        obtain ⟨c, _, rfl⟩ := List.mem_map.1 hx
        rfl
  · cases he

theorem natOf_at {f : Operand} {k : Nat} (h : natOf P f = some k) : k = 0 ∧ ∃ i fn, f = .func i ∧ P.funcs[i]? = some fn ∧ fn.name = "internal/bytealg.IndexByteString" ∧ fn.origin = "" ∧ fn.body.isNone = true := by
  unfold natOf at h
  split at h
  · simp only [Option.bind_eq_some_iff] at h
    obtain ⟨fn, hfn, h⟩ := h
    split at h
    · rename_i hc
      injection h with h
      exact ⟨h.symm, _, fn, rfl, hfn, hc.1, hc.2.1, hc.2.2⟩
    · cases h
  · cases h
theorem op_nat (h : Fr N ntmps σ0 g0 w0 e σ a w g) {o : Oper} {f : Operand} {args : Array Operand} {ts : Array TypeId} (ho : o.op = .call { callee := .value f, args := args, argTypes := ts }) {k : Nat} (hk : natOf P f = some k) {ms : List MArg} (hargs : argsOf args = some ms)
    (he : evalOp run esc base e σ (.nat k ms) = some (d, e1, σ1)) : ∃ v, (execOp a.eval o).run P w = .ok (.value v) w ∧ Left N σ0 g0 w0 dst d v e1 σ1 a.tmps w g := by
  obtain ⟨rfl, i, fn, rfl, hfn, hname, horig, hbody⟩ := natOf_at hk
  simp only [evalOp, Option.bind_eq_some_iff, Option.some.injEq, Prod.mk.injEq] at he
  obtain ⟨l, hl, d', hd, rfl, rfl, rfl⟩ := he
  obtain ⟨hrl, hul⟩ := h.args hargs hl
  unfold natD at hd
  split at hd
  · rename_i u c _
    split at hd
    · rename_i hc
      injection hd with hd
      subst hd
      refine ⟨_, ?_, h.left_flat (d := .int .i64 (idxB u c 0)) rfl⟩
      simp only [RepL, Rep] at hrl
      obtain ⟨v1, r1, e1, hv1, v2, r2, e2, hv2, e3⟩ := hrl
      subst hv1 hv2 e3 e2
      have hargsE : (#[] ++ args.map a.eval ++ #[] : Array Value) = #[.string ⟨u.toArray⟩, .int .u8 c] := by
        apply Array.ext'
        simpa using e1
      have hx := run_callFunc_extern (P := P) (f := i) (e := Extern.BytealgIndexByte.indexByte) hfn (by rw [hname]; rfl) hbody (by unfold Extern.findNext; rw [hname, horig]; kernel_rfl) (by unfold Extern.find; rw [hname]; kernel_rfl) #[.string ⟨u.toArray⟩, .int .u8 c] w
      rw [run_indexByte_string, Lib.firstIdx_eq] at hx
      have hidx := idxB_zero u c hc.1 hc.2
      simp only [execOp, ho, Act.eval, resolve, Deferred.ofValue, Sem.run_bind, Sem.run_pure, Result.andThen_ok, invoke]
      rw [hargsE]
      rw [hx, hidx]
      rfl
    · cases hd
  · cases hd
end
end Go.Mir
