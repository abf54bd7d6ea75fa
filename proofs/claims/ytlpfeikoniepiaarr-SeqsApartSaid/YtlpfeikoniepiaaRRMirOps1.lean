/- Operations, first part: those that touch no memory. -/
import Derived.Test.YtlpfeikoniepiaaRRMirFrame
import Derived.Test.YtlpfeikoniepiaaRRMirComp
import Derived.Laws.Small
import Derived.Laws.StructEq
import Derived.Laws.Slices
import Derived.Laws.Concat
import Derived.WideLaws
set_option linter.all false
namespace Go.Mir
set_option linter.unusedVariables false
set_option linter.unusedSimpArgs false
set_option linter.unusedSectionVars false

theorem cellDat_rep {g : Gh} {w : World} {v : Value} {d : Dat} (h : cellDat v = some d) : Rep g w d v ∧ d.under 0 = true ∧ d.safe = true ∧ d.isCell = true := by
  unfold cellDat at h
  split at h <;> try (injection h with h; subst h)
  · simp [Rep, Dat.under, Dat.safe, Dat.isCell]
  · simp [Rep, Dat.under, Dat.safe, Dat.isCell]
  · simp [Rep, Dat.under, Dat.safe, Dat.isCell]
  · simp [Rep, Dat.under, Dat.safe, Dat.isCell]
  · refine ⟨?_, rfl, rfl, rfl⟩
    simp only [Rep]
    exact ⟨none, 0, by simp, by simp, by simp, by simp⟩
  · simp [Rep, Dat.under, Dat.safe, Dat.isCell]
  · simp [Rep, Dat.under, Dat.safe, Dat.isCell]
  · cases h

/-- What is known of an operand. -/
structure ArgOk (N n : Nat) (g : Gh) (w : World) (e : Env) (tmps : Array Value) (m : MArg) (d : Dat) (v : Value) : Prop where
  rep : Rep g w d v
  under : d.under n = true
  own : (d.safe = true ∧ ∃ l, m = .lit l) ∨ ∃ t, m = .tmp t ∧ Env.get e t = some d ∧ tmps[t]? = some v ∧ Own g w (fun i => .slot N t i) d v

section
variable {P : Program} {N ntmps : Nat} {σ0 : St} {g0 : Gh} {w0 : World} {e : Env} {σ : St} {a : Act} {w : World} {g : Gh}

theorem Fr.arg (h : Fr N ntmps σ0 g0 w0 e σ a w g) {x : Operand} {m : MArg} {d : Dat} (hx : argOf x = some m) (hd : m.ev e = some d) :
    ArgOk N σ.length g w e a.tmps m d (a.eval x) := by
  cases x with
  | tmp t =>
    simp only [argOf, Option.some.injEq] at hx
    subst hx
    simp only [MArg.ev] at hd
    obtain ⟨v, hv, hr, ho, hu⟩ := h.env t d hd
    have he : a.eval (.tmp t) = v := by simp [Act.eval, Array.getD_eq_getD_getElem?, hv]
    rw [he]
    exact ⟨hr, hu, .inr ⟨t, rfl, hd, hv, ho⟩⟩
  | const v =>
    simp only [argOf, Option.map_eq_some_iff] at hx
    obtain ⟨c, hc, rfl⟩ := hx
    simp only [MArg.ev, Option.some.injEq] at hd
    subst hd
    obtain ⟨h1, h2, h3, _⟩ := cellDat_rep (g := g) (w := w) hc
    exact ⟨h1, under_mono (Nat.zero_le _) _ h2, .inl ⟨h3, _, rfl⟩⟩
  | global i => simp [argOf] at hx
  | func f =>
    simp only [argOf, Option.some.injEq] at hx
    subst hx
    simp only [MArg.ev, Option.some.injEq] at hd
    subst hd
    refine ⟨?_, rfl, .inl ⟨rfl, _, rfl⟩⟩
    simp only [Rep]
    exact ⟨[], by simp [Act.eval], by simp [RepL]⟩

/-- What an operation comes to. -/
def Comes1 (N : Nat) (σ0 : St) (g0 : Gh) (w0 : World) (dst : Option Nat) (d : Dat) (e : Env) (σ : St) (tmps : Array Value) (r : Result Next) : Prop :=
  ∃ v w' g', (r = .ok (.value v) w' ∨ (r = .ok .skip w' ∧ v = undef)) ∧ Left N σ0 g0 w0 dst d v e σ tmps w' g'

theorem ArgOk.safe_own {n : Nat} {tmps : Array Value} {m : MArg} {d : Dat} {v : Value} (h : ArgOk N n g w e tmps m d v) (hc : ∀ cs, d ≠ .tup cs) (hs : ∀ own xs, d = .slice own xs → own = false) (π : Nat → Place) : Own g w π d v := by
  cases d <;> try trivial
  · exact absurd rfl (hc _)
  · rename_i own xs
    have := hs own xs rfl
    subst this
    trivial

theorem op_move (h : Fr N ntmps σ0 g0 w0 e σ a w g) (h0 : LB (N - 1) g0) (hN : 0 < N) {x : Operand} {m : MArg} (hx : argOf x = some m) {mv : Bool} {run : Run} {esc : Nat → Bool} {base : Nat} {s : Nat} {d : Dat} {e1 : Env} {σ1 : St}
    (he : evalOp run esc base e σ (.mov mv m) = some (d, e1, σ1)) :
    ∃ g', Left N σ0 g0 w0 (some s) d (a.eval x) e1 σ1 a.tmps w g' := by
  cases mv with
  | true =>
    simp only [evalOp, Option.bind_eq_some_iff, Option.some.injEq, Prod.mk.injEq] at he
    obtain ⟨c, hc, rfl, rfl, rfl⟩ := he
    have ha := h.arg hx hc
    rcases ha.own with ⟨hs, l, rfl⟩ | ⟨t, rfl, ht, hv, ho⟩
    · exact ⟨g, h.left ha.rep (fun _ _ => Own_safe ha.rep hs) ha.under⟩
    · obtain ⟨v, hv', hl⟩ := h.take_slot h0 hN (s := s) ht
      rw [hv] at hv'
      injection hv' with hv'
      rw [hv']
      refine ⟨g.map (slotTo N t s), ?_⟩
      simpa only [MArg.take, ht] using hl
  | false =>
    simp only [evalOp, Option.bind_eq_some_iff, Option.some.injEq, Prod.mk.injEq] at he
    obtain ⟨c, hc, rfl, rfl, rfl⟩ := he
    have ha := h.arg hx hc
    exact ⟨g, h.left (Rep_strip ha.rep) (fun _ _ => Own_strip) (by rw [under_strip]; exact ha.under)⟩

theorem op_pick (h : Fr N ntmps σ0 g0 w0 e σ a w g) {c x y : Operand} {mc mx my : MArg} (hc : argOf c = some mc) (hx : argOf x = some mx) (hy : argOf y = some my) {run : Run} {esc : Nat → Bool} {base : Nat} {dst : Option Nat} {d : Dat} {e1 : Env} {σ1 : St}
    (he : evalOp run esc base e σ (.pick mc mx my) = some (d, e1, σ1)) :
    ∃ b, a.eval c = .bool b ∧ Left N σ0 g0 w0 dst d (if b then a.eval x else a.eval y) e1 σ1 a.tmps w g := by
  simp only [evalOp, Option.bind_eq_some_iff] at he
  obtain ⟨dc, hdc, he⟩ := he
  have hac := h.arg hc hdc
  cases dc <;> simp only [Option.bind_eq_some_iff, reduceCtorEq] at he
  rename_i b
  obtain ⟨d2, hd2, he⟩ := he
  simp only [Option.some.injEq, Prod.mk.injEq] at he
  obtain ⟨rfl, rfl, rfl⟩ := he
  have hb : a.eval c = .bool b := by simpa [Rep] using hac.rep
  refine ⟨b, hb, ?_⟩
  cases b with
  | true =>
    have ha := h.arg hx hd2
    exact h.left (Rep_strip ha.rep) (fun _ _ => Own_strip) (by rw [under_strip]; exact ha.under)
  | false =>
    have ha := h.arg hy hd2
    exact h.left (Rep_strip ha.rep) (fun _ _ => Own_strip) (by rw [under_strip]; exact ha.under)
end

/-! ### arithmetic -/
/-- a value that is no composite -/
def Dat.flat : Dat → Bool
  | .int _ _ | .bool _ | .str _ => true
  | _ => false
theorem flat_own {g : Gh} {w : World} {π : Nat → Place} {d : Dat} {v : Value} (h : d.flat = true) : Own g w π d v := by cases d <;> first | trivial | simp [Dat.flat] at h
theorem flat_under {n : Nat} {d : Dat} (h : d.flat = true) : d.under n = true := by cases d <;> first | rfl | simp [Dat.flat] at h

def Dat.val : Dat → Value
  | .int k n => .int k n
  | .bool b => .bool b
  | .str s => .string ⟨s.toArray⟩
  | _ => _root_.Go.undef
theorem flat_rep {g : Gh} {w : World} {d : Dat} (h : d.flat = true) : Rep g w d d.val := by cases d <;> first | (simp only [Rep, Dat.val]; done) | simp [Dat.flat] at h
theorem flat_val {g : Gh} {w : World} {d : Dat} {v : Value} (h : d.flat = true) (hr : Rep g w d v) : v = d.val := by cases d <;> first | simpa only [Rep, Dat.val] using hr | simp [Dat.flat] at h
theorem beq_int (m n : Int) : (m == n) = decide (m = n) := by by_cases h : m = n <;> simp [h]

theorem run_int {P : Program} {w : World} {op : BinOp} {k k' : IntKind} {m n : Int} {t : TypeId} {x y : Operand} {d : Dat} (h : binD op (.int k m) (.int k' n) = some d) :
    ((do eqGuard op t x y (.int k m) (.int k' n); binOp op t (.int k m) (.int k' n)) : Sem Value).run P w = .ok d.val w ∧ d.flat = true := by
  rw [eqGuard_at_int]
  by_cases hk : k = k'
  · subst hk
    cases op <;> simp only [binD, intBin, if_true, Option.some.injEq] at h <;>
      first
      | (subst h; exact ⟨by simp [binOp, Op.intArith, Op.intCmp, Op.intBits, Dat.val, bits, beq_int, bne], rfl⟩)
      | (split at h
         · cases h
         · injection h with h
           subst h
           rename_i hn
           exact ⟨by simp [binOp, Op.intDiv, Op.shift, hn, Dat.val], rfl⟩)
  · cases op <;> simp only [binD, hk, if_false, reduceCtorEq] at h
    all_goals
      split at h
      · cases h
      · injection h with h
        subst h
        rename_i hn
        exact ⟨by simp [binOp, Op.shift, hn, Dat.val], rfl⟩

theorem less_eq (x y : List UInt8) : less x y = Op.bytesLess x y := by
  induction x generalizing y with
  | nil => cases y <;> rfl
  | cons a x ih =>
    cases y with
    | nil => rfl
    | cons b y => simp only [less, Op.bytesLess, ih]; by_cases h : a = b <;> simp [h]
theorem beq_bytes (x y : List UInt8) : (x == y) = decide (x = y) := by by_cases h : x = y <;> simp [h]

theorem run_str {P : Program} {w : World} {op : BinOp} {m n : List UInt8} {t : TypeId} {x y : Operand} {d : Dat} (h : binD op (.str m) (.str n) = some d) :
    ((do eqGuard op t x y (.string ⟨m.toArray⟩) (.string ⟨n.toArray⟩); binOp op t (.string ⟨m.toArray⟩) (.string ⟨n.toArray⟩)) : Sem Value).run P w = .ok d.val w ∧ d.flat = true := by
  rw [eqGuard_at_string]
  simp only [binD] at h
  have e1 : (ByteArray.mk m.toArray).size = m.length := by simp [ByteArray.size]
  have e2 : (ByteArray.mk n.toArray).size = n.length := by simp [ByteArray.size]
  cases op <;> simp only [strBin, Option.some.injEq, reduceCtorEq] at h
  case add =>
    split at h
    · rename_i hl
      injection h with h
      subst h
      refine ⟨?_, rfl⟩
      have : ¬ ((m.length + n.length : Nat) : Int) > IntKind.i64.max := by rw [IntKind.max_i64]; omega
      simp only [Sem.run_bind, Sem.run_pure, Result.andThen_ok, binOp, Op.stringOp, e1, e2, this, if_false, Dat.val]
      rw [_root_.Go.ByteArray.mk_append_mk]
    · cases h
  all_goals
    subst h
    exact ⟨by simp [binOp, Op.stringOp, Dat.val, less_eq, beq_bytes], rfl⟩

theorem bytes_toList (l : List UInt8) : (ByteArray.mk l.toArray).toList = l := by simp
/-! ### '==' of structs -/
theorem cellsEq_split : ∀ (ks ms : List Nat) (xs ys : List Dat) (r : Bool), cellsEq (ks ++ ms) xs ys = some r →
    ∃ r1 r2, cellsEq ks (xs.take ks.length) (ys.take ks.length) = some r1 ∧ cellsEq ms (xs.drop ks.length) (ys.drop ks.length) = some r2 ∧ r = (r1 && r2)
  | [], ms, xs, ys, r, h => ⟨true, r, by simp [cellsEq], by simpa using h, rfl⟩
  | k :: ks, ms, [], ys, r, h => by simp [cellsEq] at h
  | k :: ks, ms, x :: xs, [], r, h => by simp [cellsEq] at h
  | k :: ks, ms, x :: xs, y :: ys, r, h => by
    simp only [List.cons_append, cellsEq, Option.bind_eq_some_iff, Option.some.injEq] at h
    obtain ⟨b, hb, c, hc, rfl⟩ := h
    obtain ⟨r1, r2, h1, h2, rfl⟩ := cellsEq_split ks ms xs ys c hc
    exact ⟨b && r1, r2, by simp [cellsEq, hb, h1], by simpa using h2, by simp [Bool.and_assoc]⟩
theorem cellsEq_len : ∀ {ks : List Nat} {xs ys : List Dat} {r : Bool}, cellsEq ks xs ys = some r → xs.length = ks.length ∧ ys.length = ks.length
  | [], [], [], _, _ => ⟨rfl, rfl⟩
  | [], [], _ :: _, _, h => by simp [cellsEq] at h
  | [], _ :: _, _, _, h => by simp [cellsEq] at h
  | _ :: _, [], _, _, h => by simp [cellsEq] at h
  | _ :: _, _ :: _, [], _, h => by simp [cellsEq] at h
  | k :: ks, x :: xs, y :: ys, r, h => by
    simp only [cellsEq, Option.bind_eq_some_iff, Option.some.injEq] at h
    obtain ⟨b, _, c, hc, _⟩ := h
    have := cellsEq_len hc
    simp [this.1, this.2]
theorem cellEq_flat {k : Nat} {x y : Dat} {r : Bool} (h : cellEq k x y = some r) : x.flat = true ∧ y.flat = true := by
  cases x <;> cases y <;> simp [cellEq] at h <;> exact ⟨rfl, rfl⟩
theorem cellsEq_flat : ∀ {ks : List Nat} {xs ys : List Dat} {r : Bool}, cellsEq ks xs ys = some r → (∀ x ∈ xs, x.flat = true) ∧ ∀ y ∈ ys, y.flat = true
  | [], [], [], _, _ => by simp
  | [], [], _ :: _, _, h => by simp [cellsEq] at h
  | [], _ :: _, _, _, h => by simp [cellsEq] at h
  | _ :: _, [], _, _, h => by simp [cellsEq] at h
  | _ :: _, _ :: _, [], _, h => by simp [cellsEq] at h
  | k :: ks, x :: xs, y :: ys, r, h => by
    simp only [cellsEq, Option.bind_eq_some_iff] at h
    obtain ⟨b, hb, c, hc, _⟩ := h
    obtain ⟨h1, h2⟩ := cellEq_flat hb
    obtain ⟨h3, h4⟩ := cellsEq_flat hc
    exact ⟨by simpa [h1] using h3, by simpa [h2] using h4⟩
def valT (agg : Bool) (xs : List Dat) : Value := if agg then .agg (xs.map Dat.val).toArray else ((xs.map Dat.val).head?).getD _root_.Go.undef
theorem run_part {P : Program} {w : World} {t : TypeId} {agg : Bool} {n : Nat} (ha : aggP P t = some agg) (hn : agg = true → sizeP P t = some n) (h1 : agg = false → n = 1) (cs : List Value) (off : Nat) (hl : off + n ≤ cs.length) :
    (part t cs.toArray off).run P w = .ok (if agg then .agg ((cs.drop off).take n).toArray else (((cs.drop off).take n).head?).getD _root_.Go.undef) w := by
  simp only [aggP, Option.map_eq_some_iff] at ha
  obtain ⟨dsc, hd, ha⟩ := ha
  cases agg with
  | true =>
    have hn := hn rfl
    simp only [sizeP, Option.map_eq_some_iff] at hn
    obtain ⟨inf, hi, rfl⟩ := hn
    have hag : (isAgg t).run P w = .ok true w := by
      simp only [isAgg, Sem.run_bind, run_underlying hd, Result.andThen_ok]
      split at ha <;> simp_all
    simp only [part, Sem.run_bind, hag, Result.andThen_ok, if_true, sizeOf, typeInfo, run_program, hi, Sem.run_pure]
    congr 2
    simp [List.extract_toArray, List.extract_eq_take_drop]
  | false =>
    have hag : (isAgg t).run P w = .ok false w := by
      simp only [isAgg, Sem.run_bind, run_underlying hd, Result.andThen_ok]
      split at ha <;> simp_all
    have hn1 := h1 rfl
    simp only [part, Sem.run_bind, hag, Result.andThen_ok, Bool.false_eq_true, if_false, hn1]
    have hlt : off < cs.length := by omega
    have e1 : cs.toArray[off]? = some cs[off] := by simp [hlt]
    have e2 : ((List.take 1 (List.drop off cs)).head?).getD _root_.Go.undef = cs[off] := by
      rw [List.drop_eq_getElem_cons hlt]
      rfl
    rw [e1, e2]
    rfl
theorem eqLay_agg {P : Program} {d : Nat} {t : TypeId} {n : List Nat} (h : eqLay P d t = some n) : ∃ agg, aggP P t = some agg ∧ (agg = true → sizeP P t = some n.length) ∧ (agg = false → n.length = 1) := by
  cases d with
  | zero => simp [eqLay] at h
  | succ d =>
    simp only [eqLay] at h
    split at h <;> rename_i hu
    · exact ⟨false, by simp [aggP, hu], by simp, fun _ => by simp at h; simp [← h]⟩
    · exact ⟨false, by simp [aggP, hu], by simp, fun _ => by simp at h; simp [← h]⟩
    · exact ⟨false, by simp [aggP, hu], by simp, fun _ => by simp at h; simp [← h]⟩
    · split at h
      · cases h
      · rename_i hc
        simp only [Bool.or_eq_true, not_or, bne_iff_ne, ne_eq, Decidable.not_not] at hc
        exact ⟨true, by simp [aggP, hu], fun _ => by rw [hc.2, h]; rfl, by simp⟩
    · cases h

theorem run_eqFields {P : Program} {d k : Nat} {xs ys : List Dat}
    (ih : ∀ t n, eqLay P d t = some n → ∀ (xs ys : List Dat) r, cellsEq n xs ys = some r → ∀ (agg : Bool), aggP P t = some agg → ∀ w, (Op.equalIn (d + k) t (valT agg xs) (valT agg ys)).run P w = .ok r w) :
    ∀ (fs : List Field) (off : Nat) (n : List Nat) (r : Bool), eqFs (eqLay P d) fs off = some n → off ≤ xs.length → off ≤ ys.length → cellsEq n (xs.drop off) (ys.drop off) = some r → ∀ w,
      (Op.eqFields (d + k) (xs.map Dat.val).toArray (ys.map Dat.val).toArray fs).run P w = .ok r w
  | [], off, n, r, hf, hl, hl2, hc, w => by
    simp only [eqFs, Option.some.injEq] at hf
    subst hf
    obtain ⟨h1, h2⟩ := cellsEq_len hc
    rw [List.eq_nil_of_length_eq_zero h1, List.eq_nil_of_length_eq_zero h2] at hc
    simp only [cellsEq, Option.some.injEq] at hc
    subst hc
    rfl
  | f :: fs, off, n, r, hf, hl, hl2, hc, w => by
    simp only [eqFs] at hf
    split at hf
    · rename_i hcond
      obtain ⟨hname, hoff⟩ := hcond
      obtain ⟨m, hm, hf⟩ := Option.bind_eq_some_iff.1 hf
      obtain ⟨n2, hf2, rfl⟩ := Option.map_eq_some_iff.1 hf
      obtain ⟨agg, ha, hs, h1⟩ := eqLay_agg hm
      obtain ⟨hx, hy⟩ := cellsEq_len hc
      simp only [List.length_drop, List.length_append] at hx hy
      obtain ⟨r1, r2, hc1, hc2, rfl⟩ := cellsEq_split m n2 _ _ r hc
      simp only [List.drop_drop] at hc2
      have e1 := run_part (w := w) ha hs h1 (xs.map Dat.val) off (by simp; omega)
      have e2 := run_part (w := w) ha hs h1 (ys.map Dat.val) off (by simp; omega)
      have e3 := ih f.type m hm _ _ r1 hc1 agg ha w
      have v1 : (if agg = true then Value.agg (((xs.map Dat.val).drop off).take m.length).toArray else ((((xs.map Dat.val).drop off).take m.length).head?).getD _root_.Go.undef) = valT agg ((xs.drop off).take m.length) := by simp only [valT, List.map_take, List.map_drop]
      have v2 : (if agg = true then Value.agg (((ys.map Dat.val).drop off).take m.length).toArray else ((((ys.map Dat.val).drop off).take m.length).head?).getD _root_.Go.undef) = valT agg ((ys.drop off).take m.length) := by simp only [valT, List.map_take, List.map_drop]
      rw [v1] at e1
      rw [v2] at e2
      simp only [Op.eqFields, hname, ne_eq, not_false_eq_true, if_true, hoff, Sem.run_bind, e1, e2, e3, Result.andThen_ok]
      cases r1 with
      | true =>
        simp only [Bool.not_true, Bool.false_eq_true, if_false, Bool.true_and]
        exact run_eqFields ih fs (off + m.length) n2 r2 hf2 (by omega) (by omega) hc2 w
      | false => simp
    · cases hf

theorem cell0 {x y : Dat} {r : Bool} (h : cellEq 0 x y = some r) : ∃ k a b, x = .int k a ∧ y = .int k b ∧ r = (a == b) := by
  cases x <;> cases y <;> simp [cellEq] at h
  obtain ⟨rfl, rfl⟩ := h
  exact ⟨_, _, _, rfl, rfl, (beq_int _ _).symm⟩
theorem cell1 {x y : Dat} {r : Bool} (h : cellEq 1 x y = some r) : ∃ a b, x = .bool a ∧ y = .bool b ∧ r = (a == b) := by
  cases x <;> cases y <;> simp [cellEq] at h
  exact ⟨_, _, rfl, rfl, h.symm⟩
theorem cell2 {x y : Dat} {r : Bool} (h : cellEq 2 x y = some r) : ∃ a b, x = .str a ∧ y = .str b ∧ r = (a == b) := by
  cases x <;> cases y <;> simp [cellEq] at h
  exact ⟨_, _, rfl, rfl, by rw [beq_bytes]; exact h.symm⟩
theorem run_eqLay {P : Program} (k : Nat) : ∀ (d : Nat) t n, eqLay P d t = some n → ∀ (xs ys : List Dat) r, cellsEq n xs ys = some r → ∀ (agg : Bool), aggP P t = some agg → ∀ w,
    (Op.equalIn (d + k) t (valT agg xs) (valT agg ys)).run P w = .ok r w
  | 0, t, n, h, _, _, _, _, _, _, _ => by simp [eqLay] at h
  | d + 1, t, n, h, xs, ys, r, hc, agg, ha, w => by
    have hdk : d + 1 + k = (d + k) + 1 := by omega
    rw [hdk]
    obtain ⟨hl, hyl⟩ := cellsEq_len hc
    simp only [eqLay] at h
    split at h <;> rename_i hu
    · injection h with h
      subst h
      match xs, ys, hl, hyl, hc with
      | [x], [y], _, _, hc =>
        have hag : agg = false := by simpa [aggP, hu] using ha.symm
        subst hag
        simp only [cellsEq, Option.bind_eq_some_iff, Option.bind_some, Option.some.injEq, Bool.and_true, exists_eq_right] at hc
        obtain ⟨k', m, n, rfl, rfl, rfl⟩ := cell0 hc
        exact run_equalIn_int w (d + k) t _ _ _ _ hu
    · injection h with h
      subst h
      match xs, ys, hl, hyl, hc with
      | [x], [y], _, _, hc =>
        have hag : agg = false := by simpa [aggP, hu] using ha.symm
        subst hag
        simp only [cellsEq, Option.bind_eq_some_iff, Option.bind_some, Option.some.injEq, Bool.and_true, exists_eq_right] at hc
        obtain ⟨m, n, rfl, rfl, rfl⟩ := cell1 hc
        exact run_equalIn_bool' w (d + k) t _ _ hu
    · injection h with h
      subst h
      match xs, ys, hl, hyl, hc with
      | [x], [y], _, _, hc =>
        have hag : agg = false := by simpa [aggP, hu] using ha.symm
        subst hag
        simp only [cellsEq, Option.bind_eq_some_iff, Option.bind_some, Option.some.injEq, Bool.and_true, exists_eq_right] at hc
        obtain ⟨m, n, rfl, rfl, rfl⟩ := cell2 hc
        have := run_equalIn_string (P := P) w (d + k) t ⟨m.toArray⟩ ⟨n.toArray⟩ hu
        rw [bytes_toList, bytes_toList] at this
        exact this
    · split at h
      · cases h
      · rename_i hcond
        simp only [Bool.or_eq_true, not_or, Bool.not_eq_true] at hcond
        have hag : agg = true := by simpa [aggP, hu] using ha.symm
        subst hag
        rename_i fs
        have hfo : P.fieldsOf t = fs := by simp [Program.fieldsOf, hu]
        simp only [valT, if_true]
        rw [run_equalIn_agg w (d + k) t _ _ (by rw [hfo]; exact hu) hcond.1, hfo]
        exact run_eqFields (run_eqLay k d) fs.toList 0 n r h (by omega) (by omega) (by simpa using hc) w
    · cases h

/-! ### the operations, as the machine does them -/
theorem repL_flat {g : Gh} {w : World} : ∀ {cs : List Dat} {vs : List Value}, (∀ x ∈ cs, x.flat = true) → RepL g w cs vs → vs = cs.map Dat.val
  | [], vs, _, h => by simpa [RepL] using h
  | c :: r, vs, hf, h => by
    simp only [RepL] at h
    obtain ⟨v, vr, rfl, hv, hr⟩ := h
    rw [flat_val (hf c (by simp)) hv, repL_flat (fun x hx => hf x (by simp [hx])) hr]
    rfl

section
variable {P : Program} {N ntmps : Nat} {σ0 : St} {g0 : Gh} {w0 : World} {e : Env} {σ : St} {a : Act} {w : World} {g : Gh} {run : Run} {esc : Nat → Bool} {base : Nat} {dst : Option Nat} {d : Dat} {e1 : Env} {σ1 : St}

theorem Fr.left_flat (h : Fr N ntmps σ0 g0 w0 e σ a w g) (hd : d.flat = true) : Left N σ0 g0 w0 dst d d.val e σ a.tmps w g :=
  h.left (flat_rep hd) (fun _ _ => flat_own hd) (flat_under hd)

theorem op_bin (h : Fr N ntmps σ0 g0 w0 e σ a w g) {x y : Operand} {mx my : MArg} (hx : argOf x = some mx) (hy : argOf y = some my) {op : BinOp} {t : TypeId}
    (he : evalOp run esc base e σ (.bin op mx my) = some (d, e1, σ1)) :
    ∃ v, ((do eqGuard op t x y (a.eval x) (a.eval y); binOp op t (a.eval x) (a.eval y)) : Sem Value).run P w = .ok v w ∧ Left N σ0 g0 w0 dst d v e1 σ1 a.tmps w g := by
  simp only [evalOp, Option.bind_eq_some_iff, Option.some.injEq, Prod.mk.injEq] at he
  obtain ⟨dx, hdx, dy, hdy, d', hd', rfl, rfl, rfl⟩ := he
  have hax := (h.arg hx hdx).rep
  have hay := (h.arg hy hdy).rep
  cases dx <;> cases dy <;> simp only [binD, reduceCtorEq] at hd'
  · simp only [Rep] at hax hay
    rw [hax, hay]
    obtain ⟨h1, h2⟩ := run_int (P := P) (w := w) (t := t) (x := x) (y := y) (show binD op (.int _ _) (.int _ _) = some _ from hd')
    exact ⟨_, h1, h.left_flat h2⟩
  · simp only [Rep] at hax hay
    rw [hax, hay]
    obtain ⟨h1, h2⟩ := run_str (P := P) (w := w) (t := t) (x := x) (y := y) (show binD op (.str _) (.str _) = some _ from hd')
    exact ⟨_, h1, h.left_flat h2⟩

theorem op_eqb (h : Fr N ntmps σ0 g0 w0 e σ a w g) {x y : Operand} {mx my : MArg} (hx : argOf x = some mx) (hy : argOf y = some my) {op : BinOp} {neq : Bool} {t : TypeId}
    (hop : (op = .eql ∧ neq = false) ∨ (op = .neq ∧ neq = true)) (ht : P.underlying t = some .bool)
    (he : evalOp run esc base e σ (.eqb neq mx my) = some (d, e1, σ1)) :
    ∃ v, ((do eqGuard op t x y (a.eval x) (a.eval y); binOp op t (a.eval x) (a.eval y)) : Sem Value).run P w = .ok v w ∧ Left N σ0 g0 w0 dst d v e1 σ1 a.tmps w g := by
  simp only [evalOp, Option.bind_eq_some_iff] at he
  obtain ⟨dx, hdx, dy, hdy, he⟩ := he
  have hax := (h.arg hx hdx).rep
  have hay := (h.arg hy hdy).rep
  cases dx <;> cases dy <;> simp only [reduceCtorEq, Option.some.injEq, Prod.mk.injEq] at he
  obtain ⟨rfl, rfl, rfl⟩ := he
  simp only [Rep] at hax hay
  rw [hax, hay]
  refine ⟨_, ?_, h.left_flat rfl⟩
  rcases hop with ⟨rfl, rfl⟩ | ⟨rfl, rfl⟩ <;> simp [eqGuard_at_bool, run_eql_bool, run_neq_bool, ht, Dat.val]

theorem op_eqs (h : Fr N ntmps σ0 g0 w0 e σ a w g) {x y : Operand} {mx my : MArg} (hx : argOf x = some mx) (hy : argOf y = some my) {op : BinOp} {neq : Bool} {t : TypeId} {ks : List Nat}
    (hop : (op = .eql ∧ neq = false) ∨ (op = .neq ∧ neq = true)) {fs : Array Field} (ht : P.underlying t = some (.struct fs)) (hg : P.eqGuardType P.depth t = false) (hk : eqLay P 20 t = some ks)
    (he : evalOp run esc base e σ (.eqs neq ks mx my) = some (d, e1, σ1)) :
    ∃ v, ((do eqGuard op t x y (a.eval x) (a.eval y); binOp op t (a.eval x) (a.eval y)) : Sem Value).run P w = .ok v w ∧ Left N σ0 g0 w0 dst d v e1 σ1 a.tmps w g := by
  simp only [evalOp, Option.bind_eq_some_iff] at he
  obtain ⟨dx, hdx, dy, hdy, he⟩ := he
  have hax := (h.arg hx hdx).rep
  have hay := (h.arg hy hdy).rep
  cases dx <;> cases dy <;> simp only [reduceCtorEq, Option.bind_eq_some_iff, Option.some.injEq, Prod.mk.injEq] at he
  obtain ⟨r, hr, rfl, rfl, rfl⟩ := he
  simp only [Rep] at hax hay
  obtain ⟨vs, hv, hl, _⟩ := hax
  obtain ⟨us, hu, hl', _⟩ := hay
  obtain ⟨f1, f2⟩ := cellsEq_flat hr
  rw [repL_flat f1 hl] at hv
  rw [repL_flat f2 hl'] at hu
  rw [hv, hu]
  have ha : aggP P t = some true := by simp [aggP, ht]
  have e1 := run_eqLay (P := P) 9980 20 t ks hk _ _ r hr true ha w
  simp only [valT, if_true] at e1
  refine ⟨_, ?_, h.left_flat rfl⟩
  rcases hop with ⟨rfl, rfl⟩ | ⟨rfl, rfl⟩
  · simp only [Sem.run_bind, run_eqGuard_agg w _ t x y _ _ hg, Result.andThen_ok, run_eql_struct]
    rw [e1]
    rfl
  · simp only [Sem.run_bind, run_eqGuard_agg w _ t x y _ _ hg, Result.andThen_ok, run_neq_struct]
    rw [e1]
    rfl

theorem op_un (h : Fr N ntmps σ0 g0 w0 e σ a w g) {x : Operand} {mx : MArg} (hx : argOf x = some mx) {op : UnOp}
    (he : evalOp run esc base e σ (.un op mx) = some (d, e1, σ1)) :
    ∃ v, (Op.unary op (a.eval x)).run P w = .ok v w ∧ Left N σ0 g0 w0 dst d v e1 σ1 a.tmps w g := by
  simp only [evalOp, Option.bind_eq_some_iff] at he
  obtain ⟨dx, hdx, he⟩ := he
  have hax := (h.arg hx hdx).rep
  cases op <;> cases dx <;> simp only [reduceCtorEq, Option.some.injEq, Prod.mk.injEq] at he <;> obtain ⟨rfl, rfl, rfl⟩ := he <;> simp only [Rep] at hax <;> rw [hax]
  · exact ⟨_, by simp [Op.unary, Op.intArith, Dat.val], h.left_flat rfl⟩
  · exact ⟨_, by simp [Op.unary, Dat.val], h.left_flat rfl⟩

theorem op_conv (h : Fr N ntmps σ0 g0 w0 e σ a w g) {x : Operand} {mx : MArg} (hx : argOf x = some mx) {s t : TypeId} {k k' : IntKind} (hs : P.underlying s = some (.int k')) (ht : P.underlying t = some (.int k))
    (he : evalOp run esc base e σ (.conv k mx) = some (d, e1, σ1)) :
    ∃ v, (convert s t (a.eval x)).run P w = .ok v w ∧ Left N σ0 g0 w0 dst d v e1 σ1 a.tmps w g := by
  simp only [evalOp, Option.bind_eq_some_iff] at he
  obtain ⟨dx, hdx, he⟩ := he
  have hax := (h.arg hx hdx).rep
  cases dx <;> simp only [reduceCtorEq, Option.some.injEq, Prod.mk.injEq] at he
  obtain ⟨rfl, rfl, rfl⟩ := he
  simp only [Rep] at hax
  rw [hax]
  exact ⟨_, by simp [convert, run_underlying hs, run_underlying ht, Conv.intToInt, Dat.val], h.left_flat rfl⟩

/-- several operands -/
theorem Fr.args (h : Fr N ntmps σ0 g0 w0 e σ a w g) : ∀ {l : List Operand} {ms : List MArg} {ds : List Dat}, l.mapM argOf = some ms → MArg.evs e ms = some ds →
    RepL g w ds (l.map a.eval) ∧ Dat.underL σ.length ds = true
  | [], ms, ds, hm, hd => by
    simp only [List.mapM_nil, Option.pure_def, Option.some.injEq] at hm
    subst hm
    simp only [MArg.evs, Option.some.injEq] at hd
    subst hd
    exact ⟨by simp [RepL], rfl⟩
  | x :: l, ms, ds, hm, hd => by
    simp only [List.mapM_cons, Option.bind_eq_bind, Option.bind_eq_some_iff, Option.pure_def, Option.some.injEq] at hm
    obtain ⟨m, hx, ms', hl, rfl⟩ := hm
    simp only [MArg.evs, Option.bind_eq_some_iff, Option.some.injEq] at hd
    obtain ⟨d, hd, ds', hds, rfl⟩ := hd
    have ha := h.arg hx hd
    obtain ⟨h1, h2⟩ := h.args hl hds
    exact ⟨RepL_cons ha.rep h1, by simp [Dat.underL, ha.under, h2]⟩

theorem op_mkfn (h : Fr N ntmps σ0 g0 w0 e σ a w g) {l : Array Operand} {ms : List MArg} {f : Nat} (hl : argsOf l = some ms)
    (he : evalOp run esc base e σ (.mkfn f ms) = some (d, e1, σ1)) :
    ∃ v, (Instr.makeFunc (.func f) #[] (l.map a.eval)).run P w = .ok v w ∧ Left N σ0 g0 w0 dst d v e1 σ1 a.tmps w g := by
  simp only [evalOp, Option.bind_eq_some_iff, Option.some.injEq, Prod.mk.injEq] at he
  obtain ⟨ds, hds, rfl, rfl, rfl⟩ := he
  obtain ⟨h1, h2⟩ := h.args hl hds
  refine ⟨_, rfl, h.left ?_ (fun _ _ => trivial) (by simp only [Dat.under]; rw [underL_map under_strip1]; exact h2)⟩
  simp only [Rep]
  refine ⟨_, ?_, RepL_map (fun _ _ => Rep_strip1) h1⟩
  congr 1
  apply Array.ext'
  simp

theorem op_extract (h : Fr N ntmps σ0 g0 w0 e σ a w g) (h0 : LB (N - 1) g0) (hN : 0 < N) {x : Operand} {mx : MArg} (hx : argOf x = some mx) {i s : Nat}
    (he : evalOp run esc base e σ (.extract i mx) = some (d, e1, σ1)) :
    ∃ v g', (Instr.extract (a.eval x) i).run P w = .ok v w ∧ Left N σ0 g0 w0 (some s) d v e1 σ1 a.tmps w g' := by
  simp only [evalOp, Option.bind_eq_some_iff] at he
  obtain ⟨dx, hdx, he⟩ := he
  have ha := h.arg hx hdx
  cases dx <;> simp only [reduceCtorEq, Option.bind_eq_some_iff] at he
  rename_i cs
  obtain ⟨c, hc, he⟩ := he
  have hr := ha.rep
  rcases ha.own with ⟨_, l, rfl⟩ | ⟨t, rfl, ht, hv, ho⟩
  · simp only [reduceCtorEq] at he
  simp only [Option.some.injEq, Prod.mk.injEq] at he
  obtain ⟨rfl, rfl, rfl⟩ := he
  simp only [Rep] at hr
  obtain ⟨vs, hvs, hl, hnt⟩ := hr
  obtain ⟨u, hu, hur⟩ := RepL_get hl hc
  have hcu : c.under σ.length = true := underL_get (by simpa [Dat.under] using ha.under) hc
  let φ : Place → Place := fun π => match π with
    | .slot m q j => if m = N ∧ q = t ∧ j = i then .slot N s 0 else .slot m q j
    | π => π
  have hlt : ∀ m q j, m < N → φ (.slot m q j) = .slot m q j := fun m q j hm => by simp [φ, show ¬ m = N by omega]
  refine ⟨u, g.map φ, ?_, ⟨fun q c' hc' hq => ?_, fun q hq => ?_, h.st.map φ (fun _ _ => rfl), h.ch.map h0 hN φ ⟨hlt, fun _ _ _ => rfl⟩, ?_⟩⟩
  · rw [hvs]
    simp [Instr.extract, hu]
  · by_cases hqt : q = t
    · subst hqt
      rw [Env.get_put_same] at hc'
      injection hc' with hc'
      subst hc'
      refine ⟨a.eval x, hv, ?_, ?_, ?_⟩
      · refine Rep_ext (N := σ.length) (Ext.map φ) _ _ ?_ ?_
        · simp only [Dat.under]
          refine underL_mk fun d hd => ?_
          rcases List.mem_or_eq_of_mem_set hd with hd | rfl
          · exact underL_mem (by simpa [Dat.under] using ha.under) d hd
          · rw [under_strip1]; exact hcu
        · simp only [Rep]
          refine ⟨vs, hvs, RepL_mk (by rw [List.length_set]; exact RepL_len hl) fun j dj vj hdj hvj => ?_, ?_⟩
          case refine_2 =>
            rw [List.all_eq_true]
            intro d hd
            rcases List.mem_or_eq_of_mem_set hd with hd | rfl
            · exact List.all_eq_true.1 hnt d hd
            · have := List.all_eq_true.1 hnt c (List.mem_of_getElem? hc)
              cases c <;> simp_all [Dat.strip1, Dat.noTup]
          rw [List.getElem?_set] at hdj
          split at hdj
          · rename_i hij
            subst hij
            split at hdj
            · injection hdj with hdj
              subst hdj
              rw [hu] at hvj
              injection hvj with hvj
              subst hvj
              exact Rep_strip1 hur
            · cases hdj
          · obtain ⟨vj', hvj', hr'⟩ := RepL_get hl hdj
            rw [hvj] at hvj'
            injection hvj' with hvj'
            rw [hvj']; exact hr'
      · simp only [Own] at ho ⊢
        intro vs' hvs' j xs uj hxs huj
        rw [List.getElem?_set] at hxs
        split at hxs
        · rename_i hij
          subst hij
          split at hxs
          · injection hxs with hxs
            cases c <;> simp [Dat.strip1] at hxs
          · cases hxs
        · rename_i hij
          have := (ho vs' hvs' j xs uj hxs huj).map φ
          simpa [φ, show ¬ j = i from fun e => hij e.symm] using this
      · simp only [Dat.under]
        refine underL_mk fun d hd => ?_
        rcases List.mem_or_eq_of_mem_set hd with hd | rfl
        · exact underL_mem (by simpa [Dat.under] using ha.under) d hd
        · rw [under_strip1]; exact hcu
    · rw [Env.get_put_other _ _ hqt] at hc'
      obtain ⟨u1, hu1, hr1, ho1, hu2⟩ := h.env q c' hc'
      exact ⟨u1, hu1, Rep_ext (N := σ.length) (Ext.map φ) _ _ hu2 hr1, ho1.map φ (fun j => by simp [φ, hqt]), hu2⟩
  · injection hq with hq
    subst hq
    refine ⟨Rep_ext (N := σ.length) (Ext.map φ) _ _ hcu hur, ?_, hcu⟩
    cases c <;> try trivial
    · have := List.all_eq_true.1 hnt _ (List.mem_of_getElem? hc)
      simp [Dat.noTup] at this
    · rename_i own xs
      cases own
      · trivial
      · simp only [Own] at ho ⊢
        have := (ho vs hvs i xs u hc hu).map φ
        simpa [φ] using this
  · refine h.lb.map φ fun π hπ => ?_
    cases π <;> simp only [φ] <;> try exact hπ
    split
    · exact Nat.le_refl _
    · exact hπ
end
end Go.Mir
