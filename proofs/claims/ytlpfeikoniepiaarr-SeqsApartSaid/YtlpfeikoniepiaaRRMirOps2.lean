/- Operations, second part: cuts, fields, elements; nothing is written. -/
import Derived.Test.YtlpfeikoniepiaaRRMirOps1
import Derived.Lib.Strings
set_option linter.all false
namespace Go.Mir
set_option linter.unusedVariables false
set_option linter.unusedSectionVars false
set_option linter.unusedSimpArgs false

theorem all_len {α : Type} (f : α → List Dat) (n : Nat) (h : ∀ a, (f a).length = n) (l : List α) : ((l.map f).all fun x => x.length == n) = true := by simp [h]

section
variable {P : Program} {N ntmps : Nat} {σ0 : St} {g0 : Gh} {w0 : World} {e : Env} {σ : St} {a : Act} {w : World} {g : Gh} {run : Run} {esc : Nat → Bool} {base : Nat} {dst : Option Nat} {d : Dat} {e1 : Env} {σ1 : St}

theorem Fr.bound (h : Fr N ntmps σ0 g0 w0 e σ a w g) {x : Operand} {m : MArg} {n dflt : Nat} (hx : argOf x = some m) (hb : Go.Mir.bound e dflt (some m) = some n) : ∃ k, a.eval x = .int k (n : Int) := by
  simp only [Go.Mir.bound, Option.bind_eq_some_iff] at hb
  obtain ⟨d, hd, hb⟩ := hb
  have hr := (h.arg hx hd).rep
  cases d <;> simp only [reduceCtorEq] at hb
  split at hb
  · injection hb with hb
    simp only [Rep] at hr
    rename_i k i h0
    exact ⟨k, by rw [hr, ← hb, Int.toNat_of_nonneg h0]⟩
  · cases hb
theorem run_bound {w : World} {k : IntKind} {n y : Nat} {c : BoundsCode} (h : n ≤ y) : (Instr.sliceBound (.int k (n : Int)) y c).run P w = .ok n w := by
  simp [Instr.sliceBound, asIntOf, h]

/-- the three bounds of a cut -/
theorem run_bounds (h : Fr N ntmps σ0 g0 w0 e σ a w g) (sl : Bool) {len cap l hh m : Nat} {lo hi mx : Option Operand} {ml mh mm : Option MArg} (hlo : optOf lo = some ml) (hhi : optOf hi = some mh) (hmx : optOf mx = some mm)
    (hb1 : Go.Mir.bound e 0 ml = some l) (hb2 : Go.Mir.bound e len mh = some hh) (hb3 : Go.Mir.bound e hh mm = some m) (hlh : l ≤ hh) (hhl : hh ≤ len) (hm : m = hh) (hc : len ≤ cap) (hnn : mx.isSome = true → hi.isSome = true) :
    (Instr.sliceBounds sl len cap (lo.map a.eval) (hi.map a.eval) (mx.map a.eval)).run P w = .ok (l, hh, if mx.isSome then hh else cap) w := by
  subst hm
  have L : ∀ (x : Option Operand) (mx : Option MArg) (n dflt : Nat), optOf x = some mx → Go.Mir.bound e dflt mx = some n → (x = none ∧ n = dflt) ∨ ∃ o k, x = some o ∧ a.eval o = .int k (n : Int) := by
    intro x mx n dflt hx hb
    cases x with
    | none =>
      simp only [optOf, Option.some.injEq] at hx
      subst hx
      simp only [Go.Mir.bound, Option.some.injEq] at hb
      exact .inl ⟨rfl, hb.symm⟩
    | some o =>
      simp only [optOf, Option.map_eq_some_iff] at hx
      obtain ⟨mo, hmo, rfl⟩ := hx
      obtain ⟨k, hk⟩ := h.bound hmo hb
      exact .inr ⟨o, k, rfl, hk⟩
  rcases L lo ml l 0 hlo hb1 with ⟨rfl, rfl⟩ | ⟨ol, kl, rfl, el⟩ <;> rcases L hi mh m len hhi hb2 with ⟨rfl, rfl⟩ | ⟨oh, kh, rfl, eh⟩ <;> rcases L mx mm m m hmx hb3 with ⟨rfl, _⟩ | ⟨om, km, rfl, em⟩ <;>
    simp only [Option.isSome_none, Option.isSome_some, Bool.false_eq_true, forall_const, reduceCtorEq, imp_self] at hnn <;>
    simp [Instr.sliceBounds, *, run_bound (P := P) (w := w) hlh, run_bound (P := P) (w := w) (Nat.le_trans hhl hc), run_bound (P := P) (w := w) (Nat.le_refl m), run_bound (P := P) (w := w) (Nat.zero_le _)]

theorem RepRows_cut {b off m : Nat} {xs : List (List Dat)} (hr : RepRows g w b off m xs) (l n : Nat) : RepRows g w b (off + l * m) m ((xs.drop l).take n) := by
  refine RepRows_mk fun i x hx => ?_
  rw [List.getElem?_take] at hx
  split at hx
  · rw [List.getElem?_drop] at hx
    obtain ⟨h1, h2⟩ := RepRows_get hr hx
    refine ⟨h1, ?_⟩
    rwa [show off + l * m + i * m = off + (l + i) * m by rw [Nat.add_mul]; omega]
  · cases hx

theorem underLL_cut {n : Nat} {xs : List (List Dat)} (h : Dat.underLL n xs = true) (l k : Nat) : Dat.underLL n ((xs.drop l).take k) = true :=
  underLL_mk fun d hd => underLL_mem h d (List.mem_of_mem_drop (List.mem_of_mem_take hd))

theorem op_slice (h : Fr N ntmps σ0 g0 w0 e σ a w g) {x : Operand} {lo hi mx : Option Operand} {mx' : MArg} {ml mh mm : Option MArg} (hx : argOf x = some mx') (hlo : optOf lo = some ml) (hhi : optOf hi = some mh) (hmx : optOf mx = some mm)
    {t el esz : Nat} (ht : P.underlying t = some (.slice el)) (hs : sizeP P el = some esz) (hnn : mx.isSome = true → hi.isSome = true)
    (he : evalOp run esc base e σ (.slice esz mx' ml mh mm) = some (d, e1, σ1)) :
    ∃ v, (Instr.sliceAt t (a.eval x) (lo.map a.eval) (hi.map a.eval) (mx.map a.eval)).run P w = .ok v w ∧ Left N σ0 g0 w0 dst d v e1 σ1 a.tmps w g := by
  simp only [evalOp, Option.bind_eq_some_iff] at he
  obtain ⟨dx, hdx, he⟩ := he
  have ha := h.arg hx hdx
  cases dx <;> simp only [reduceCtorEq, Option.bind_eq_some_iff] at he
  rename_i own xs
  obtain ⟨l, hl, hh, hhh, m, hm, he⟩ := he
  split at he
  · rename_i hc
    obtain ⟨hlh, hhl, hmh, hall⟩ := hc
    simp only [Option.some.injEq, Prod.mk.injEq] at he
    obtain ⟨rfl, rfl, rfl⟩ := he
    have hr := ha.rep
    simp only [Rep] at hr
    obtain ⟨A, c, hv, hlc, h0, hrow⟩ := hr
    have hb := run_bounds (P := P) h true hlo hhi hmx hl hhh hm hlh hhl hmh hlc hnn
    simp only [sizeP, Option.map_eq_some_iff] at hs
    obtain ⟨inf, hinf, rfl⟩ := hs
    have hmm : mm.isSome = mx.isSome := by
      cases mx with
      | none => simp only [optOf, Option.some.injEq] at hmx; subst hmx; rfl
      | some o => simp only [optOf, Option.map_eq_some_iff] at hmx; obtain ⟨_, _, rfl⟩ := hmx; rfl
    refine ⟨.slice (if (if mx.isSome then hh else c) = l then A else A.map (·.add (l * inf.size))) (hh - l) ((if mx.isSome then hh else c) - l), ?_, h.left ?_ ?_ ?_⟩
    · simp only [Instr.sliceAt, Instr.slice, Sem.run_bind, run_underlying ht, Result.andThen_ok, hv, hb, sizeOf, typeInfo, run_program, hinf, Sem.run_pure]
    · have hcut : ((xs.drop l).take (hh - l)).length = hh - l := by rw [List.length_take, List.length_drop]; omega
      simp only [Rep]
      refine ⟨_, _, by rw [hcut], ?_, ?_, fun hne => ?_⟩
      · rw [hcut]; split <;> omega
      · intro ho hnil
        rw [hmm] at ho
        rw [hnil] at hcut
        simp only [ho, if_true]
        simpa using hcut.symm
      · have hlt : l < hh := by
          rcases Nat.lt_or_ge l hh with h' | h'
          · exact h'
          · have : hh - l = 0 := by omega
            rw [this] at hne
            simp at hne
        have hxne : xs ≠ [] := by intro e; subst e; simp at hhl; omega
        obtain ⟨b, off, m0, hA, hp, hrows⟩ := hrow hxne
        have hne2 : (if mx.isSome then hh else c) ≠ l := by split <;> omega
        rw [if_neg hne2, hA]
        by_cases hl0 : l = 0
        · subst hl0
          refine ⟨b, off, m0, by simp [Addr.add], ?_, ?_⟩
          · rw [hcut]; exact Nat.le_trans (Nat.add_le_add_left (Nat.mul_le_mul_right _ (by omega)) _) hp
          · have := RepRows_cut hrows 0 (hh - 0)
            simpa using this
        · have hm0 : inf.size = m0 := by
            have h1 := hall.resolve_left hl0
            obtain ⟨x0, hx0⟩ : ∃ x0, xs[0]? = some x0 := by
              cases xs with
              | nil => exact absurd rfl hxne
              | cons y ys => exact ⟨y, rfl⟩
            have h2 := (RepRows_get hrows hx0).1
            have h3 := List.all_eq_true.1 h1 x0 (List.mem_of_getElem? hx0)
            simp only [beq_iff_eq] at h3
            omega
          subst hm0
          refine ⟨b, off + l * inf.size, inf.size, ?_, ?_, RepRows_cut hrows l (hh - l)⟩
          · simp only [Option.map_some, Addr.add_lit]
          · rw [hcut]
            refine Nat.le_trans ?_ hp
            rw [Nat.add_assoc, ← Nat.add_mul]
            exact Nat.add_le_add_left (Nat.mul_le_mul_right _ (by omega)) _
    · intro s _
      rw [hmm]
      cases hmx2 : mx.isSome with
      | false => trivial
      | true =>
        have hcut : ((xs.drop l).take (hh - l)).length = hh - l := by rw [List.length_take, List.length_drop]; omega
        simp only [Own]
        exact ⟨_, _, by rw [hcut], .inl (by rw [hcut]; simp)⟩
    · simp only [Dat.under]
      exact underLL_cut (by simpa [Dat.under] using ha.under) _ _
  · cases he

theorem op_substr (h : Fr N ntmps σ0 g0 w0 e σ a w g) {x : Operand} {lo hi : Option Operand} {mx' : MArg} {ml mh : Option MArg} (hx : argOf x = some mx') (hlo : optOf lo = some ml) (hhi : optOf hi = some mh)
    {t : Nat} (ht : P.underlying t = some .string) (he : evalOp run esc base e σ (.substr mx' ml mh) = some (d, e1, σ1)) :
    ∃ v, (Instr.sliceAt t (a.eval x) (lo.map a.eval) (hi.map a.eval) none).run P w = .ok v w ∧ Left N σ0 g0 w0 dst d v e1 σ1 a.tmps w g := by
  simp only [evalOp, Option.bind_eq_some_iff] at he
  obtain ⟨dx, hdx, he⟩ := he
  have ha := h.arg hx hdx
  cases dx <;> simp only [reduceCtorEq, Option.bind_eq_some_iff] at he
  rename_i s
  obtain ⟨l, hl, hh, hhh, he⟩ := he
  split at he
  · rename_i hc
    obtain ⟨hlh, hhl⟩ := hc
    simp only [Option.some.injEq, Prod.mk.injEq] at he
    obtain ⟨rfl, rfl, rfl⟩ := he
    have hr := ha.rep
    simp only [Rep] at hr
    have hsz : (ByteArray.mk s.toArray).size = s.length := by simp [ByteArray.size]
    have hb := run_bounds (P := P) (cap := s.length) (mx := none) (mm := none) h false hlo hhi rfl hl hhh rfl hlh hhl rfl (Nat.le_refl _) (by simp)
    refine ⟨_, ?_, h.left_flat (d := .str ((s.drop l).take (hh - l))) rfl⟩
    simp only [Option.map_none, Option.isSome_none, Bool.false_eq_true, if_false] at hb
    simp only [Instr.sliceAt, Instr.slice, Sem.run_bind, run_underlying ht, Result.andThen_ok, hr, hsz, hb, Sem.run_pure, Dat.val, Option.isSome_none, Bool.false_eq_true, if_false]
    congr 2
    exact Lib.extract_eq _ _ _
  · cases he

theorem op_fieldAddr (h : Fr N ntmps σ0 g0 w0 e σ a w g) {x : Operand} {mx : MArg} (hx : argOf x = some mx) {t f off n : Nat} {agg : Bool} (hf : fieldP P t f = some (off, n, agg)) (hn : n ≠ 0)
    (he : evalOp run esc base e σ (.fieldAddr off mx) = some (d, e1, σ1)) :
    ∃ v, (Instr.fieldAt t (a.eval x) f).run P w = .ok v w ∧ Left N σ0 g0 w0 dst d v e1 σ1 a.tmps w g := by
  simp only [fieldP] at hf
  split at hf
  · rename_i fs hu
    simp only [Option.bind_eq_some_iff, Option.map_eq_some_iff, Prod.mk.injEq] at hf
    obtain ⟨fld, hfld, n', hn', agg', _, rfl, rfl, rfl⟩ := hf
    simp only [sizeP, Option.map_eq_some_iff] at hn'
    obtain ⟨inf, hinf, rfl⟩ := hn'
    simp only [evalOp, Option.bind_eq_some_iff] at he
    obtain ⟨dx, hdx, he⟩ := he
    have ha := h.arg hx hdx
    have hr := ha.rep
    have step : ∀ b off, a.eval x = .pointer (some ⟨b, off, none⟩) → (Instr.fieldAt t (a.eval x) f).run P w = .ok (.pointer (some ⟨b, off + fld.offset, none⟩)) w := by
      intro b off hv
      simp [Instr.fieldAt, run_underlying hu, hfld, hv, Instr.sureAddr, fieldPlace, sizeOf, typeInfo, hinf, hn, Addr.add_lit]
    cases dx <;> simp only [reduceCtorEq, Option.some.injEq, Prod.mk.injEq] at he
    · obtain ⟨rfl, rfl, rfl⟩ := he
      simp only [Rep] at hr
      exact ⟨_, step _ _ hr, h.left (by simp only [Rep]) (fun _ _ => trivial) (by have := ha.under; simpa [Dat.under] using this)⟩
    · rename_i cs
      split at he
      · rename_i hlt
        simp only [Option.some.injEq, Prod.mk.injEq] at he
        obtain ⟨rfl, rfl, rfl⟩ := he
        simp only [Rep] at hr
        obtain ⟨b, off, hv, hp, hat⟩ := hr
        refine ⟨_, step _ _ hv, h.left ?_ (fun _ _ => trivial) ?_⟩
        · simp only [Rep]
          refine ⟨b, off + fld.offset, rfl, by rw [List.length_drop]; omega, RepAt_mk fun i d hd => ?_⟩
          rw [List.getElem?_drop] at hd
          have := RepAt_get hat hd
          rwa [show off + fld.offset + i = off + (fld.offset + i) by omega]
        · have hu := ha.under
          simp only [Dat.under] at hu ⊢
          exact underL_mk fun d hd => underL_mem hu d (List.mem_of_mem_drop hd)
      · cases he
  · cases hf

theorem Rep_ofCells {agg : Bool} {n : Nat} {cs : List Dat} {vs : List Value} {d : Dat} (hl : RepL g w cs vs) (hc : cs.all Dat.isCell = true) (h : ofCells agg cs = some d) :
    Rep g w d (if agg then .agg vs.toArray else (vs.head?).getD _root_.Go.undef) ∧ (∀ m, Dat.underL m cs = true → d.under m = true) := by
  unfold ofCells at h
  cases agg with
  | true =>
    simp only [if_true, Option.some.injEq] at h
    subst h
    refine ⟨?_, fun m hm => by simp only [Dat.under]; rw [underL_map under_strip1]; exact hm⟩
    simp only [if_true, Rep]
    refine ⟨vs, rfl, RepL_map (fun _ _ => Rep_strip1) hl, ?_⟩
    rw [List.all_map]
    rw [← hc]
    congr 1
    funext d
    exact isCell_strip1 d
  | false =>
    simp only [Bool.false_eq_true, if_false] at h ⊢
    split at h
    · rename_i d'
      injection h with h
      subst h
      simp only [RepL] at hl
      obtain ⟨v, vr, rfl, hv, _⟩ := hl
      exact ⟨by simpa using hv, fun m hm => by simpa [Dat.underL] using hm⟩
    · cases h

theorem RepL_take {cs : List Dat} {vs : List Value} (h : RepL g w cs vs) (off n : Nat) : RepL g w ((cs.drop off).take n) ((vs.drop off).take n) := by
  refine RepL_mk (by have := RepL_len h; simp [this]) fun i d v hd hv => ?_
  rw [List.getElem?_take] at hd hv
  split at hd
  · rename_i hlt
    rw [if_pos hlt] at hv
    rw [List.getElem?_drop] at hd hv
    obtain ⟨v', hv', hr⟩ := RepL_get h hd
    rw [hv] at hv'
    injection hv' with hv'
    rw [hv']; exact hr
  · cases hd

theorem all_take {p : Dat → Bool} {cs : List Dat} (h : cs.all p = true) (off n : Nat) : ((cs.drop off).take n).all p = true := by
  rw [List.all_eq_true] at h ⊢
  exact fun d hd => h d (List.mem_of_mem_drop (List.mem_of_mem_take hd))
theorem underL_take {m : Nat} {cs : List Dat} (h : Dat.underL m cs = true) (off n : Nat) : Dat.underL m ((cs.drop off).take n) = true :=
  underL_mk fun d hd => underL_mem h d (List.mem_of_mem_drop (List.mem_of_mem_take hd))

/-- the types' word on one cell: the loader's check gives it; asked of each type that is met -/
def oneP (P : Program) (t : TypeId) (agg : Bool) (n : Nat) : Prop := aggP P t = some agg ∧ sizeP P t = some n ∧ (agg = false → n = 1)

theorem op_field (h : Fr N ntmps σ0 g0 w0 e σ a w g) {x : Operand} {mx : MArg} (hx : argOf x = some mx) {t f off n : Nat} {agg : Bool} (hf : fieldP P t f = some (off, n, agg)) (h1 : agg = false → n = 1)
    (he : evalOp run esc base e σ (.field agg off n mx) = some (d, e1, σ1)) :
    ∃ v, (Instr.field t (a.eval x) f).run P w = .ok v w ∧ Left N σ0 g0 w0 dst d v e1 σ1 a.tmps w g := by
  simp only [fieldP] at hf
  split at hf
  · rename_i fs hu
    simp only [Option.bind_eq_some_iff, Option.map_eq_some_iff, Prod.mk.injEq] at hf
    obtain ⟨fld, hfld, n', hn', agg', hagg, rfl, rfl, rfl⟩ := hf
    simp only [evalOp, Option.bind_eq_some_iff] at he
    obtain ⟨dx, hdx, he⟩ := he
    have ha := h.arg hx hdx
    have hr := ha.rep
    cases dx <;> simp only [reduceCtorEq] at he
    rename_i cs
    split at he
    · rename_i hle
      simp only [Option.bind_eq_some_iff, Option.some.injEq, Prod.mk.injEq] at he
      obtain ⟨d', hd', rfl, rfl, rfl⟩ := he
      simp only [Rep] at hr
      obtain ⟨vs, hv, hl, hcell⟩ := hr
      obtain ⟨r1, r2⟩ := Rep_ofCells (n := n') (RepL_take hl fld.offset n') (all_take hcell _ _) hd'
      refine ⟨_, ?_, h.left (Rep_strip r1) (fun _ _ => Own_strip) ?_⟩
      · have := run_part (P := P) (w := w) hagg (fun _ => hn') h1 vs fld.offset (by rw [RepL_len hl]; exact hle)
        simp only [Instr.field, Sem.run_bind, run_underlying hu, Result.andThen_ok, hfld, hv, asAgg, Sem.run_pure, this]
      · rw [under_strip]
        exact r2 _ (underL_take (by simpa [Dat.under] using ha.under) _ _)
    · cases he
  · cases hf

theorem op_index (h : Fr N ntmps σ0 g0 w0 e σ a w g) {x i : Operand} {mx mi : MArg} (hx : argOf x = some mx) (hi : argOf i = some mi) {t el esz : Nat} (ht : P.underlying t = some (.slice el)) (hs : sizeP P el = some esz)
    (he : evalOp run esc base e σ (.index esz mx mi) = some (d, e1, σ1)) :
    ∃ v, (Instr.indexAt t (a.eval x) (a.eval i)).run P w = .ok v w ∧ Left N σ0 g0 w0 dst d v e1 σ1 a.tmps w g := by
  simp only [evalOp, Option.bind_eq_some_iff] at he
  obtain ⟨dx, hdx, di, hdi, he⟩ := he
  have ha := h.arg hx hdx
  have hai := (h.arg hi hdi).rep
  have hr := ha.rep
  cases dx <;> cases di <;> simp only [reduceCtorEq] at he
  rename_i own xs k n
  split at he
  · rename_i h0
    simp only [Option.bind_eq_some_iff] at he
    obtain ⟨cs, hcs, he⟩ := he
    split at he
    · rename_i hc
      obtain ⟨hlen, hpos⟩ := hc
      simp only [Option.some.injEq, Prod.mk.injEq] at he
      obtain ⟨rfl, rfl, rfl⟩ := he
      simp only [Rep] at hr hai
      obtain ⟨A, c, hv, hlc, _, hrow⟩ := hr
      have hlt : n.toNat < xs.length := (List.getElem?_eq_some_iff.1 hcs).1
      obtain ⟨b, off, m, hA, hp, hrows⟩ := hrow (by intro e; subst e; simp at hlt)
      obtain ⟨hm, hat⟩ := RepRows_get hrows hcs
      simp only [sizeP, Option.map_eq_some_iff] at hs
      obtain ⟨inf, hinf, hsz⟩ := hs
      have hmm : inf.size = m := by omega
      refine ⟨.pointer (some ⟨b, off + n.toNat * m, none⟩), ?_, h.left ?_ (fun _ _ => trivial) ?_⟩
      · have hin : 0 ≤ n ∧ n < (xs.length : Int) := ⟨h0, by omega⟩
        simp only [Instr.indexAt, hai, asIntOf, hv, Sem.run_bind, Sem.run_pure, Result.andThen_ok, run_underlying ht, hA, hin, and_self, if_true, sizeOf, typeInfo, run_program, hinf, Addr.add_lit, hmm]
      · simp only [Rep]
        refine ⟨b, off + n.toNat * m, rfl, ?_, hat⟩
        rw [hm]
        have : (n.toNat + 1) * m ≤ xs.length * m := Nat.mul_le_mul_right _ hlt
        rw [Nat.add_mul] at this
        omega
      · have hu := ha.under
        simp only [Dat.under] at hu ⊢
        exact underLL_mem hu cs (List.mem_of_getElem? hcs)
    · cases he
  · cases he

theorem op_indexArr (h : Fr N ntmps σ0 g0 w0 e σ a w g) {x i : Operand} {mx mi : MArg} (hx : argOf x = some mx) (hi : argOf i = some mi) {t el esz len : Nat} (ht : P.underlying t = some (.array len el)) (hs : sizeP P el = some esz)
    (he : evalOp run esc base e σ (.indexArr len esz mx mi) = some (d, e1, σ1)) :
    ∃ v, (Instr.indexAt t (a.eval x) (a.eval i)).run P w = .ok v w ∧ Left N σ0 g0 w0 dst d v e1 σ1 a.tmps w g := by
  simp only [evalOp, Option.bind_eq_some_iff] at he
  obtain ⟨dx, hdx, di, hdi, he⟩ := he
  have ha := h.arg hx hdx
  have hai := (h.arg hi hdi).rep
  have hr := ha.rep
  simp only [sizeP, Option.map_eq_some_iff] at hs
  obtain ⟨inf, hinf, hsz⟩ := hs
  have step : ∀ b off k n, a.eval x = .pointer (some ⟨b, off, none⟩) → a.eval i = .int k n → 0 ≤ n ∧ n < (len : Int) → (Instr.indexAt t (a.eval x) (a.eval i)).run P w = .ok (.pointer (some ⟨b, off + n.toNat * esz, none⟩)) w := by
    intro b off k n hv hi hin
    simp only [Instr.indexAt, hi, asIntOf, hv, Sem.run_bind, Sem.run_pure, Result.andThen_ok, run_underlying ht, Instr.sureAddr, hin, and_self, if_true, sizeOf, typeInfo, run_program, hinf, hsz, Addr.add_lit]
  cases dx <;> cases di <;> simp only [reduceCtorEq] at he
  · rename_i id off k n
    split at he
    · rename_i hin
      simp only [Option.some.injEq, Prod.mk.injEq] at he
      obtain ⟨rfl, rfl, rfl⟩ := he
      simp only [Rep] at hr hai
      exact ⟨_, step _ _ _ _ hr hai hin, h.left (by simp only [Rep]) (fun _ _ => trivial) (by have := ha.under; simpa [Dat.under] using this)⟩
    · cases he
  · rename_i cs k n
    split at he
    · rename_i hin
      obtain ⟨h1, h2, hlt⟩ := hin
      simp only [Option.some.injEq, Prod.mk.injEq] at he
      obtain ⟨rfl, rfl, rfl⟩ := he
      simp only [Rep] at hr hai
      obtain ⟨b, off, hv, hp, hat⟩ := hr
      refine ⟨_, step _ _ _ _ hv hai ⟨h1, h2⟩, h.left ?_ (fun _ _ => trivial) ?_⟩
      · simp only [Rep]
        refine ⟨b, off + n.toNat * esz, rfl, by rw [List.length_drop]; omega, RepAt_mk fun i d hd => ?_⟩
        rw [List.getElem?_drop] at hd
        have := RepAt_get hat hd
        rwa [show off + n.toNat * esz + i = off + (n.toNat * esz + i) by omega]
      · have hu := ha.under
        simp only [Dat.under] at hu ⊢
        exact underL_mk fun d hd => underL_mem hu d (List.mem_of_mem_drop hd)
    · cases he

theorem op_at (h : Fr N ntmps σ0 g0 w0 e σ a w g) {x i : Operand} {mx mi : MArg} (hx : argOf x = some mx) (hi : argOf i = some mi) {t : Nat} (ht : P.underlying t = some .string)
    (he : evalOp run esc base e σ (.at mx mi) = some (d, e1, σ1)) :
    ∃ v, (Instr.index t (a.eval x) (a.eval i)).run P w = .ok v w ∧ Left N σ0 g0 w0 dst d v e1 σ1 a.tmps w g := by
  simp only [evalOp, Option.bind_eq_some_iff] at he
  obtain ⟨dx, hdx, di, hdi, he⟩ := he
  have hax := (h.arg hx hdx).rep
  have hai := (h.arg hi hdi).rep
  cases dx <;> cases di <;> simp only [reduceCtorEq] at he
  rename_i s k n
  split at he
  · rename_i h0
    simp only [Option.bind_eq_some_iff, Option.some.injEq, Prod.mk.injEq] at he
    obtain ⟨c, hc, rfl, rfl, rfl⟩ := he
    simp only [Rep] at hax hai
    refine ⟨_, ?_, h.left_flat (d := .int .u8 c.toNat) rfl⟩
    have hg : (ByteArray.mk s.toArray)[n.toNat]? = some c := by
      have hlt : n.toNat < s.length := (List.getElem?_eq_some_iff.1 hc).1
      have hlt2 : n.toNat < (ByteArray.mk s.toArray).size := by simpa [ByteArray.size] using hlt
      rw [_root_.Go.ByteArray.getElem?_lt' _ _ hlt2]
      have : (ByteArray.mk s.toArray)[n.toNat] = s[n.toNat] := rfl
      rw [this]
      exact (List.getElem?_eq_getElem hlt).symm.trans hc
    simp only [Instr.index, hai, hax, asIntOf, Sem.run_bind, Sem.run_pure, Result.andThen_ok, run_underlying ht, h0, if_true, hg, Dat.val]
  · cases he

theorem op_len_slice (h : Fr N ntmps σ0 g0 w0 e σ a w g) {x : Operand} {mx : MArg} (hx : argOf x = some mx) {t ty el : Nat} (ht : P.underlying t = some (.slice el))
    (he : evalOp run esc base e σ (.len false mx) = some (d, e1, σ1)) :
    ∃ v, (Builtin.len_ #[t] ty #[a.eval x]).run P w = .ok v w ∧ Left N σ0 g0 w0 dst d v e1 σ1 a.tmps w g := by
  simp only [evalOp, Option.bind_eq_some_iff] at he
  obtain ⟨dx, hdx, he⟩ := he
  have hax := (h.arg hx hdx).rep
  cases dx <;> simp only [reduceCtorEq, Option.some.injEq, Prod.mk.injEq] at he
  obtain ⟨rfl, rfl, rfl⟩ := he
  rename_i own xs
  simp only [Rep] at hax
  obtain ⟨A, c, hv, _⟩ := hax
  refine ⟨_, ?_, h.left_flat (d := .int .i64 xs.length) rfl⟩
  simp [Builtin.len_, run_underlying ht, hv, goInt, Dat.val]
theorem op_len_str (h : Fr N ntmps σ0 g0 w0 e σ a w g) {x : Operand} {mx : MArg} (hx : argOf x = some mx) {t ty : Nat} (ht : P.underlying t = some .string)
    (he : evalOp run esc base e σ (.len true mx) = some (d, e1, σ1)) :
    ∃ v, (Builtin.len_ #[t] ty #[a.eval x]).run P w = .ok v w ∧ Left N σ0 g0 w0 dst d v e1 σ1 a.tmps w g := by
  simp only [evalOp, Option.bind_eq_some_iff] at he
  obtain ⟨dx, hdx, he⟩ := he
  have hax := (h.arg hx hdx).rep
  cases dx <;> simp only [reduceCtorEq, Option.some.injEq, Prod.mk.injEq] at he
  obtain ⟨rfl, rfl, rfl⟩ := he
  rename_i s
  simp only [Rep] at hax
  refine ⟨_, ?_, h.left_flat (d := .int .i64 s.length) rfl⟩
  have hsz : (ByteArray.mk s.toArray).size = s.length := by simp [ByteArray.size]
  simp [Builtin.len_, run_underlying ht, hax, hsz, goInt, Dat.val]

theorem op_min (h : Fr N ntmps σ0 g0 w0 e σ a w g) {x y : Operand} {mx my : MArg} (hx : argOf x = some mx) (hy : argOf y = some my) {ts : Array TypeId} {ty : Nat}
    (he : evalOp run esc base e σ (.min2 mx my) = some (d, e1, σ1)) :
    ∃ v, (Builtin.min_ ts ty #[a.eval x, a.eval y]).run P w = .ok v w ∧ Left N σ0 g0 w0 dst d v e1 σ1 a.tmps w g := by
  simp only [evalOp, Option.bind_eq_some_iff] at he
  obtain ⟨dx, hdx, dy, hdy, he⟩ := he
  have hax := (h.arg hx hdx).rep
  have hay := (h.arg hy hdy).rep
  cases dx <;> cases dy <;> simp only [reduceCtorEq] at he
  split at he
  · rename_i hk
    subst hk
    simp only [Option.some.injEq, Prod.mk.injEq] at he
    obtain ⟨rfl, rfl, rfl⟩ := he
    simp only [Rep] at hax hay
    rw [hax, hay]
    exact ⟨_, run_min_int2 w _ _ _ _ _ _, h.left_flat rfl⟩
  · cases he
theorem op_max (h : Fr N ntmps σ0 g0 w0 e σ a w g) {x y : Operand} {mx my : MArg} (hx : argOf x = some mx) (hy : argOf y = some my) {ts : Array TypeId} {ty : Nat}
    (he : evalOp run esc base e σ (.max2 mx my) = some (d, e1, σ1)) :
    ∃ v, (Builtin.max_ ts ty #[a.eval x, a.eval y]).run P w = .ok v w ∧ Left N σ0 g0 w0 dst d v e1 σ1 a.tmps w g := by
  simp only [evalOp, Option.bind_eq_some_iff] at he
  obtain ⟨dx, hdx, dy, hdy, he⟩ := he
  have hax := (h.arg hx hdx).rep
  have hay := (h.arg hy hdy).rep
  cases dx <;> cases dy <;> simp only [reduceCtorEq] at he
  split at he
  · rename_i hk
    subst hk
    simp only [Option.some.injEq, Prod.mk.injEq] at he
    obtain ⟨rfl, rfl, rfl⟩ := he
    simp only [Rep] at hax hay
    rw [hax, hay]
    refine ⟨_, run_max_int2 w _ _ _ _ _ _, ?_⟩
    exact h.left_flat rfl
  · cases he
end
end Go.Mir
