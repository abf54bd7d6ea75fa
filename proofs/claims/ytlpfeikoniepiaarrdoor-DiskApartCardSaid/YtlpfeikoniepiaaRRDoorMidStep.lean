/- One operation: the machine does what the mirror does. -/
import Derived.Test.YtlpfeikoniepiaaRRDoorMidCall
import Derived.Test.YtlpfeikoniepiaaRRDoorMidOps
set_option linter.all false
namespace Go.Mir
set_option linter.unusedVariables false
set_option linter.unusedSectionVars false
set_option linter.unusedSimpArgs false

section
variable {P : Program} {N ntmps : Nat} {σ0 : St} {g0 : Gh} {w0 : World} {e : Env} {σ : St} {a : Act} {w : World} {g : Gh} {run : Run} {esc : Nat → Bool} {base : Nat} {dst : Option Nat} {d : Dat} {e1 : Env} {σ1 : St}

theorem Comes1.value {S : Sem Value} {v : Value} {w' : World} {g' : Gh} (hr : S.run P w = .ok v w') (hl : Left N σ0 g0 w0 dst d v e1 σ1 a.tmps w' g') :
    Comes1 N σ0 g0 w0 dst d e1 σ1 a.tmps ((do pure (.value (← S)) : Sem Next).run P w) :=
  ⟨v, w', g', .inl (by simp [hr]), hl⟩
theorem Comes1.value2 {S : Sem Unit} {S2 : Sem Value} {v : Value} {w' : World} {g' : Gh} (hr : (do S; S2 : Sem Value).run P w = .ok v w') (hl : Left N σ0 g0 w0 dst d v e1 σ1 a.tmps w' g') :
    Comes1 N σ0 g0 w0 dst d e1 σ1 a.tmps ((do pure (.value (← (do S; S2))) : Sem Next).run P w) := Comes1.value hr hl

theorem isEq_at {op : BinOp} {ne : Bool} (h : isEq op = some ne) : (op = .eql ∧ ne = false) ∨ (op = .neq ∧ ne = true) := by
  cases op <;> simp [isEq] at h <;> simp [h]

theorem op_did (h : Fr N ntmps σ0 g0 w0 e σ a w g) (h0 : LB (N - 1) g0) (hN : 0 < N) (hbase : base = σ0.length) {o : Oper} {later : List Oper} {op : MOp} (hop : opOf P later o = some op) (hnc : ∀ f as ts, o.op ≠ .call { callee := .value f, args := as, argTypes := ts })
    (he : evalOp run esc base e σ op = some (d, e1, σ1)) : Comes1 N σ0 g0 w0 o.dst d e1 σ1 a.tmps ((execOp a.eval o).run P w) := by
  unfold opOf at hop
  generalize roomOf P later o = room at hop
  unfold execOp
  cases ho : o.op <;> simp only [ho, reduceCtorEq] at hop ⊢
  case move x =>
    simp only [Option.bind_eq_some_iff, Option.map_eq_some_iff] at hop
    obtain ⟨s, hs, mx, hx, rfl⟩ := hop
    obtain ⟨g', hl⟩ := op_move h h0 hN hx (s := s) he
    exact ⟨_, w, g', .inl rfl, hs ▸ hl⟩
  case assign x =>
    simp only [Option.bind_eq_some_iff, Option.map_eq_some_iff] at hop
    obtain ⟨s, hs, mx, hx, rfl⟩ := hop
    obtain ⟨g', hl⟩ := op_move h h0 hN hx (s := s) he
    exact ⟨_, w, g', .inl rfl, hs ▸ hl⟩
  case pick c x y =>
    simp only [Option.bind_eq_bind, Option.bind_eq_some_iff, Option.pure_def, Option.some.injEq] at hop
    obtain ⟨mc, hc, mx, hx, my, hy, rfl⟩ := hop
    obtain ⟨b, hb, hl⟩ := op_pick h hc hx hy he
    exact ⟨_, w, g, .inl (by simp [hb, asBool]), hl⟩
  case alloc t =>
    simp only [Option.map_eq_some_iff] at hop
    obtain ⟨zero, hz, rfl⟩ := hop
    obtain ⟨v, w', g', hr, hl⟩ := op_alloc h hz he (.tuple #[])
    exact Comes1.value hr hl
  case box t x =>
    simp only [Option.bind_eq_bind, Option.bind_eq_some_iff, Option.pure_def, Option.some.injEq] at hop
    obtain ⟨n, hn, mx, hx, rfl⟩ := hop
    obtain ⟨v, w', g', hr, hl⟩ := op_box (t := t) h h0 hN hx he
    exact Comes1.value hr hl
  case build t parts =>
    simp only [Option.bind_eq_bind, Option.bind_eq_some_iff] at hop
    obtain ⟨zero, hz, ps, hps, hop⟩ := hop
    split at hop
    · rename_i hok
      injection hop with hop
      subst hop
      obtain ⟨v, hr, hl⟩ := op_build h hz hps hok he
      exact Comes1.value hr hl
    · cases hop
  case buildSlice t len parts =>
    simp only [Option.bind_eq_bind, Option.bind_eq_some_iff] at hop
    obtain ⟨ds, ht, hop⟩ := hop
    cases ds <;> simp only [reduceCtorEq, Option.bind_eq_some_iff] at hop
    rename_i el
    obtain ⟨n, hn, hop⟩ := hop
    split at hop
    · rename_i hc
      simp only [Bool.and_eq_true, beq_iff_eq, decide_eq_true_eq] at hc
      obtain ⟨⟨⟨h1, h2⟩, h3⟩, h4⟩ := hc
      simp only [Option.bind_eq_some_iff, Option.pure_def, Option.some.injEq] at hop
      obtain ⟨ps, hps, rfl⟩ := hop
      obtain ⟨v, w', g', hr, hl⟩ := op_buildSlice h hN ht hn h1 h2 h3 h4 hps he
      exact Comes1.value hr hl
    · cases hop
  case load t x =>
    simp only [Option.bind_eq_bind, Option.bind_eq_some_iff] at hop
    obtain ⟨ag, ha, n, hn, s, hs, hop⟩ := hop
    by_cases hc : (oneOk ag n && (!room || !ag)) = true
    · rw [if_pos hc] at hop
      simp only [Bool.and_eq_true, oneOk, Bool.or_eq_true, beq_iff_eq, Bool.not_eq_true'] at hc
      simp only [Option.bind_eq_some_iff, Option.pure_def, Option.some.injEq] at hop
      obtain ⟨mx, hx, rfl⟩ := hop
      obtain ⟨v, g', hr, hl⟩ := op_load (s := s) h h0 hN hx ha hn (fun e => by simpa [e] using hc.1) (fun e => by simpa [e] using hc.2) he
      exact Comes1.value hr (hs ▸ hl)
    · rw [if_neg hc] at hop
      cases hop
  case store t x y =>
    simp only [Option.bind_eq_bind, Option.bind_eq_some_iff, Option.pure_def, Option.some.injEq] at hop
    obtain ⟨n, hn, mx, hx, my, hy, rfl⟩ := hop
    obtain ⟨w', g', hr, hl⟩ := op_store h h0 hN hx hy hn hbase he
    exact ⟨_, w', g', .inr ⟨by simp [hr], rfl⟩, hl⟩
  case nilCheck x =>
    simp only [Option.map_eq_some_iff] at hop
    obtain ⟨mx, hx, rfl⟩ := hop
    obtain ⟨v, hr, hl⟩ := op_nilCheck (P := P) h hx o ho he
    refine ⟨v, w, g, .inl ?_, hl⟩
    rw [← hr]
    simp only [execOp, ho]
  case binOp bo t x y pos =>
    simp only [Option.bind_eq_bind] at hop
    split at hop
    · rename_i fs ht
      split at hop
      · cases hop
      · rename_i hc
        simp only [Option.bind_eq_some_iff, Option.pure_def, Option.some.injEq] at hop
        obtain ⟨ne, hb, ks, hk, mx, hx, my, hy, rfl⟩ := hop
        obtain ⟨v, hr, hl⟩ := op_eqs h hx hy (isEq_at hb) ht (by simpa using hc) hk he
        exact Comes1.value hr hl
    · simp only [Option.bind_eq_some_iff, Option.pure_def, Option.some.injEq] at hop
      obtain ⟨mx, hx, my, hy, rfl⟩ := hop
      obtain ⟨v, hr, hl⟩ := op_bin h hx hy (t := t) he
      exact Comes1.value hr hl
    · simp only [Option.bind_eq_some_iff, Option.pure_def, Option.some.injEq] at hop
      obtain ⟨mx, hx, my, hy, rfl⟩ := hop
      obtain ⟨v, hr, hl⟩ := op_bin h hx hy (t := t) he
      exact Comes1.value hr hl
    · rename_i ht
      simp only [Option.bind_eq_some_iff, Option.pure_def, Option.some.injEq] at hop
      obtain ⟨ne, hb, mx, hx, my, hy, rfl⟩ := hop
      obtain ⟨v, hr, hl⟩ := op_eqb h hx hy (isEq_at hb) ht he
      exact Comes1.value hr hl
    · cases hop
  case unOp uo t x =>
    simp only [Option.map_eq_some_iff] at hop
    obtain ⟨mx, hx, rfl⟩ := hop
    obtain ⟨v, hr, hl⟩ := op_un (P := P) h hx he
    exact Comes1.value hr hl
  case convert s t x =>
    simp only [Option.bind_eq_bind] at hop
    split at hop
    · rename_i k' k hs ht
      simp only [Option.bind_eq_some_iff, Option.pure_def, Option.some.injEq] at hop
      obtain ⟨mx, hx, rfl⟩ := hop
      obtain ⟨v, hr, hl⟩ := op_conv h hx hs ht he
      exact Comes1.value hr hl
    · rename_i el hs ht
      split at hop
      · rename_i hu
        simp only [Option.bind_eq_some_iff, Option.pure_def, Option.some.injEq] at hop
        obtain ⟨mx, hx, rfl⟩ := hop
        obtain ⟨v, w', g', hr, hl⟩ := op_s2b h hN hx hs ht (isU8_at hu) he
        exact Comes1.value hr hl
      · cases hop
    · rename_i el hs ht
      split at hop
      · rename_i hu
        simp only [Option.bind_eq_some_iff, Option.pure_def, Option.some.injEq] at hop
        obtain ⟨mx, hx, rfl⟩ := hop
        obtain ⟨v, hr, hl⟩ := op_b2s h hx hs ht (isU8_at hu) he
        exact Comes1.value hr hl
      · cases hop
    · cases hop
  case makeFunc fn first caps =>
    cases fn <;> simp only [reduceCtorEq] at hop
    rename_i f
    split at hop
    · rename_i hc
      simp only [Option.bind_eq_bind, Option.bind_eq_some_iff, Option.pure_def, Option.some.injEq] at hop
      obtain ⟨ms, hms, rfl⟩ := hop
      obtain ⟨v, hr, hl⟩ := op_mkfn (P := P) (f := f) h hms he
      have hfe : first.map a.eval = #[] := by
        have : first = #[] := by simpa using hc
        simp [this]
      rw [hfe]
      exact Comes1.value hr hl
    · cases hop
  case slice t x lo hi mx =>
    simp only [Option.bind_eq_bind] at hop
    split at hop
    · rename_i ht
      split at hop
      · rename_i hc
        simp only [Option.bind_eq_some_iff, Option.pure_def, Option.some.injEq] at hop
        obtain ⟨mx', hx, ml, hlo, mh, hhi, rfl⟩ := hop
        have hmx : mx = none := by simpa using hc
        subst hmx
        obtain ⟨v, hr, hl⟩ := op_substr (P := P) h hx hlo hhi ht he
        exact Comes1.value hr hl
      · cases hop
    · rename_i el ht
      split at hop
      · cases hop
      · rename_i hc
        simp only [Option.bind_eq_some_iff, Option.pure_def, Option.some.injEq] at hop
        obtain ⟨n, hn, mx', hx, ml, hlo, mh, hhi, mm, hmm, rfl⟩ := hop
        obtain ⟨v, hr, hl⟩ := op_slice (P := P) h hx hlo hhi hmm ht hn (fun e => by
          cases hi with
          | none => simp [e] at hc
          | some _ => rfl) he
        exact Comes1.value hr hl
    · cases hop
  case fieldAddr t x f =>
    simp only [Option.bind_eq_bind, Option.bind_eq_some_iff] at hop
    obtain ⟨⟨off, n, ag⟩, hf, hop⟩ := hop
    simp only at hop
    split at hop
    · cases hop
    · rename_i hn
      simp only [Option.bind_eq_some_iff, Option.pure_def, Option.some.injEq] at hop
      obtain ⟨mx, hx, rfl⟩ := hop
      obtain ⟨v, hr, hl⟩ := op_fieldAddr h hx hf hn he
      exact Comes1.value hr hl
  case field t x f =>
    simp only [Option.bind_eq_bind, Option.bind_eq_some_iff] at hop
    obtain ⟨⟨off, n, ag⟩, hf, hop⟩ := hop
    simp only at hop
    split at hop
    · rename_i hc
      simp only [Option.bind_eq_some_iff, Option.pure_def, Option.some.injEq] at hop
      obtain ⟨mx, hx, rfl⟩ := hop
      obtain ⟨v, hr, hl⟩ := op_field h hx hf (fun e => by simpa [oneOk, e] using hc) he
      exact Comes1.value hr hl
    · cases hop
  case indexAddr t x i =>
    simp only [Option.bind_eq_bind] at hop
    split at hop
    · rename_i el ht
      simp only [Option.bind_eq_some_iff, Option.pure_def, Option.some.injEq] at hop
      obtain ⟨n, hn, mx, hx, mi, hi, rfl⟩ := hop
      obtain ⟨v, hr, hl⟩ := op_index h hx hi ht hn he
      exact Comes1.value hr hl
    · rename_i len el ht
      simp only [Option.bind_eq_some_iff, Option.pure_def, Option.some.injEq] at hop
      obtain ⟨n, hn, mx, hx, mi, hi, rfl⟩ := hop
      obtain ⟨v, hr, hl⟩ := op_indexArr h hx hi ht hn he
      exact Comes1.value hr hl
    · cases hop
  case index t x i =>
    simp only [Option.bind_eq_bind] at hop
    split at hop
    · rename_i ht
      simp only [Option.bind_eq_some_iff, Option.pure_def, Option.some.injEq] at hop
      obtain ⟨mx, hx, mi, hi, rfl⟩ := hop
      obtain ⟨v, hr, hl⟩ := op_at h hx hi ht he
      exact Comes1.value hr hl
    · cases hop
  case extract x i =>
    simp only [Option.bind_eq_some_iff, Option.map_eq_some_iff] at hop
    obtain ⟨s, hs, mx, hx, rfl⟩ := hop
    obtain ⟨v, g', hr, hl⟩ := op_extract (P := P) h h0 hN hx (s := s) he
    exact Comes1.value hr (hs ▸ hl)
  case call c =>
    obtain ⟨callee, args, ts⟩ := c
    cases callee with
    | value f => exact absurd ho (hnc f args ts)
    | invoke r n => simp only [reduceCtorEq] at hop
    | builtin b =>
      cases b <;> simp only [reduceCtorEq] at hop
      case len =>
        simp only [Option.bind_eq_bind] at hop
        split at hop
        · rename_i x hargs
          split at hop
          · rename_i t htys
            have e1 : args = #[x] := by rw [← Array.toArray_toList (xs := args), hargs]
            have e2 : ts = #[t] := by rw [← Array.toArray_toList (xs := ts), htys]
            subst e1 e2
            split at hop
            · rename_i el ht
              simp only [Option.bind_eq_some_iff, Option.pure_def, Option.some.injEq] at hop
              obtain ⟨mx, hx, rfl⟩ := hop
              obtain ⟨v, hr, hl⟩ := op_len_slice (ty := o.type) h hx ht he
              exact Comes1.value (S := Builtin.len_ #[t] o.type (#[x].map a.eval)) (by simpa using hr) hl
            · rename_i ht
              simp only [Option.bind_eq_some_iff, Option.pure_def, Option.some.injEq] at hop
              obtain ⟨mx, hx, rfl⟩ := hop
              obtain ⟨v, hr, hl⟩ := op_len_str (ty := o.type) h hx ht he
              exact Comes1.value (S := Builtin.len_ #[t] o.type (#[x].map a.eval)) (by simpa using hr) hl
            · cases hop
          · cases hop
        · cases hop
      case append =>
        simp only [Option.bind_eq_bind] at hop
        split at hop
        · rename_i x y hargs
          split at hop
          · rename_i t u htys
            have e1 : args = #[x, y] := by rw [← Array.toArray_toList (xs := args), hargs]
            have e2 : ts = #[t, u] := by rw [← Array.toArray_toList (xs := ts), htys]
            subst e1 e2
            simp only [Option.bind_eq_some_iff] at hop
            obtain ⟨s, hs, ds, ht, hop⟩ := hop
            cases ds <;> simp only [reduceCtorEq, Option.bind_eq_some_iff] at hop
            rename_i el
            obtain ⟨n, hn, bs, hb, hop⟩ := hop
            split at hop
            · rename_i hc
              simp only [Bool.and_eq_true, decide_eq_true_eq, beq_iff_eq] at hc
              obtain ⟨⟨c1, c2⟩, c3⟩ := hc
              split at hop
              · rename_i el' hu
                simp only [Option.bind_eq_some_iff, Option.pure_def, Option.some.injEq] at hop
                obtain ⟨mx, hx, my, hy, rfl⟩ := hop
                obtain ⟨v, w', g', hr, hl⟩ := op_append (s := s) (ty := o.type) h h0 hN hx hy ht hn hb c3 c1 c2 (by simpa using ⟨el', hu⟩) he
                exact Comes1.value (S := Builtin.append_ #[t, u] o.type (#[x, y].map a.eval)) (by simpa using hr) (hs ▸ hl)
              · rename_i hu
                split at hop
                · rename_i hn1
                  simp only [Option.bind_eq_some_iff, Option.pure_def, Option.some.injEq] at hop
                  obtain ⟨mx, hx, my, hy, rfl⟩ := hop
                  obtain ⟨v, w', g', hr, hl⟩ := op_append (s := s) (ty := o.type) h h0 hN hx hy ht hn hb c3 c1 c2 (by simpa using ⟨hu, hn1⟩) he
                  exact Comes1.value (S := Builtin.append_ #[t, u] o.type (#[x, y].map a.eval)) (by simpa using hr) (hs ▸ hl)
                · cases hop
              · cases hop
            · cases hop
          · cases hop
        · cases hop
      case min =>
        simp only [Option.bind_eq_bind] at hop
        split at hop
        · rename_i x y hargs
          have e1 : args = #[x, y] := by rw [← Array.toArray_toList (xs := args), hargs]
          subst e1
          simp only [Option.bind_eq_some_iff, Option.pure_def, Option.some.injEq] at hop
          obtain ⟨mx, hx, my, hy, rfl⟩ := hop
          obtain ⟨v, hr, hl⟩ := op_min (P := P) (ts := ts) (ty := o.type) h hx hy he
          exact Comes1.value (S := Builtin.min_ ts o.type (#[x, y].map a.eval)) (by simpa using hr) hl
        · cases hop
      case max =>
        simp only [Option.bind_eq_bind] at hop
        split at hop
        · rename_i x y hargs
          have e1 : args = #[x, y] := by rw [← Array.toArray_toList (xs := args), hargs]
          subst e1
          simp only [Option.bind_eq_some_iff, Option.pure_def, Option.some.injEq] at hop
          obtain ⟨mx, hx, my, hy, rfl⟩ := hop
          obtain ⟨v, hr, hl⟩ := op_max (P := P) (ts := ts) (ty := o.type) h hx hy he
          exact Comes1.value (S := Builtin.max_ ts o.type (#[x, y].map a.eval)) (by simpa using hr) hl
        · cases hop
end
end Go.Mir
