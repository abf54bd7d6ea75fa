/- From the mirror's answer to the machine's, for whole arguments. -/
import Derived.Test.YtlpfeikoniepiaaRRDoorMidOpen
set_option linter.all false
namespace Go.Mir
set_option linter.unusedVariables false
set_option linter.unusedSectionVars false
set_option linter.unusedSimpArgs false

/-- What an argument stands for. -/
def ArgTy (agg : Bool) (l : List CTy) (D : Dat) : Prop := if agg then ∃ ds, D = .agg ds ∧ HasTys l ds else ∃ ty, l = [ty] ∧ HasTy ty D

section
variable {P : Program} {w : World} {H : Type} {enc : TypeId × Value → H} {spare : Nat → Bool} {held : Bool}

theorem open_arg {t : TypeId} {v : Value} {x : DataW H} {p : List MemPlace} {agg : Bool} {l : List CTy} {d : Nat} (ha : aggP P t = some agg) (hl : layP P d t = some l) (hval : Value.okWide P w .any 0 t v) (h : DataW.Trod enc P w 0 spare held t v x p) :
    ∃ D, Rep (Gh.init w) w D v ∧ ArgTy agg l D := by
  obtain ⟨fuel, h⟩ := h
  obtain ⟨ds, hr, ht⟩ := trod_rep d t l fuel _ _ hl h
  simp only [aggP, Option.map_eq_some_iff] at ha
  obtain ⟨desc, hu, ha⟩ := ha
  cases d with
  | zero => simp [layP] at hl
  | succ d =>
    simp only [layP, hu] at hl
    have single : ∀ ty, l = [ty] → agg = false → (∀ cs, v ≠ .agg cs) → ∃ D, Rep (Gh.init w) w D v ∧ ArgTy agg l D := by
      rintro ty rfl rfl hn
      simp only [HasTys] at ht
      obtain ⟨D, r, rfl, h1, rfl⟩ := ht
      have hc : v.cells.toList = [v] := by cases v <;> first | rfl | exact absurd rfl (hn _)
      rw [hc] at hr
      simp only [RepL] at hr
      obtain ⟨v', vr, hv, hrv, _⟩ := hr
      injection hv with hv
      subst hv
      exact ⟨D, hrv, by simp only [ArgTy, Bool.false_eq_true, if_false]; exact ⟨ty, rfl, h1⟩⟩
    cases desc <;> simp only [reduceCtorEq] at hl
    case int k =>
      injection hl with hl
      exact single _ hl.symm ha.symm (by rintro cs rfl; simp [Value.okWide, hu, Cell.okWide, Cell.ok] at hval)
    case bool =>
      injection hl with hl
      exact single _ hl.symm ha.symm (by rintro cs rfl; simp [Value.okWide, hu, Cell.okWide, Cell.ok] at hval)
    case string =>
      injection hl with hl
      exact single _ hl.symm ha.symm (by rintro cs rfl; simp [Value.okWide, hu, Cell.okWide, Cell.ok] at hval)
    case slice e =>
      obtain ⟨m, _, hl⟩ := Option.bind_eq_some_iff.1 hl
      split at hl
      · injection hl with hl
        exact single _ hl.symm ha.symm (by rintro cs rfl; simp [Value.okWide, hu, Cell.okWide, Cell.ok] at hval)
      · cases hl
    case struct fs =>
      simp only [Value.okWide, hu] at hval
      obtain ⟨cs, rfl, _⟩ := hval
      refine ⟨.agg ds, ?_, ?_⟩
      · simp only [Rep]
        exact ⟨cs.toList, by simp, by simpa [Value.cells] using hr, HasTys_cell ht⟩
      · rw [← ha]
        simp only [ArgTy, if_true]
        exact ⟨ds, rfl, ht⟩

theorem ArgTy_ok {agg : Bool} {l : List CTy} {D : Dat} (h : ArgTy agg l D) : D.under 0 = true ∧ ∀ (g : Gh) (w : World) π v, Own g w π D v := by
  cases agg with
  | true =>
    simp only [ArgTy, if_true] at h
    obtain ⟨ds, rfl, h⟩ := h
    exact ⟨by simp only [Dat.under]; exact HasTys_under h, fun _ _ _ _ => trivial⟩
  | false =>
    simp only [ArgTy, Bool.false_eq_true, if_false] at h
    obtain ⟨ty, rfl, h⟩ := h
    obtain ⟨_, h2, h3⟩ := HasTy_ok h
    exact ⟨h2, h3⟩

/-- The machine's answer. -/
theorem law_calls {tab : Tab} (htab : TabOk P tab) {f : Nat} {vs : List Value} {Ds : List Dat} (hrep : RepL (Gh.init w) w Ds vs) (hu : Dat.underL 0 Ds = true) (hown : ∀ d ∈ Ds, ∀ (g : Gh) (w : World) π v, Own g w π d v) {b : Bool}
    (hrun : run tab f Ds [] = some (.bool b, [])) : Calls P f vs.toArray w fun e w' => e = .returned (.bool b) ∧ RowKit.Below w.heap.size w w' := by
  obtain ⟨_, hc⟩ := run_ok htab f Ds [] (.bool b) [] hrun 0 (Gh.init w) w vs 0 (fun b π hb => by simp [Gh.init] at hb) (init_st w) hrep (by simpa using hu) fun d hd π v => hown d hd _ _ π v
  refine Calls.mono hc fun e w' ⟨v, g', he, hs, _, hch, _⟩ => ?_
  have hr := hs.1
  simp only [Rep] at hr
  rw [he, hr]
  refine ⟨rfl, hch.os, hch.tape, hch.output, hch.size, fun k hk => (hch.keep k ⟨hk, fun id hid => by simp at hid, fun id i h => by simp [Gh.init] at h⟩).1⟩
end
end Go.Mir
