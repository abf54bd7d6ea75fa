/- The law InlineBack returns true at every input, without any further condition, and leaves its arguments as they were. -/
import Derived.Test.YtlpfeikoniepiaaRRRows
import Derived.Test.YtlpfeikoniepiaaRROkA
import Derived.Test.YtlpfeikoniepiaaRRJ5
import Derived.Test.YtlpfeikoniepiaaRRMirTypes
import Derived.Test.YtlpfeikoniepiaaRRMirBridge
import Derived.WalkKit
import Derived.ProofKit
import Derived.OpenShut
import Derived.ShutString
import Derived.ChangeOld
import Derived.Below
import Derived.SizedLaws
set_option linter.all false
namespace Go.Mir.A
theorem pure8 {a0 : Bool} {l0 : List CTy} {D0 : Dat} (ha0 : aggP Go.Proofs.Try.prog 48 = some a0) (hl0 : layP Go.Proofs.Try.prog 20 48 = some l0)
    (h0 : ArgTy a0 l0 D0) : run tab 8 [D0] [] = some (.bool true, []) := by
  obtain rfl : a0 = false := Option.some.inj (ha0.symm.trans (show aggP Go.Proofs.Try.prog 48 = some false by kernel_rfl))
  obtain rfl : l0 = [.sl entryT] := Option.some.inj (hl0.symm.trans (show layP Go.Proofs.Try.prog 20 48 = some ([.sl entryT]) by kernel_rfl))
  obtain ⟨x0, rfl, y0, z0⟩ := arg_entries h0
  exact t8 x0 y0 (fun x hx => (z0 x hx).b.len)
end Go.Mir.A
namespace Go.Proofs.YtlpfeikoniepiaaRR.inlineBack
open Go.ChangeShapes Go.WideShapes Go.ChangeAt Go.RowKit Go.Mir
set_option linter.unusedVariables false
theorem own : ownKnob Try.prog.godebug = none := by kernel_rfl
theorem laidOut : laidOutB Try.prog = true := by kernel_rfl
theorem agg0 : (aggP Try.prog 48).isSome = true := by kernel_rfl
theorem lay0 : (layP Try.prog 20 48).isSome = true := by kernel_rfl
set_option maxRecDepth 100000 in
theorem lifted (os : Os) (started : os.Started) (H : Type) (enc : TypeId × Value → H) :
    ReturnsInHanded {} Try.checked os 8 .any (Rows.inlineBackSpec.pre6 enc Try.prog Try.f8 Rows.inlineBackRow.domain false) (Rows.inlineBackSpec.post enc Try.prog Try.f8 false true false false) := by
  refine returnsInHanded_of_change (C := Try.checked) own started (by kernel_rfl) Try.func8
    (ChangeSpec.witness6 (enc := enc) (C := Try.checked) false ⟨#[], #[.slice none 0 0], []⟩ 8 (by kernel_rfl) (by kernel_rfl) (by kernel_rfl) (by kernel_rfl)) ?_
  intro W base args ds gs before hval0 hW hcnd _
  have hval : ∀ (j : Nat) t v, Try.f8.params[j]? = some t → args[j]? = some v → Value.okWide Try.prog W .any base t v := hval0
  have hW' := hW
  obtain ⟨p, q, hA0, hV, rfl, hfz, hnd⟩ := hW
  have hA : DataW.TrodAll enc Try.prog W 0 (fun _ => true) true Try.f8.params.toList args.toList ds p := hA0
  rw [Try.params8] at hA hval
  obtain ⟨v0, vs0, d0, ds0, p0, q0, hargs, rfl, rfl, h0, r0⟩ := trodAll_cons hA
  obtain ⟨rfl, rfl, rfl⟩ := trodAll_nil r0
  obtain rfl : args = #[v0] := by cases args; simp_all
  obtain ⟨rfl, rfl⟩ := trodVars_none hV
  have lt0 : ∀ x ∈ p0, x.block < W.heap.size := by obtain ⟨m, hm⟩ := h0; exact DataW.trod_lt m _ _ _ hm
  obtain ⟨a0, ha0⟩ := Option.isSome_iff_exists.1 agg0
  obtain ⟨l0, hl0⟩ := Option.isSome_iff_exists.1 lay0
  obtain ⟨D0, hr0, ht0⟩ := open_arg ha0 hl0 (hval 0 48 v0 rfl rfl) h0
  have hu : Dat.underL 0 [D0] = true := by simp only [Dat.underL, (ArgTy_ok ht0).1, Bool.and_self]
  have ho : ∀ d ∈ [D0], ∀ (g : Gh) (w : World) π v, Own g w π d v := by
    intro d hd
    simp only [List.mem_cons, List.not_mem_nil, or_false] at hd
    rcases hd with rfl
    · exact (ArgTy_ok ht0).2
  refine (law_calls A.tabOk (RepL_cons hr0 (by simp only [RepL])) hu ho (A.pure8 ha0 hl0 ht0)).mono fun e W' ⟨he, bel⟩ => ?_
  subst he
  exact ⟨_, rfl, _, _, _, [], _, [], hW', trodAll_mk1 (shut_bool Try.underlying4 _), (trodAll_cons_mk (Below.trod laidOut (by kernel_rfl) (of_decide_eq_true (by kernel_rfl)) h0 bel lt0) trodAll_mk0), rfl, bel.frame _, fun h => by cases h⟩
theorem over : Rows.inlineBackRow.holds Try.pinned (OpenSpec.ofChange Rows.inlineBackSpec) :=
  OpenClaim.holds_of_wide 8 Try.f8 rfl rfl rfl rfl rfl rfl rfl ⟨rfl, rfl, rfl, rfl, rfl⟩ rfl rfl rfl rfl rfl (by kernel_rfl) Try.func8 (by kernel_rfl)
    (of_decide_eq_true (by kernel_rfl)) (by unfold Func.isWrapper; first | (rw [if_pos (by decide +kernel)]; kernel_rfl) | (rw [if_neg (by decide +kernel)]; exact ⟨rfl, rfl⟩))
    (fun os started H enc _ => lifted os started H enc)
end Go.Proofs.YtlpfeikoniepiaaRR.inlineBack
namespace Go.Proofs.YtlpfeikoniepiaaRR
theorem inlineBack_holds : Rows.InlineBackSaid := inlineBack.over
end Go.Proofs.YtlpfeikoniepiaaRR
