/- The law InlineTurns returns true at every input, without any further condition, and leaves its arguments as they were. -/
import Derived.Test.YtlpfeikoniepiaaRRRows
import Derived.Test.YtlpfeikoniepiaaRROkA
import Derived.Test.YtlpfeikoniepiaaRRK11
import Derived.Test.YtlpfeikoniepiaaRRMirTypes
import Derived.Test.YtlpfeikoniepiaaRRMirBridge
import Derived.WalkKit
import Derived.ProofKit
import Derived.OpenShut
import Derived.ShutString
import Derived.ChangeOld
import Derived.Below
import Derived.SizedLaws
set_option linter.all false
namespace Go.Mir.A
theorem pure7 {a0 a1 : Bool} {l0 l1 : List CTy} {D0 D1 : Dat} (ha0 : aggP Go.Proofs.Try.prog 48 = some a0) (hl0 : layP Go.Proofs.Try.prog 20 48 = some l0) (ha1 : aggP Go.Proofs.Try.prog 3 = some a1) (hl1 : layP Go.Proofs.Try.prog 20 3 = some l1)
    (h0 : ArgTy a0 l0 D0) (h1 : ArgTy a1 l1 D1) : ∀ (W : World) (vs : List Value), RepL (Gh.init W) W [D0, D1] vs → Calls Go.Proofs.Try.prog 7 vs.toArray W fun e W' => e = .returned (.bool true) ∧ RowKit.Below W.heap.size W W' := by
  intro W vs hr
  obtain rfl : a0 = false := Option.some.inj (ha0.symm.trans (show aggP Go.Proofs.Try.prog 48 = some false by kernel_rfl))
  obtain rfl : l0 = [.sl entryT] := Option.some.inj (hl0.symm.trans (show layP Go.Proofs.Try.prog 20 48 = some ([.sl entryT]) by kernel_rfl))
  obtain rfl : a1 = false := Option.some.inj (ha1.symm.trans (show aggP Go.Proofs.Try.prog 3 = some false by kernel_rfl))
  obtain rfl : l1 = [i64T] := Option.some.inj (hl1.symm.trans (show layP Go.Proofs.Try.prog 20 3 = some ([i64T]) by kernel_rfl))
  obtain ⟨x0, rfl, y0, z0⟩ := arg_entries h0
  obtain ⟨x1, rfl, y1⟩ := arg_int h1
  exact calls7 x0 x1 (fun x hx => (z0 x hx).b.len) W vs hr
end Go.Mir.A
namespace Go.Proofs.YtlpfeikoniepiaaRR.inlineTurns
open Go.ChangeShapes Go.WideShapes Go.ChangeAt Go.RowKit Go.Mir
set_option linter.unusedVariables false
theorem own : ownKnob Try.prog.godebug = none := by kernel_rfl
theorem laidOut : laidOutB Try.prog = true := by kernel_rfl
theorem agg0 : (aggP Try.prog 48).isSome = true := by kernel_rfl
theorem lay0 : (layP Try.prog 20 48).isSome = true := by kernel_rfl
theorem agg1 : (aggP Try.prog 3).isSome = true := by kernel_rfl
theorem lay1 : (layP Try.prog 20 3).isSome = true := by kernel_rfl
set_option maxRecDepth 100000 in
theorem lifted (os : Os) (started : os.Started) (H : Type) (enc : TypeId × Value → H) :
    ReturnsInHanded {} Try.checked os 7 .any (Rows.inlineTurnsSpec.pre6 enc Try.prog Try.f7 Rows.inlineTurnsRow.domain false) (Rows.inlineTurnsSpec.post enc Try.prog Try.f7 false true false false) := by
  refine returnsInHanded_of_change (C := Try.checked) own started (by kernel_rfl) Try.func7
    (ChangeSpec.witness6 (enc := enc) (C := Try.checked) false ⟨#[], #[.slice none 0 0, .int .i64 0], []⟩ 8 (by kernel_rfl) (by kernel_rfl) (by kernel_rfl) (by kernel_rfl)) ?_
  intro W base args ds gs before hval0 hW hcnd _
  have hval : ∀ (j : Nat) t v, Try.f7.params[j]? = some t → args[j]? = some v → Value.okWide Try.prog W .any base t v := hval0
  have hW' := hW
  obtain ⟨p, q, hA0, hV, rfl, hfz, hnd⟩ := hW
  have hA : DataW.TrodAll enc Try.prog W 0 (fun _ => true) true Try.f7.params.toList args.toList ds p := hA0
  rw [Try.params7] at hA hval
  obtain ⟨v0, vs0, d0, ds0, p0, q0, hargs, rfl, rfl, h0, r0⟩ := trodAll_cons hA
  obtain ⟨v1, vs1, d1, ds1, p1, q1, rfl, rfl, rfl, h1, r1⟩ := trodAll_cons r0
  obtain ⟨rfl, rfl, rfl⟩ := trodAll_nil r1
  obtain rfl : args = #[v0, v1] := by cases args; simp_all
  obtain ⟨rfl, rfl⟩ := trodVars_none hV
  have lt0 : ∀ x ∈ p0, x.block < W.heap.size := by obtain ⟨m, hm⟩ := h0; exact DataW.trod_lt m _ _ _ hm
  obtain ⟨a0, ha0⟩ := Option.isSome_iff_exists.1 agg0
  obtain ⟨l0, hl0⟩ := Option.isSome_iff_exists.1 lay0
  obtain ⟨D0, hr0, ht0⟩ := open_arg ha0 hl0 (hval 0 48 v0 rfl rfl) h0
  have lt1 : ∀ x ∈ p1, x.block < W.heap.size := by obtain ⟨m, hm⟩ := h1; exact DataW.trod_lt m _ _ _ hm
  obtain ⟨a1, ha1⟩ := Option.isSome_iff_exists.1 agg1
  obtain ⟨l1, hl1⟩ := Option.isSome_iff_exists.1 lay1
  obtain ⟨D1, hr1, ht1⟩ := open_arg ha1 hl1 (hval 1 3 v1 rfl rfl) h1
  have hu : Dat.underL 0 [D0, D1] = true := by simp only [Dat.underL, (ArgTy_ok ht0).1, (ArgTy_ok ht1).1, Bool.and_self]
  have ho : ∀ d ∈ [D0, D1], ∀ (g : Gh) (w : World) π v, Own g w π d v := by
    intro d hd
    simp only [List.mem_cons, List.not_mem_nil, or_false] at hd
    rcases hd with rfl | rfl
    · exact (ArgTy_ok ht0).2
    · exact (ArgTy_ok ht1).2
  refine (A.pure7 ha0 hl0 ha1 hl1 ht0 ht1 _ _ (RepL_cons hr0 (RepL_cons hr1 (by simp only [RepL])))).mono fun e W' ⟨he, bel⟩ => ?_
  subst he
  exact ⟨_, rfl, _, _, _, [], _, [], hW', trodAll_mk1 (shut_bool Try.underlying4 _), (trodAll_cons_mk (Below.trod laidOut (by kernel_rfl) (of_decide_eq_true (by kernel_rfl)) h0 bel lt0) (trodAll_cons_mk (Below.trod laidOut (by kernel_rfl) (of_decide_eq_true (by kernel_rfl)) h1 bel lt1) trodAll_mk0)), rfl, bel.frame _, fun h => by cases h⟩
theorem over : Rows.inlineTurnsRow.holds Try.pinned (OpenSpec.ofChange Rows.inlineTurnsSpec) :=
  OpenClaim.holds_of_wide 7 Try.f7 rfl rfl rfl rfl rfl rfl rfl ⟨rfl, rfl, rfl, rfl, rfl⟩ rfl rfl rfl rfl rfl (by kernel_rfl) Try.func7 (by kernel_rfl)
    (of_decide_eq_true (by kernel_rfl)) (by unfold Func.isWrapper; first | (rw [if_pos (by decide +kernel)]; kernel_rfl) | (rw [if_neg (by decide +kernel)]; exact ⟨rfl, rfl⟩))
    (fun os started H enc _ => lifted os started H enc)
end Go.Proofs.YtlpfeikoniepiaaRR.inlineTurns
namespace Go.Proofs.YtlpfeikoniepiaaRR
theorem inlineTurns_holds : Rows.InlineTurnsSaid := inlineTurns.over
end Go.Proofs.YtlpfeikoniepiaaRR
