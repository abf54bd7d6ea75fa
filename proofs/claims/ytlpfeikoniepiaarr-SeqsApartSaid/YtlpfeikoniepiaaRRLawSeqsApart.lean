/- The law SeqsApart returns true at every input, without any further condition, and leaves its arguments as they were. -/
import Derived.Test.YtlpfeikoniepiaaRRRows
import Derived.Test.YtlpfeikoniepiaaRROkA
import Derived.Test.YtlpfeikoniepiaaRRL25
import Derived.Test.YtlpfeikoniepiaaRRMirTypes
import Derived.Test.YtlpfeikoniepiaaRRMirBridge
import Derived.WalkKit
import Derived.ProofKit
import Derived.OpenShut
import Derived.ShutString
import Derived.ChangeOld
import Derived.Below
import Derived.SizedLaws
set_option linter.all false
namespace Go.Mir.A
theorem pure5 {a0 a1 a2 : Bool} {l0 l1 l2 : List CTy} {D0 D1 D2 : Dat} (ha0 : aggP Go.Proofs.Try.prog 22 = some a0) (hl0 : layP Go.Proofs.Try.prog 20 22 = some l0) (ha1 : aggP Go.Proofs.Try.prog 25 = some a1) (hl1 : layP Go.Proofs.Try.prog 20 25 = some l1) (ha2 : aggP Go.Proofs.Try.prog 25 = some a2) (hl2 : layP Go.Proofs.Try.prog 20 25 = some l2)
    (h0 : ArgTy a0 l0 D0) (h1 : ArgTy a1 l1 D1) (h2 : ArgTy a2 l2 D2) : run tab 5 [D0, D1, D2] [] = some (.bool true, []) := by
  obtain rfl : a0 = false := Option.some.inj (ha0.symm.trans (show aggP Go.Proofs.Try.prog 22 = some false by kernel_rfl))
  obtain rfl : l0 = [.sl prodT] := Option.some.inj (hl0.symm.trans (show layP Go.Proofs.Try.prog 20 22 = some ([.sl prodT]) by kernel_rfl))
  obtain rfl : a1 = true := Option.some.inj (ha1.symm.trans (show aggP Go.Proofs.Try.prog 25 = some true by kernel_rfl))
  obtain rfl : l1 = batchT := Option.some.inj (hl1.symm.trans (show layP Go.Proofs.Try.prog 20 25 = some (batchT) by kernel_rfl))
  obtain rfl : a2 = true := Option.some.inj (ha2.symm.trans (show aggP Go.Proofs.Try.prog 25 = some true by kernel_rfl))
  obtain rfl : l2 = batchT := Option.some.inj (hl2.symm.trans (show layP Go.Proofs.Try.prog 20 25 = some (batchT) by kernel_rfl))
  obtain ⟨x0, rfl, y0, z0⟩ := arg_prods h0
  obtain ⟨x1, rfl, y1⟩ := arg_batch h1
  obtain ⟨x2, rfl, y2⟩ := arg_batch h2
  exact t5 x0 x1 x2 y0 (fun p hp s hs => ((z0 p hp).seen s hs).seq.2) y1.len y2.len y1.seq.2 y2.seq.2
end Go.Mir.A
namespace Go.Proofs.YtlpfeikoniepiaaRR.seqsApart
open Go.ChangeShapes Go.WideShapes Go.ChangeAt Go.RowKit Go.Mir
set_option linter.unusedVariables false
theorem own : ownKnob Try.prog.godebug = none := by kernel_rfl
theorem laidOut : laidOutB Try.prog = true := by kernel_rfl
theorem agg0 : (aggP Try.prog 22).isSome = true := by kernel_rfl
theorem lay0 : (layP Try.prog 20 22).isSome = true := by kernel_rfl
theorem agg1 : (aggP Try.prog 25).isSome = true := by kernel_rfl
theorem lay1 : (layP Try.prog 20 25).isSome = true := by kernel_rfl
theorem agg2 : (aggP Try.prog 25).isSome = true := by kernel_rfl
theorem lay2 : (layP Try.prog 20 25).isSome = true := by kernel_rfl
set_option maxRecDepth 100000 in
theorem lifted (os : Os) (started : os.Started) (H : Type) (enc : TypeId × Value → H) :
    ReturnsInHanded {} Try.checked os 5 .any (Rows.seqsApartSpec.pre6 enc Try.prog Try.f5 Rows.seqsApartRow.domain false) (Rows.seqsApartSpec.post enc Try.prog Try.f5 false true false false) := by
  refine returnsInHanded_of_change (C := Try.checked) own started (by kernel_rfl) Try.func5
    (ChangeSpec.witness6 (enc := enc) (C := Try.checked) false ⟨#[], #[.slice none 0 0, .agg #[.int .i64 0, .int .i64 0, .int .i64 0, .bool false, .slice none 0 0], .agg #[.int .i64 0, .int .i64 0, .int .i64 0, .bool false, .slice none 0 0]], []⟩ 8 (by kernel_rfl) (by kernel_rfl) (by kernel_rfl) (by kernel_rfl)) ?_
  intro W base args ds gs before hval0 hW hcnd _
  have hval : ∀ (j : Nat) t v, Try.f5.params[j]? = some t → args[j]? = some v → Value.okWide Try.prog W .any base t v := hval0
  have hW' := hW
  obtain ⟨p, q, hA0, hV, rfl, hfz, hnd⟩ := hW
  have hA : DataW.TrodAll enc Try.prog W 0 (fun _ => true) true Try.f5.params.toList args.toList ds p := hA0
  rw [Try.params5] at hA hval
  obtain ⟨v0, vs0, d0, ds0, p0, q0, hargs, rfl, rfl, h0, r0⟩ := trodAll_cons hA
  obtain ⟨v1, vs1, d1, ds1, p1, q1, rfl, rfl, rfl, h1, r1⟩ := trodAll_cons r0
  obtain ⟨v2, vs2, d2, ds2, p2, q2, rfl, rfl, rfl, h2, r2⟩ := trodAll_cons r1
  obtain ⟨rfl, rfl, rfl⟩ := trodAll_nil r2
  obtain rfl : args = #[v0, v1, v2] := by cases args; simp_all
  obtain ⟨rfl, rfl⟩ := trodVars_none hV
  have lt0 : ∀ x ∈ p0, x.block < W.heap.size := by obtain ⟨m, hm⟩ := h0; exact DataW.trod_lt m _ _ _ hm
  obtain ⟨a0, ha0⟩ := Option.isSome_iff_exists.1 agg0
  obtain ⟨l0, hl0⟩ := Option.isSome_iff_exists.1 lay0
  obtain ⟨D0, hr0, ht0⟩ := open_arg ha0 hl0 (hval 0 22 v0 rfl rfl) h0
  have lt1 : ∀ x ∈ p1, x.block < W.heap.size := by obtain ⟨m, hm⟩ := h1; exact DataW.trod_lt m _ _ _ hm
  obtain ⟨a1, ha1⟩ := Option.isSome_iff_exists.1 agg1
  obtain ⟨l1, hl1⟩ := Option.isSome_iff_exists.1 lay1
  obtain ⟨D1, hr1, ht1⟩ := open_arg ha1 hl1 (hval 1 25 v1 rfl rfl) h1
  have lt2 : ∀ x ∈ p2, x.block < W.heap.size := by obtain ⟨m, hm⟩ := h2; exact DataW.trod_lt m _ _ _ hm
  obtain ⟨a2, ha2⟩ := Option.isSome_iff_exists.1 agg2
  obtain ⟨l2, hl2⟩ := Option.isSome_iff_exists.1 lay2
  obtain ⟨D2, hr2, ht2⟩ := open_arg ha2 hl2 (hval 2 25 v2 rfl rfl) h2
  have hu : Dat.underL 0 [D0, D1, D2] = true := by simp only [Dat.underL, (ArgTy_ok ht0).1, (ArgTy_ok ht1).1, (ArgTy_ok ht2).1, Bool.and_self]
  have ho : ∀ d ∈ [D0, D1, D2], ∀ (g : Gh) (w : World) π v, Own g w π d v := by
    intro d hd
    simp only [List.mem_cons, List.not_mem_nil, or_false] at hd
    rcases hd with rfl | rfl | rfl
    · exact (ArgTy_ok ht0).2
    · exact (ArgTy_ok ht1).2
    · exact (ArgTy_ok ht2).2
  refine (law_calls A.tabOk (RepL_cons hr0 (RepL_cons hr1 (RepL_cons hr2 (by simp only [RepL])))) hu ho (A.pure5 ha0 hl0 ha1 hl1 ha2 hl2 ht0 ht1 ht2)).mono fun e W' ⟨he, bel⟩ => ?_
  subst he
  exact ⟨_, rfl, _, _, _, [], _, [], hW', trodAll_mk1 (shut_bool Try.underlying4 _), (trodAll_cons_mk (Below.trod laidOut (by kernel_rfl) (of_decide_eq_true (by kernel_rfl)) h0 bel lt0) (trodAll_cons_mk (Below.trod laidOut (by kernel_rfl) (of_decide_eq_true (by kernel_rfl)) h1 bel lt1) (trodAll_cons_mk (Below.trod laidOut (by kernel_rfl) (of_decide_eq_true (by kernel_rfl)) h2 bel lt2) trodAll_mk0))), rfl, bel.frame _, fun h => by cases h⟩
theorem over : Rows.seqsApartRow.holds Try.pinned (OpenSpec.ofChange Rows.seqsApartSpec) :=
  OpenClaim.holds_of_wide 5 Try.f5 rfl rfl rfl rfl rfl rfl rfl ⟨rfl, rfl, rfl, rfl, rfl⟩ rfl rfl rfl rfl rfl (by kernel_rfl) Try.func5 (by kernel_rfl)
    (of_decide_eq_true (by kernel_rfl)) (by unfold Func.isWrapper; first | (rw [if_pos (by decide +kernel)]; kernel_rfl) | (rw [if_neg (by decide +kernel)]; exact ⟨rfl, rfl⟩))
    (fun os started H enc _ => lifted os started H enc)
end Go.Proofs.YtlpfeikoniepiaaRR.seqsApart
namespace Go.Proofs.YtlpfeikoniepiaaRR
theorem seqsApart_holds : Rows.SeqsApartSaid := seqsApart.over
end Go.Proofs.YtlpfeikoniepiaaRR
