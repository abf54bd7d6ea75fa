/- The law DiskLeft returns true at every input, without any further condition, and leaves its arguments as they were. -/
import Derived.Test.YtlpfeikoniepiaaRRDoorRows
import Derived.Test.YtlpfeikoniepiaaRRDoorCards
import Derived.Test.YtlpfeikoniepiaaRRDoorTie
import Derived.Test.YtlpfeikoniepiaaRRDoorOkD
import Derived.Test.YtlpfeikoniepiaaRRDoorE5
import Derived.Test.YtlpfeikoniepiaaRRDoorMidTypes
import Derived.Test.YtlpfeikoniepiaaRRDoorMidBridge
import Derived.WalkKit
import Derived.ProofKit
import Derived.OpenShut
import Derived.ShutString
import Derived.ChangeOld
import Derived.Below
import Derived.SizedLaws
import Derived.LaidMore
import Derived.Lay
import Derived.SevenTiedAt
import Derived.Stop.Joined
set_option linter.all false
namespace Go.Mir.D
theorem pure5 {a0 a1 : Bool} {l0 l1 : List CTy} {D0 D1 : Dat} (ha0 : aggP Go.Proofs.Tryd.prog 51 = some a0) (hl0 : layP Go.Proofs.Tryd.prog 20 51 = some l0) (ha1 : aggP Go.Proofs.Tryd.prog 3 = some a1) (hl1 : layP Go.Proofs.Tryd.prog 20 3 = some l1)
    (h0 : ArgTy a0 l0 D0) (h1 : ArgTy a1 l1 D1) : run tab 5 [D0, D1] [] = some (.bool true, []) := by
  obtain rfl : a0 = false := Option.some.inj (ha0.symm.trans (show aggP Go.Proofs.Tryd.prog 51 = some false by kernel_rfl))
  obtain rfl : l0 = [.sl writeT] := Option.some.inj (hl0.symm.trans (show layP Go.Proofs.Tryd.prog 20 51 = some ([.sl writeT]) by kernel_rfl))
  obtain rfl : a1 = false := Option.some.inj (ha1.symm.trans (show aggP Go.Proofs.Tryd.prog 3 = some false by kernel_rfl))
  obtain rfl : l1 = [i64T] := Option.some.inj (hl1.symm.trans (show layP Go.Proofs.Tryd.prog 20 3 = some ([i64T]) by kernel_rfl))
  obtain ⟨x0, rfl, y0, z0⟩ := arg_writes h0
  obtain ⟨x1, rfl, y1⟩ := arg_int h1
  exact t5 x0 x1 y0
end Go.Mir.D
namespace Go.Proofs.YtlpfeikoniepiaaRRDoor.diskLeft
open Go.ChangeShapes Go.WideShapes Go.ChangeAt Go.RowKit Go.Mir
set_option linter.unusedVariables false
theorem own : ownKnob Tryd.prog.godebug = none := by kernel_rfl
theorem laidOut : laidOutB Tryd.prog = true := by kernel_rfl
theorem agg0 : (aggP Tryd.prog 51).isSome = true := by kernel_rfl
theorem lay0 : (layP Tryd.prog 20 51).isSome = true := by kernel_rfl
theorem agg1 : (aggP Tryd.prog 3).isSome = true := by kernel_rfl
theorem lay1 : (layP Tryd.prog 20 3).isSome = true := by kernel_rfl
set_option maxRecDepth 100000 in
theorem lifted (os : Os) (started : os.Started) (H : Type) (enc : TypeId × Value → H) :
    ReturnsInHanded {} Tryd.checked os 5 .any (fun w args => (Rows.diskLeftSpec.pre enc Tryd.prog Tryd.f5 Rows.diskLeftRow.domain false w args ∧ laidMetH Tryd.prog Rows.diskLeftRow.laid w) ∧ sizedMet enc Tryd.prog Tryd.f5 (OpenSpec.ofChange Rows.diskLeftSpec) false w args) (Rows.diskLeftSpec.post enc Tryd.prog Tryd.f5 false true false false) := by
  refine returnsInHanded_of_change_and (C := Tryd.checked) (X := fun w _ => laidMetH Tryd.prog Rows.diskLeftRow.laid w) (fun _ _ _ hh h => h.of_heap hh) own started (by kernel_rfl) Tryd.func5
    (ChangeSpec.witness_shaped (enc := enc) (C := Tryd.checked) (os := os) (X := fun w _ => laidMetH Tryd.prog Rows.diskLeftRow.laid w) false (World.laidAll Tryd.prog os Rows.diskLeftRow.laid) #[.slice none 0 0, .int .i64 0] 8 (World.laidAll_os _ _ _)
      (World.shaped_of_ZipB (by kernel_rfl) (by kernel_rfl)) (by kernel_rfl) (by kernel_rfl) (by kernel_rfl) (by rw [MakeChecks.laidMetH_plain _ _ _ (by kernel_rfl)]; exact laidMet_laidAll _ (by kernel_rfl) (by kernel_rfl))) ?_
  intro W base args ds gs before hval0 hW hcnd _ hL _
  have hval : ∀ (j : Nat) t v, Tryd.f5.params[j]? = some t → args[j]? = some v → Value.okWide Tryd.prog W .any base t v := hval0
  have hW' := hW
  obtain ⟨p, q, hA0, hV, rfl, hfz, hnd⟩ := hW
  have hA : DataW.TrodAll enc Tryd.prog W 0 (fun _ => true) true Tryd.f5.params.toList args.toList ds p := hA0
  rw [Tryd.params5] at hA hval
  obtain ⟨v0, vs0, d0, ds0, p0, q0, hargs, rfl, rfl, h0, r0⟩ := trodAll_cons hA
  obtain ⟨v1, vs1, d1, ds1, p1, q1, rfl, rfl, rfl, h1, r1⟩ := trodAll_cons r0
  obtain ⟨rfl, rfl, rfl⟩ := trodAll_nil r1
  obtain rfl : args = #[v0, v1] := by cases args; simp_all
  obtain ⟨rfl, rfl⟩ := trodVars_none hV
  have lt0 : ∀ x ∈ p0, x.block < W.heap.size := by obtain ⟨m, hm⟩ := h0; exact DataW.trod_lt m _ _ _ hm
  obtain ⟨a0, ha0⟩ := Option.isSome_iff_exists.1 agg0
  obtain ⟨l0, hl0⟩ := Option.isSome_iff_exists.1 lay0
  obtain ⟨D0, hr0, ht0⟩ := open_arg ha0 hl0 (hval 0 51 v0 rfl rfl) h0
  have lt1 : ∀ x ∈ p1, x.block < W.heap.size := by obtain ⟨m, hm⟩ := h1; exact DataW.trod_lt m _ _ _ hm
  obtain ⟨a1, ha1⟩ := Option.isSome_iff_exists.1 agg1
  obtain ⟨l1, hl1⟩ := Option.isSome_iff_exists.1 lay1
  obtain ⟨D1, hr1, ht1⟩ := open_arg ha1 hl1 (hval 1 3 v1 rfl rfl) h1
  have hu : Dat.underL 0 [D0, D1] = true := by simp only [Dat.underL, (ArgTy_ok ht0).1, (ArgTy_ok ht1).1, Bool.and_self]
  have ho : ∀ d ∈ [D0, D1], ∀ (g : Gh) (w : World) π v, Own g w π d v := by
    intro d hd
    simp only [List.mem_cons, List.not_mem_nil, or_false] at hd
    rcases hd with rfl | rfl
    · exact (ArgTy_ok ht0).2
    · exact (ArgTy_ok ht1).2
  refine (law_calls D.tabOk (RepL_cons hr0 (RepL_cons hr1 (by simp only [RepL]))) hu ho (D.pure5 ha0 hl0 ha1 hl1 ht0 ht1)).mono fun e W' ⟨he, bel⟩ => ?_
  subst he
  exact ⟨_, rfl, _, _, _, [], _, [], hW', trodAll_mk1 (shut_bool Tryd.underlying4 _), (trodAll_cons_mk (Below.trod laidOut (by kernel_rfl) (of_decide_eq_true (by kernel_rfl)) h0 bel lt0) (trodAll_cons_mk (Below.trod laidOut (by kernel_rfl) (of_decide_eq_true (by kernel_rfl)) h1 bel lt1) trodAll_mk0)), rfl, bel.frame _, fun h => by cases h⟩
theorem over : Rows.diskLeftRow.holds Tryd.pinned (OpenSpec.ofChange Rows.diskLeftSpec) :=
  OpenClaim.holds_of_wide 5 Tryd.f5 rfl rfl rfl rfl rfl rfl rfl ⟨rfl, rfl, rfl, rfl, rfl⟩ rfl rfl rfl rfl rfl (by kernel_rfl) Tryd.func5 (by kernel_rfl)
    (of_decide_eq_true (by kernel_rfl)) (by unfold Func.isWrapper; first | (rw [if_pos (by decide +kernel)]; kernel_rfl) | (rw [if_neg (by decide +kernel)]; exact ⟨rfl, rfl⟩))
    (fun os started H enc _ => lifted os started H enc)
end Go.Proofs.YtlpfeikoniepiaaRRDoor.diskLeft
namespace Go.Proofs.YtlpfeikoniepiaaRRDoor
theorem diskLeft_row : Rows.DiskLeftSaid := diskLeft.over
theorem diskLeft_holds : Rows.DiskLeftCardSaid :=
  Claim7.holds_tied_plain_at .later [] [.data, .pinned] true (true, "e91cc5a0d5e537619e5b6be24b12bce53593026b0f89cdba6f5531decc23d9ed") true diskLeft_row (fun _ h => by cases h) (by kernel_rfl) (fun _ h => by cases h) diskLeft_row_tie rfl ⟨rfl, rfl⟩ (by kernel_rfl) rfl
    (fun f fn hf hfn => by
      obtain rfl : f = 5 := Option.some.inj ((show Tryd.prog.funcNamed "roving/rovinglaw03.DiskLeft" = some 5 by kernel_rfl).symm.trans hf) |>.symm
      obtain rfl : fn = Tryd.f5 := (Option.some.inj (Tryd.func5.symm.trans hfn)).symm
      exact ⟨by kernel_rfl, fun j t ht => by
        rw [Tryd.params5] at ht
        have hm : t ∈ [51, 3] := by simpa using Array.mem_of_getElem? ht
        have hall : ([51, 3].all fun u => !Tryd.prog.wantsStandIn u) = true := by kernel_rfl
        exact (show Tryd.prog.wantsStandIn t = false by simpa using List.all_eq_true.1 hall t hm)⟩)
    (by kernel_rfl)
end Go.Proofs.YtlpfeikoniepiaaRRDoor
