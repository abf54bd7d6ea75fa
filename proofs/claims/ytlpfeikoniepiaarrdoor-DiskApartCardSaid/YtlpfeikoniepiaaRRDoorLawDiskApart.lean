/- The law DiskApart returns true at every input, without any further condition, and leaves its arguments as they were. -/
import Derived.Test.YtlpfeikoniepiaaRRDoorRows
import Derived.Test.YtlpfeikoniepiaaRRDoorCards
import Derived.Test.YtlpfeikoniepiaaRRDoorTie
import Derived.Test.YtlpfeikoniepiaaRRDoorOkD
import Derived.Test.YtlpfeikoniepiaaRRDoorE6
import Derived.Test.YtlpfeikoniepiaaRRDoorMidTypes
import Derived.Test.YtlpfeikoniepiaaRRDoorMidBridge
import Derived.WalkKit
import Derived.ProofKit
import Derived.OpenShut
import Derived.ShutString
import Derived.ChangeOld
import Derived.Below
import Derived.SizedLaws
import Derived.LaidMore
import Derived.Lay
import Derived.SevenTiedAt
import Derived.Stop.Joined
set_option linter.all false
namespace Go.Mir.D
theorem pure6 {a0 a1 a2 : Bool} {l0 l1 l2 : List CTy} {D0 D1 D2 : Dat} (ha0 : aggP Go.Proofs.Tryd.prog 24 = some a0) (hl0 : layP Go.Proofs.Tryd.prog 20 24 = some l0) (ha1 : aggP Go.Proofs.Tryd.prog 38 = some a1) (hl1 : layP Go.Proofs.Tryd.prog 20 38 = some l1) (ha2 : aggP Go.Proofs.Tryd.prog 38 = some a2) (hl2 : layP Go.Proofs.Tryd.prog 20 38 = some l2)
    (h0 : ArgTy a0 l0 D0) (h1 : ArgTy a1 l1 D1) (h2 : ArgTy a2 l2 D2) : run tab 6 [D0, D1, D2] [] = some (.bool true, []) := by
  obtain rfl : a0 = true := Option.some.inj (ha0.symm.trans (show aggP Go.Proofs.Tryd.prog 24 = some true by kernel_rfl))
  obtain rfl : l0 = diskT := Option.some.inj (hl0.symm.trans (show layP Go.Proofs.Tryd.prog 20 24 = some (diskT) by kernel_rfl))
  obtain rfl : a1 = true := Option.some.inj (ha1.symm.trans (show aggP Go.Proofs.Tryd.prog 38 = some true by kernel_rfl))
  obtain rfl : l1 = writeT := Option.some.inj (hl1.symm.trans (show layP Go.Proofs.Tryd.prog 20 38 = some (writeT) by kernel_rfl))
  obtain rfl : a2 = true := Option.some.inj (ha2.symm.trans (show aggP Go.Proofs.Tryd.prog 38 = some true by kernel_rfl))
  obtain rfl : l2 = writeT := Option.some.inj (hl2.symm.trans (show layP Go.Proofs.Tryd.prog 20 38 = some (writeT) by kernel_rfl))
  obtain ⟨x0, rfl, y0⟩ := arg_disk h0
  obtain ⟨x1, rfl, y1⟩ := arg_write h1
  obtain ⟨x2, rfl, y2⟩ := arg_write h2
  exact t6 x0 x1 x2 y0.left.1
end Go.Mir.D
namespace Go.Proofs.YtlpfeikoniepiaaRRDoor.diskApart
open Go.ChangeShapes Go.WideShapes Go.ChangeAt Go.RowKit Go.Mir
set_option linter.unusedVariables false
theorem own : ownKnob Tryd.prog.godebug = none := by kernel_rfl
theorem laidOut : laidOutB Tryd.prog = true := by kernel_rfl
theorem agg0 : (aggP Tryd.prog 24).isSome = true := by kernel_rfl
theorem lay0 : (layP Tryd.prog 20 24).isSome = true := by kernel_rfl
theorem agg1 : (aggP Tryd.prog 38).isSome = true := by kernel_rfl
theorem lay1 : (layP Tryd.prog 20 38).isSome = true := by kernel_rfl
theorem agg2 : (aggP Tryd.prog 38).isSome = true := by kernel_rfl
theorem lay2 : (layP Tryd.prog 20 38).isSome = true := by kernel_rfl
set_option maxRecDepth 100000 in
theorem lifted (os : Os) (started : os.Started) (H : Type) (enc : TypeId × Value → H) :
    ReturnsInHanded {} Tryd.checked os 6 .any (fun w args => (Rows.diskApartSpec.pre enc Tryd.prog Tryd.f6 Rows.diskApartRow.domain false w args ∧ laidMetH Tryd.prog Rows.diskApartRow.laid w) ∧ sizedMet enc Tryd.prog Tryd.f6 (OpenSpec.ofChange Rows.diskApartSpec) false w args) (Rows.diskApartSpec.post enc Tryd.prog Tryd.f6 false true false false) := by
  refine returnsInHanded_of_change_and (C := Tryd.checked) (X := fun w _ => laidMetH Tryd.prog Rows.diskApartRow.laid w) (fun _ _ _ hh h => h.of_heap hh) own started (by kernel_rfl) Tryd.func6
    (ChangeSpec.witness_shaped (enc := enc) (C := Tryd.checked) (os := os) (X := fun w _ => laidMetH Tryd.prog Rows.diskApartRow.laid w) false (World.laidAll Tryd.prog os Rows.diskApartRow.laid) #[.agg #[.slice none 0 0, .int .i64 0, .int .i64 0, .bool false], .agg #[.int .i8 0, .string ⟨#[]⟩, .string ⟨#[]⟩, .int .i64 0], .agg #[.int .i8 0, .string ⟨#[]⟩, .string ⟨#[]⟩, .int .i64 0]] 8 (World.laidAll_os _ _ _)
      (World.shaped_of_ZipB (by kernel_rfl) (by kernel_rfl)) (by kernel_rfl) (by kernel_rfl) (by kernel_rfl) (by rw [MakeChecks.laidMetH_plain _ _ _ (by kernel_rfl)]; exact laidMet_laidAll _ (by kernel_rfl) (by kernel_rfl))) ?_
  intro W base args ds gs before hval0 hW hcnd _ hL _
  have hval : ∀ (j : Nat) t v, Tryd.f6.params[j]? = some t → args[j]? = some v → Value.okWide Tryd.prog W .any base t v := hval0
  have hW' := hW
  obtain ⟨p, q, hA0, hV, rfl, hfz, hnd⟩ := hW
  have hA : DataW.TrodAll enc Tryd.prog W 0 (fun _ => true) true Tryd.f6.params.toList args.toList ds p := hA0
  rw [Tryd.params6] at hA hval
  obtain ⟨v0, vs0, d0, ds0, p0, q0, hargs, rfl, rfl, h0, r0⟩ := trodAll_cons hA
  obtain ⟨v1, vs1, d1, ds1, p1, q1, rfl, rfl, rfl, h1, r1⟩ := trodAll_cons r0
  obtain ⟨v2, vs2, d2, ds2, p2, q2, rfl, rfl, rfl, h2, r2⟩ := trodAll_cons r1
  obtain ⟨rfl, rfl, rfl⟩ := trodAll_nil r2
  obtain rfl : args = #[v0, v1, v2] := by cases args; simp_all
  obtain ⟨rfl, rfl⟩ := trodVars_none hV
  have lt0 : ∀ x ∈ p0, x.block < W.heap.size := by obtain ⟨m, hm⟩ := h0; exact DataW.trod_lt m _ _ _ hm
  obtain ⟨a0, ha0⟩ := Option.isSome_iff_exists.1 agg0
  obtain ⟨l0, hl0⟩ := Option.isSome_iff_exists.1 lay0
  obtain ⟨D0, hr0, ht0⟩ := open_arg ha0 hl0 (hval 0 24 v0 rfl rfl) h0
  have lt1 : ∀ x ∈ p1, x.block < W.heap.size := by obtain ⟨m, hm⟩ := h1; exact DataW.trod_lt m _ _ _ hm
  obtain ⟨a1, ha1⟩ := Option.isSome_iff_exists.1 agg1
  obtain ⟨l1, hl1⟩ := Option.isSome_iff_exists.1 lay1
  obtain ⟨D1, hr1, ht1⟩ := open_arg ha1 hl1 (hval 1 38 v1 rfl rfl) h1
  have lt2 : ∀ x ∈ p2, x.block < W.heap.size := by obtain ⟨m, hm⟩ := h2; exact DataW.trod_lt m _ _ _ hm
  obtain ⟨a2, ha2⟩ := Option.isSome_iff_exists.1 agg2
  obtain ⟨l2, hl2⟩ := Option.isSome_iff_exists.1 lay2
  obtain ⟨D2, hr2, ht2⟩ := open_arg ha2 hl2 (hval 2 38 v2 rfl rfl) h2
  have hu : Dat.underL 0 [D0, D1, D2] = true := by simp only [Dat.underL, (ArgTy_ok ht0).1, (ArgTy_ok ht1).1, (ArgTy_ok ht2).1, Bool.and_self]
  have ho : ∀ d ∈ [D0, D1, D2], ∀ (g : Gh) (w : World) π v, Own g w π d v := by
    intro d hd
    simp only [List.mem_cons, List.not_mem_nil, or_false] at hd
    rcases hd with rfl | rfl | rfl
    · exact (ArgTy_ok ht0).2
    · exact (ArgTy_ok ht1).2
    · exact (ArgTy_ok ht2).2
  refine (law_calls D.tabOk (RepL_cons hr0 (RepL_cons hr1 (RepL_cons hr2 (by simp only [RepL])))) hu ho (D.pure6 ha0 hl0 ha1 hl1 ha2 hl2 ht0 ht1 ht2)).mono fun e W' ⟨he, bel⟩ => ?_
  subst he
  exact ⟨_, rfl, _, _, _, [], _, [], hW', trodAll_mk1 (shut_bool Tryd.underlying4 _), (trodAll_cons_mk (Below.trod laidOut (by kernel_rfl) (of_decide_eq_true (by kernel_rfl)) h0 bel lt0) (trodAll_cons_mk (Below.trod laidOut (by kernel_rfl) (of_decide_eq_true (by kernel_rfl)) h1 bel lt1) (trodAll_cons_mk (Below.trod laidOut (by kernel_rfl) (of_decide_eq_true (by kernel_rfl)) h2 bel lt2) trodAll_mk0))), rfl, bel.frame _, fun h => by cases h⟩
theorem over : Rows.diskApartRow.holds Tryd.pinned (OpenSpec.ofChange Rows.diskApartSpec) :=
  OpenClaim.holds_of_wide 6 Tryd.f6 rfl rfl rfl rfl rfl rfl rfl ⟨rfl, rfl, rfl, rfl, rfl⟩ rfl rfl rfl rfl rfl (by kernel_rfl) Tryd.func6 (by kernel_rfl)
    (of_decide_eq_true (by kernel_rfl)) (by unfold Func.isWrapper; first | (rw [if_pos (by decide +kernel)]; kernel_rfl) | (rw [if_neg (by decide +kernel)]; exact ⟨rfl, rfl⟩))
    (fun os started H enc _ => lifted os started H enc)
end Go.Proofs.YtlpfeikoniepiaaRRDoor.diskApart
namespace Go.Proofs.YtlpfeikoniepiaaRRDoor
theorem diskApart_row : Rows.DiskApartSaid := diskApart.over
theorem diskApart_holds : Rows.DiskApartCardSaid :=
  Claim7.holds_tied_plain_at .later [] [.data, .pinned] true (true, "e91cc5a0d5e537619e5b6be24b12bce53593026b0f89cdba6f5531decc23d9ed") true diskApart_row (fun _ h => by cases h) (by kernel_rfl) (fun _ h => by cases h) diskApart_row_tie rfl ⟨rfl, rfl⟩ (by kernel_rfl) rfl
    (fun f fn hf hfn => by
      obtain rfl : f = 6 := Option.some.inj ((show Tryd.prog.funcNamed "roving/rovinglaw03.DiskApart" = some 6 by kernel_rfl).symm.trans hf) |>.symm
      obtain rfl : fn = Tryd.f6 := (Option.some.inj (Tryd.func6.symm.trans hfn)).symm
      exact ⟨by kernel_rfl, fun j t ht => by
        rw [Tryd.params6] at ht
        have hm : t ∈ [24, 38, 38] := by simpa using Array.mem_of_getElem? ht
        have hall : ([24, 38, 38].all fun u => !Tryd.prog.wantsStandIn u) = true := by kernel_rfl
        exact (show Tryd.prog.wantsStandIn t = false by simpa using List.all_eq_true.1 hall t hm)⟩)
    (by kernel_rfl)
end Go.Proofs.YtlpfeikoniepiaaRRDoor
