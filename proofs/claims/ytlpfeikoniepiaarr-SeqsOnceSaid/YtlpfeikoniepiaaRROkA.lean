/- Each function of the program stands behind its mirror function. -/
import Derived.Test.YtlpfeikoniepiaaRRMirTabA
import Derived.Test.YtlpfeikoniepiaaRRMirRun
import Derived.Test.YtlpfeikoniepiaaRRProg
import Derived.KernelRfl
set_option linter.all false
--ALIAS Try
namespace Go.Mir.A
set_option maxRecDepth 100000
theorem ok3 : compile Go.Proofs.Try.prog 3 = some { m3 with own := false, esc := false } := by kernel_rfl
theorem ok4 : compile Go.Proofs.Try.prog 4 = some { m4 with own := false, esc := false } := by kernel_rfl
theorem ok5 : compile Go.Proofs.Try.prog 5 = some { m5 with own := false, esc := false } := by kernel_rfl
theorem ok9 : compile Go.Proofs.Try.prog 9 = some { m9 with own := false, esc := false } := by kernel_rfl
theorem ok10 : compile Go.Proofs.Try.prog 10 = some { m10 with own := false, esc := false } := by kernel_rfl
theorem ok11 : compile Go.Proofs.Try.prog 11 = some { m11 with own := false, esc := false } := by kernel_rfl
theorem ok12 : compile Go.Proofs.Try.prog 12 = some { m12 with own := false, esc := false } := by kernel_rfl
theorem ok13 : compile Go.Proofs.Try.prog 13 = some { m13 with own := false, esc := false } := by kernel_rfl
theorem ok14 : compile Go.Proofs.Try.prog 14 = some { m14 with own := false, esc := false } := by kernel_rfl
theorem ok15 : compile Go.Proofs.Try.prog 15 = some { m15 with own := false, esc := false } := by kernel_rfl
theorem ok16 : compile Go.Proofs.Try.prog 16 = some { m16 with own := false, esc := false } := by kernel_rfl
theorem ok17 : compile Go.Proofs.Try.prog 17 = some { m17 with own := false, esc := false } := by kernel_rfl
theorem ok18 : compile Go.Proofs.Try.prog 18 = some { m18 with own := false, esc := false } := by kernel_rfl
theorem ok19 : compile Go.Proofs.Try.prog 19 = some { m19 with own := false, esc := false } := by kernel_rfl
theorem ok20 : compile Go.Proofs.Try.prog 20 = some { m20 with own := false, esc := false } := by kernel_rfl
theorem ok21 : compile Go.Proofs.Try.prog 21 = some { m21 with own := false, esc := false } := by kernel_rfl
theorem ok22 : compile Go.Proofs.Try.prog 22 = some { m22 with own := false, esc := false } := by kernel_rfl
theorem ok32 : compile Go.Proofs.Try.prog 32 = some { m32 with own := false, esc := false } := by kernel_rfl
theorem ok33 : compile Go.Proofs.Try.prog 33 = some { m33 with own := false, esc := false } := by kernel_rfl
theorem ok34 : compile Go.Proofs.Try.prog 34 = some { m34 with own := false, esc := false } := by kernel_rfl
theorem ok35 : compile Go.Proofs.Try.prog 35 = some { m35 with own := false, esc := false } := by kernel_rfl
theorem ok36 : compile Go.Proofs.Try.prog 36 = some { m36 with own := false, esc := false } := by kernel_rfl
theorem ok37 : compile Go.Proofs.Try.prog 37 = some { m37 with own := false, esc := false } := by kernel_rfl
theorem ok38 : compile Go.Proofs.Try.prog 38 = some { m38 with own := false, esc := false } := by kernel_rfl
theorem ok39 : compile Go.Proofs.Try.prog 39 = some { m39 with own := false, esc := false } := by kernel_rfl
theorem ok40 : compile Go.Proofs.Try.prog 40 = some { m40 with own := false, esc := false } := by kernel_rfl
theorem ok41 : compile Go.Proofs.Try.prog 41 = some { m41 with own := false, esc := false } := by kernel_rfl
theorem ok42 : compile Go.Proofs.Try.prog 42 = some { m42 with own := false, esc := false } := by kernel_rfl
theorem ok43 : compile Go.Proofs.Try.prog 43 = some { m43 with own := false, esc := false } := by kernel_rfl
theorem ok44 : compile Go.Proofs.Try.prog 44 = some { m44 with own := false, esc := false } := by kernel_rfl
theorem ok45 : compile Go.Proofs.Try.prog 45 = some { m45 with own := false, esc := false } := by kernel_rfl
theorem ok53 : compile Go.Proofs.Try.prog 53 = some { m53 with own := false, esc := false } := by kernel_rfl
theorem ok54 : compile Go.Proofs.Try.prog 54 = some { m54 with own := false, esc := false } := by kernel_rfl
theorem ok55 : compile Go.Proofs.Try.prog 55 = some { m55 with own := false, esc := false } := by kernel_rfl
theorem ok56 : compile Go.Proofs.Try.prog 56 = some { m56 with own := false, esc := false } := by kernel_rfl
theorem ok57 : compile Go.Proofs.Try.prog 57 = some { m57 with own := false, esc := false } := by kernel_rfl
theorem ok58 : compile Go.Proofs.Try.prog 58 = some { m58 with own := false, esc := false } := by kernel_rfl
theorem ok59 : compile Go.Proofs.Try.prog 59 = some { m59 with own := false, esc := false } := by kernel_rfl
theorem ok68 : compile Go.Proofs.Try.prog 68 = some { m68 with own := false, esc := false } := by kernel_rfl
theorem ok69 : compile Go.Proofs.Try.prog 69 = some { m69 with own := false, esc := false } := by kernel_rfl
theorem ok80 : compile Go.Proofs.Try.prog 80 = some { m80 with own := false, esc := false } := by kernel_rfl
theorem ok81 : compile Go.Proofs.Try.prog 81 = some { m81 with own := false, esc := false } := by kernel_rfl
theorem tabOk : TabOk Go.Proofs.Try.prog tab := by
  intro f fd h
  unfold tab at h
  split at h
  · injection h with h; subst h; exact ⟨_, ok3, rfl, rfl⟩
  · injection h with h; subst h; exact ⟨_, ok4, rfl, rfl⟩
  · injection h with h; subst h; exact ⟨_, ok5, rfl, rfl⟩
  · injection h with h; subst h; exact ⟨_, ok9, rfl, rfl⟩
  · injection h with h; subst h; exact ⟨_, ok10, rfl, rfl⟩
  · injection h with h; subst h; exact ⟨_, ok11, rfl, rfl⟩
  · injection h with h; subst h; exact ⟨_, ok12, rfl, rfl⟩
  · injection h with h; subst h; exact ⟨_, ok13, rfl, rfl⟩
  · injection h with h; subst h; exact ⟨_, ok14, rfl, rfl⟩
  · injection h with h; subst h; exact ⟨_, ok15, rfl, rfl⟩
  · injection h with h; subst h; exact ⟨_, ok16, rfl, rfl⟩
  · injection h with h; subst h; exact ⟨_, ok17, rfl, rfl⟩
  · injection h with h; subst h; exact ⟨_, ok18, rfl, rfl⟩
  · injection h with h; subst h; exact ⟨_, ok19, rfl, rfl⟩
  · injection h with h; subst h; exact ⟨_, ok20, rfl, rfl⟩
  · injection h with h; subst h; exact ⟨_, ok21, rfl, rfl⟩
  · injection h with h; subst h; exact ⟨_, ok22, rfl, rfl⟩
  · injection h with h; subst h; exact ⟨_, ok32, rfl, rfl⟩
  · injection h with h; subst h; exact ⟨_, ok33, rfl, rfl⟩
  · injection h with h; subst h; exact ⟨_, ok34, rfl, rfl⟩
  · injection h with h; subst h; exact ⟨_, ok35, rfl, rfl⟩
  · injection h with h; subst h; exact ⟨_, ok36, rfl, rfl⟩
  · injection h with h; subst h; exact ⟨_, ok37, rfl, rfl⟩
  · injection h with h; subst h; exact ⟨_, ok38, rfl, rfl⟩
  · injection h with h; subst h; exact ⟨_, ok39, rfl, rfl⟩
  · injection h with h; subst h; exact ⟨_, ok40, rfl, rfl⟩
  · injection h with h; subst h; exact ⟨_, ok41, rfl, rfl⟩
  · injection h with h; subst h; exact ⟨_, ok42, rfl, rfl⟩
  · injection h with h; subst h; exact ⟨_, ok43, rfl, rfl⟩
  · injection h with h; subst h; exact ⟨_, ok44, rfl, rfl⟩
  · injection h with h; subst h; exact ⟨_, ok45, rfl, rfl⟩
  · injection h with h; subst h; exact ⟨_, ok53, rfl, rfl⟩
  · injection h with h; subst h; exact ⟨_, ok54, rfl, rfl⟩
  · injection h with h; subst h; exact ⟨_, ok55, rfl, rfl⟩
  · injection h with h; subst h; exact ⟨_, ok56, rfl, rfl⟩
  · injection h with h; subst h; exact ⟨_, ok57, rfl, rfl⟩
  · injection h with h; subst h; exact ⟨_, ok58, rfl, rfl⟩
  · injection h with h; subst h; exact ⟨_, ok59, rfl, rfl⟩
  · injection h with h; subst h; exact ⟨_, ok68, rfl, rfl⟩
  · injection h with h; subst h; exact ⟨_, ok69, rfl, rfl⟩
  · injection h with h; subst h; exact ⟨_, ok80, rfl, rfl⟩
  · injection h with h; subst h; exact ⟨_, ok81, rfl, rfl⟩
  · cases h
end Go.Mir.A
