/- Each function of the program stands behind its mirror function. -/
import Derived.Test.YtlpfeikoniepiaaRRDoorMidTabD
import Derived.Test.YtlpfeikoniepiaaRRDoorMidRun
import Derived.Test.YtlpfeikoniepiaaRRDoorProg
import Derived.KernelRfl
set_option linter.all false
--ALIAS Tryd
namespace Go.Mir.D
set_option maxRecDepth 100000
theorem ok3 : compile Go.Proofs.Tryd.prog 3 = some { m3 with own := false, esc := false } := by kernel_rfl
theorem ok5 : compile Go.Proofs.Tryd.prog 5 = some { m5 with own := false, esc := false } := by kernel_rfl
theorem ok6 : compile Go.Proofs.Tryd.prog 6 = some { m6 with own := false, esc := false } := by kernel_rfl
theorem ok12 : compile Go.Proofs.Tryd.prog 12 = some { m12 with own := false, esc := false } := by kernel_rfl
theorem ok13 : compile Go.Proofs.Tryd.prog 13 = some { m13 with own := false, esc := false } := by kernel_rfl
theorem ok14 : compile Go.Proofs.Tryd.prog 14 = some { m14 with own := false, esc := false } := by kernel_rfl
theorem ok15 : compile Go.Proofs.Tryd.prog 15 = some { m15 with own := false, esc := false } := by kernel_rfl
theorem ok16 : compile Go.Proofs.Tryd.prog 16 = some { m16 with own := false, esc := false } := by kernel_rfl
theorem ok17 : compile Go.Proofs.Tryd.prog 17 = some { m17 with own := false, esc := false } := by kernel_rfl
theorem ok18 : compile Go.Proofs.Tryd.prog 18 = some { m18 with own := false, esc := false } := by kernel_rfl
theorem ok19 : compile Go.Proofs.Tryd.prog 19 = some { m19 with own := false, esc := false } := by kernel_rfl
theorem ok21 : compile Go.Proofs.Tryd.prog 21 = some { m21 with own := false, esc := false } := by kernel_rfl
theorem ok23 : compile Go.Proofs.Tryd.prog 23 = some { m23 with own := false, esc := false } := by kernel_rfl
theorem ok24 : compile Go.Proofs.Tryd.prog 24 = some { m24 with own := false, esc := false } := by kernel_rfl
theorem ok25 : compile Go.Proofs.Tryd.prog 25 = some { m25 with own := false, esc := false } := by kernel_rfl
theorem ok26 : compile Go.Proofs.Tryd.prog 26 = some { m26 with own := false, esc := false } := by kernel_rfl
theorem ok40 : compile Go.Proofs.Tryd.prog 40 = some { m40 with own := false, esc := false } := by kernel_rfl
theorem ok41 : compile Go.Proofs.Tryd.prog 41 = some { m41 with own := false, esc := false } := by kernel_rfl
theorem ok42 : compile Go.Proofs.Tryd.prog 42 = some { m42 with own := false, esc := false } := by kernel_rfl
theorem ok43 : compile Go.Proofs.Tryd.prog 43 = some { m43 with own := false, esc := false } := by kernel_rfl
theorem ok44 : compile Go.Proofs.Tryd.prog 44 = some { m44 with own := false, esc := false } := by kernel_rfl
theorem ok45 : compile Go.Proofs.Tryd.prog 45 = some { m45 with own := false, esc := false } := by kernel_rfl
theorem ok46 : compile Go.Proofs.Tryd.prog 46 = some { m46 with own := false, esc := false } := by kernel_rfl
theorem ok47 : compile Go.Proofs.Tryd.prog 47 = some { m47 with own := false, esc := false } := by kernel_rfl
theorem ok48 : compile Go.Proofs.Tryd.prog 48 = some { m48 with own := false, esc := false } := by kernel_rfl
theorem ok61 : compile Go.Proofs.Tryd.prog 61 = some { m61 with own := false, esc := false } := by kernel_rfl
theorem ok62 : compile Go.Proofs.Tryd.prog 62 = some { m62 with own := false, esc := false } := by kernel_rfl
theorem ok63 : compile Go.Proofs.Tryd.prog 63 = some { m63 with own := false, esc := false } := by kernel_rfl
theorem ok64 : compile Go.Proofs.Tryd.prog 64 = some { m64 with own := false, esc := false } := by kernel_rfl
theorem ok65 : compile Go.Proofs.Tryd.prog 65 = some { m65 with own := false, esc := false } := by kernel_rfl
theorem ok66 : compile Go.Proofs.Tryd.prog 66 = some { m66 with own := false, esc := false } := by kernel_rfl
theorem ok67 : compile Go.Proofs.Tryd.prog 67 = some { m67 with own := false, esc := false } := by kernel_rfl
theorem ok68 : compile Go.Proofs.Tryd.prog 68 = some { m68 with own := false, esc := false } := by kernel_rfl
theorem ok78 : compile Go.Proofs.Tryd.prog 78 = some { m78 with own := false, esc := false } := by kernel_rfl
theorem ok79 : compile Go.Proofs.Tryd.prog 79 = some { m79 with own := false, esc := false } := by kernel_rfl
theorem ok80 : compile Go.Proofs.Tryd.prog 80 = some { m80 with own := false, esc := false } := by kernel_rfl
theorem ok81 : compile Go.Proofs.Tryd.prog 81 = some { m81 with own := false, esc := false } := by kernel_rfl
theorem ok82 : compile Go.Proofs.Tryd.prog 82 = some { m82 with own := false, esc := false } := by kernel_rfl
theorem ok95 : compile Go.Proofs.Tryd.prog 95 = some { m95 with own := false, esc := false } := by kernel_rfl
theorem tabOk : TabOk Go.Proofs.Tryd.prog tab := by
  intro f fd h
  unfold tab at h
  split at h
  · injection h with h; subst h; exact ⟨_, ok3, rfl, rfl⟩
  · injection h with h; subst h; exact ⟨_, ok5, rfl, rfl⟩
  · injection h with h; subst h; exact ⟨_, ok6, rfl, rfl⟩
  · injection h with h; subst h; exact ⟨_, ok12, rfl, rfl⟩
  · injection h with h; subst h; exact ⟨_, ok13, rfl, rfl⟩
  · injection h with h; subst h; exact ⟨_, ok14, rfl, rfl⟩
  · injection h with h; subst h; exact ⟨_, ok15, rfl, rfl⟩
  · injection h with h; subst h; exact ⟨_, ok16, rfl, rfl⟩
  · injection h with h; subst h; exact ⟨_, ok17, rfl, rfl⟩
  · injection h with h; subst h; exact ⟨_, ok18, rfl, rfl⟩
  · injection h with h; subst h; exact ⟨_, ok19, rfl, rfl⟩
  · injection h with h; subst h; exact ⟨_, ok21, rfl, rfl⟩
  · injection h with h; subst h; exact ⟨_, ok23, rfl, rfl⟩
  · injection h with h; subst h; exact ⟨_, ok24, rfl, rfl⟩
  · injection h with h; subst h; exact ⟨_, ok25, rfl, rfl⟩
  · injection h with h; subst h; exact ⟨_, ok26, rfl, rfl⟩
  · injection h with h; subst h; exact ⟨_, ok40, rfl, rfl⟩
  · injection h with h; subst h; exact ⟨_, ok41, rfl, rfl⟩
  · injection h with h; subst h; exact ⟨_, ok42, rfl, rfl⟩
  · injection h with h; subst h; exact ⟨_, ok43, rfl, rfl⟩
  · injection h with h; subst h; exact ⟨_, ok44, rfl, rfl⟩
  · injection h with h; subst h; exact ⟨_, ok45, rfl, rfl⟩
  · injection h with h; subst h; exact ⟨_, ok46, rfl, rfl⟩
  · injection h with h; subst h; exact ⟨_, ok47, rfl, rfl⟩
  · injection h with h; subst h; exact ⟨_, ok48, rfl, rfl⟩
  · injection h with h; subst h; exact ⟨_, ok61, rfl, rfl⟩
  · injection h with h; subst h; exact ⟨_, ok62, rfl, rfl⟩
  · injection h with h; subst h; exact ⟨_, ok63, rfl, rfl⟩
  · injection h with h; subst h; exact ⟨_, ok64, rfl, rfl⟩
  · injection h with h; subst h; exact ⟨_, ok65, rfl, rfl⟩
  · injection h with h; subst h; exact ⟨_, ok66, rfl, rfl⟩
  · injection h with h; subst h; exact ⟨_, ok67, rfl, rfl⟩
  · injection h with h; subst h; exact ⟨_, ok68, rfl, rfl⟩
  · injection h with h; subst h; exact ⟨_, ok78, rfl, rfl⟩
  · injection h with h; subst h; exact ⟨_, ok79, rfl, rfl⟩
  · injection h with h; subst h; exact ⟨_, ok80, rfl, rfl⟩
  · injection h with h; subst h; exact ⟨_, ok81, rfl, rfl⟩
  · injection h with h; subst h; exact ⟨_, ok82, rfl, rfl⟩
  · injection h with h; subst h; exact ⟨_, ok95, rfl, rfl⟩
  · cases h
end Go.Mir.D
