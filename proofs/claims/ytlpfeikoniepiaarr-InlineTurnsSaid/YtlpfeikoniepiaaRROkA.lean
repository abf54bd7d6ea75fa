/- Each function of the program stands behind its mirror function. -/
import Derived.Test.YtlpfeikoniepiaaRRMirTabA
import Derived.Test.YtlpfeikoniepiaaRRMirRun
import Derived.Test.YtlpfeikoniepiaaRRProg
import Derived.KernelRfl
set_option linter.all false
--ALIAS Try
namespace Go.Mir.A
set_option maxRecDepth 100000
theorem ok3 : compile Go.Proofs.Try.prog 3 = some { m3 with own := false, esc := false } := by kernel_rfl
theorem ok7 : compile Go.Proofs.Try.prog 7 = some { m7 with own := false, esc := false } := by kernel_rfl
theorem ok8 : compile Go.Proofs.Try.prog 8 = some { m8 with own := false, esc := false } := by kernel_rfl
theorem ok9 : compile Go.Proofs.Try.prog 9 = some { m9 with own := false, esc := false } := by kernel_rfl
theorem ok10 : compile Go.Proofs.Try.prog 10 = some { m10 with own := false, esc := false } := by kernel_rfl
theorem ok11 : compile Go.Proofs.Try.prog 11 = some { m11 with own := false, esc := false } := by kernel_rfl
theorem ok12 : compile Go.Proofs.Try.prog 12 = some { m12 with own := false, esc := false } := by kernel_rfl
theorem ok13 : compile Go.Proofs.Try.prog 13 = some { m13 with own := false, esc := false } := by kernel_rfl
theorem ok14 : compile Go.Proofs.Try.prog 14 = some { m14 with own := false, esc := false } := by kernel_rfl
theorem ok15 : compile Go.Proofs.Try.prog 15 = some { m15 with own := false, esc := false } := by kernel_rfl
theorem ok16 : compile Go.Proofs.Try.prog 16 = some { m16 with own := false, esc := false } := by kernel_rfl
theorem ok17 : compile Go.Proofs.Try.prog 17 = some { m17 with own := false, esc := false } := by kernel_rfl
theorem ok18 : compile Go.Proofs.Try.prog 18 = some { m18 with own := false, esc := false } := by kernel_rfl
theorem ok19 : compile Go.Proofs.Try.prog 19 = some { m19 with own := false, esc := false } := by kernel_rfl
theorem ok20 : compile Go.Proofs.Try.prog 20 = some { m20 with own := false, esc := false } := by kernel_rfl
theorem ok21 : compile Go.Proofs.Try.prog 21 = some { m21 with own := false, esc := false } := by kernel_rfl
theorem ok22 : compile Go.Proofs.Try.prog 22 = some { m22 with own := false, esc := false } := by kernel_rfl
theorem ok23 : compile Go.Proofs.Try.prog 23 = some { m23 with own := false, esc := false } := by kernel_rfl
theorem ok24 : compile Go.Proofs.Try.prog 24 = some { m24 with own := false, esc := false } := by kernel_rfl
theorem ok25 : compile Go.Proofs.Try.prog 25 = some { m25 with own := false, esc := false } := by kernel_rfl
theorem ok26 : compile Go.Proofs.Try.prog 26 = some { m26 with own := false, esc := false } := by kernel_rfl
theorem ok27 : compile Go.Proofs.Try.prog 27 = some { m27 with own := false, esc := false } := by kernel_rfl
theorem ok28 : compile Go.Proofs.Try.prog 28 = some { m28 with own := false, esc := false } := by kernel_rfl
theorem ok29 : compile Go.Proofs.Try.prog 29 = some { m29 with own := false, esc := false } := by kernel_rfl
theorem ok30 : compile Go.Proofs.Try.prog 30 = some { m30 with own := false, esc := false } := by kernel_rfl
theorem ok31 : compile Go.Proofs.Try.prog 31 = some { m31 with own := false, esc := false } := by kernel_rfl
theorem ok32 : compile Go.Proofs.Try.prog 32 = some { m32 with own := false, esc := false } := by kernel_rfl
theorem ok33 : compile Go.Proofs.Try.prog 33 = some { m33 with own := false, esc := false } := by kernel_rfl
theorem ok34 : compile Go.Proofs.Try.prog 34 = some { m34 with own := false, esc := false } := by kernel_rfl
theorem ok35 : compile Go.Proofs.Try.prog 35 = some { m35 with own := false, esc := false } := by kernel_rfl
theorem ok36 : compile Go.Proofs.Try.prog 36 = some { m36 with own := false, esc := false } := by kernel_rfl
theorem ok37 : compile Go.Proofs.Try.prog 37 = some { m37 with own := false, esc := false } := by kernel_rfl
theorem ok38 : compile Go.Proofs.Try.prog 38 = some { m38 with own := false, esc := false } := by kernel_rfl
theorem ok39 : compile Go.Proofs.Try.prog 39 = some { m39 with own := false, esc := false } := by kernel_rfl
theorem ok40 : compile Go.Proofs.Try.prog 40 = some { m40 with own := false, esc := false } := by kernel_rfl
theorem ok41 : compile Go.Proofs.Try.prog 41 = some { m41 with own := false, esc := false } := by kernel_rfl
theorem ok42 : compile Go.Proofs.Try.prog 42 = some { m42 with own := false, esc := false } := by kernel_rfl
theorem ok43 : compile Go.Proofs.Try.prog 43 = some { m43 with own := false, esc := false } := by kernel_rfl
theorem ok44 : compile Go.Proofs.Try.prog 44 = some { m44 with own := false, esc := false } := by kernel_rfl
theorem ok45 : compile Go.Proofs.Try.prog 45 = some { m45 with own := false, esc := false } := by kernel_rfl
theorem ok46 : compile Go.Proofs.Try.prog 46 = some { m46 with own := false, esc := false } := by kernel_rfl
theorem ok47 : compile Go.Proofs.Try.prog 47 = some { m47 with own := false, esc := false } := by kernel_rfl
theorem ok48 : compile Go.Proofs.Try.prog 48 = some { m48 with own := false, esc := false } := by kernel_rfl
theorem ok49 : compile Go.Proofs.Try.prog 49 = some { m49 with own := false, esc := false } := by kernel_rfl
theorem ok50 : compile Go.Proofs.Try.prog 50 = some { m50 with own := false, esc := false } := by kernel_rfl
theorem ok51 : compile Go.Proofs.Try.prog 51 = some { m51 with own := false, esc := false } := by kernel_rfl
theorem ok52 : compile Go.Proofs.Try.prog 52 = some { m52 with own := false, esc := false } := by kernel_rfl
theorem ok53 : compile Go.Proofs.Try.prog 53 = some { m53 with own := false, esc := false } := by kernel_rfl
theorem ok54 : compile Go.Proofs.Try.prog 54 = some { m54 with own := false, esc := false } := by kernel_rfl
theorem ok55 : compile Go.Proofs.Try.prog 55 = some { m55 with own := false, esc := false } := by kernel_rfl
theorem ok56 : compile Go.Proofs.Try.prog 56 = some { m56 with own := false, esc := false } := by kernel_rfl
theorem ok57 : compile Go.Proofs.Try.prog 57 = some { m57 with own := false, esc := false } := by kernel_rfl
theorem ok58 : compile Go.Proofs.Try.prog 58 = some { m58 with own := false, esc := false } := by kernel_rfl
theorem ok59 : compile Go.Proofs.Try.prog 59 = some { m59 with own := false, esc := false } := by kernel_rfl
theorem ok60 : compile Go.Proofs.Try.prog 60 = some { m60 with own := false, esc := false } := by kernel_rfl
theorem ok61 : compile Go.Proofs.Try.prog 61 = some { m61 with own := false, esc := false } := by kernel_rfl
theorem ok62 : compile Go.Proofs.Try.prog 62 = some { m62 with own := false, esc := false } := by kernel_rfl
theorem ok63 : compile Go.Proofs.Try.prog 63 = some { m63 with own := false, esc := false } := by kernel_rfl
theorem ok64 : compile Go.Proofs.Try.prog 64 = some { m64 with own := false, esc := false } := by kernel_rfl
theorem ok65 : compile Go.Proofs.Try.prog 65 = some { m65 with own := false, esc := false } := by kernel_rfl
theorem ok66 : compile Go.Proofs.Try.prog 66 = some { m66 with own := false, esc := false } := by kernel_rfl
theorem ok67 : compile Go.Proofs.Try.prog 67 = some { m67 with own := false, esc := false } := by kernel_rfl
theorem ok68 : compile Go.Proofs.Try.prog 68 = some { m68 with own := false, esc := false } := by kernel_rfl
theorem ok69 : compile Go.Proofs.Try.prog 69 = some { m69 with own := false, esc := false } := by kernel_rfl
theorem ok70 : compile Go.Proofs.Try.prog 70 = some { m70 with own := false, esc := false } := by kernel_rfl
theorem ok71 : compile Go.Proofs.Try.prog 71 = some { m71 with own := false, esc := false } := by kernel_rfl
theorem ok72 : compile Go.Proofs.Try.prog 72 = some { m72 with own := false, esc := false } := by kernel_rfl
theorem ok73 : compile Go.Proofs.Try.prog 73 = some { m73 with own := false, esc := false } := by kernel_rfl
theorem ok74 : compile Go.Proofs.Try.prog 74 = some { m74 with own := false, esc := false } := by kernel_rfl
theorem ok75 : compile Go.Proofs.Try.prog 75 = some { m75 with own := false, esc := false } := by kernel_rfl
theorem ok76 : compile Go.Proofs.Try.prog 76 = some { m76 with own := false, esc := false } := by kernel_rfl
theorem ok77 : compile Go.Proofs.Try.prog 77 = some { m77 with own := false, esc := false } := by kernel_rfl
theorem ok78 : compile Go.Proofs.Try.prog 78 = some { m78 with own := false, esc := false } := by kernel_rfl
theorem ok79 : compile Go.Proofs.Try.prog 79 = some { m79 with own := false, esc := false } := by kernel_rfl
theorem ok80 : compile Go.Proofs.Try.prog 80 = some { m80 with own := false, esc := false } := by kernel_rfl
theorem ok81 : compile Go.Proofs.Try.prog 81 = some { m81 with own := false, esc := false } := by kernel_rfl
theorem ok82 : compile Go.Proofs.Try.prog 82 = some { m82 with own := false, esc := false } := by kernel_rfl
theorem ok83 : compile Go.Proofs.Try.prog 83 = some { m83 with own := false, esc := false } := by kernel_rfl
theorem ok84 : compile Go.Proofs.Try.prog 84 = some { m84 with own := false, esc := false } := by kernel_rfl
theorem ok85 : compile Go.Proofs.Try.prog 85 = some { m85 with own := false, esc := false } := by kernel_rfl
theorem ok86 : compile Go.Proofs.Try.prog 86 = some { m86 with own := false, esc := false } := by kernel_rfl
theorem ok87 : compile Go.Proofs.Try.prog 87 = some { m87 with own := false, esc := false } := by kernel_rfl
theorem ok88 : compile Go.Proofs.Try.prog 88 = some { m88 with own := false, esc := false } := by kernel_rfl
theorem ok89 : compile Go.Proofs.Try.prog 89 = some { m89 with own := false, esc := false } := by kernel_rfl
theorem ok90 : compile Go.Proofs.Try.prog 90 = some { m90 with own := false, esc := false } := by kernel_rfl
theorem tabOk : TabOk Go.Proofs.Try.prog tab := by
  intro f fd h
  unfold tab at h
  split at h
  · injection h with h; subst h; exact ⟨_, ok3, rfl, rfl⟩
  · injection h with h; subst h; exact ⟨_, ok7, rfl, rfl⟩
  · injection h with h; subst h; exact ⟨_, ok8, rfl, rfl⟩
  · injection h with h; subst h; exact ⟨_, ok9, rfl, rfl⟩
  · injection h with h; subst h; exact ⟨_, ok10, rfl, rfl⟩
  · injection h with h; subst h; exact ⟨_, ok11, rfl, rfl⟩
  · injection h with h; subst h; exact ⟨_, ok12, rfl, rfl⟩
  · injection h with h; subst h; exact ⟨_, ok13, rfl, rfl⟩
  · injection h with h; subst h; exact ⟨_, ok14, rfl, rfl⟩
  · injection h with h; subst h; exact ⟨_, ok15, rfl, rfl⟩
  · injection h with h; subst h; exact ⟨_, ok16, rfl, rfl⟩
  · injection h with h; subst h; exact ⟨_, ok17, rfl, rfl⟩
  · injection h with h; subst h; exact ⟨_, ok18, rfl, rfl⟩
  · injection h with h; subst h; exact ⟨_, ok19, rfl, rfl⟩
  · injection h with h; subst h; exact ⟨_, ok20, rfl, rfl⟩
  · injection h with h; subst h; exact ⟨_, ok21, rfl, rfl⟩
  · injection h with h; subst h; exact ⟨_, ok22, rfl, rfl⟩
  · injection h with h; subst h; exact ⟨_, ok23, rfl, rfl⟩
  · injection h with h; subst h; exact ⟨_, ok24, rfl, rfl⟩
  · injection h with h; subst h; exact ⟨_, ok25, rfl, rfl⟩
  · injection h with h; subst h; exact ⟨_, ok26, rfl, rfl⟩
  · injection h with h; subst h; exact ⟨_, ok27, rfl, rfl⟩
  · injection h with h; subst h; exact ⟨_, ok28, rfl, rfl⟩
  · injection h with h; subst h; exact ⟨_, ok29, rfl, rfl⟩
  · injection h with h; subst h; exact ⟨_, ok30, rfl, rfl⟩
  · injection h with h; subst h; exact ⟨_, ok31, rfl, rfl⟩
  · injection h with h; subst h; exact ⟨_, ok32, rfl, rfl⟩
  · injection h with h; subst h; exact ⟨_, ok33, rfl, rfl⟩
  · injection h with h; subst h; exact ⟨_, ok34, rfl, rfl⟩
  · injection h with h; subst h; exact ⟨_, ok35, rfl, rfl⟩
  · injection h with h; subst h; exact ⟨_, ok36, rfl, rfl⟩
  · injection h with h; subst h; exact ⟨_, ok37, rfl, rfl⟩
  · injection h with h; subst h; exact ⟨_, ok38, rfl, rfl⟩
  · injection h with h; subst h; exact ⟨_, ok39, rfl, rfl⟩
  · injection h with h; subst h; exact ⟨_, ok40, rfl, rfl⟩
  · injection h with h; subst h; exact ⟨_, ok41, rfl, rfl⟩
  · injection h with h; subst h; exact ⟨_, ok42, rfl, rfl⟩
  · injection h with h; subst h; exact ⟨_, ok43, rfl, rfl⟩
  · injection h with h; subst h; exact ⟨_, ok44, rfl, rfl⟩
  · injection h with h; subst h; exact ⟨_, ok45, rfl, rfl⟩
  · injection h with h; subst h; exact ⟨_, ok46, rfl, rfl⟩
  · injection h with h; subst h; exact ⟨_, ok47, rfl, rfl⟩
  · injection h with h; subst h; exact ⟨_, ok48, rfl, rfl⟩
  · injection h with h; subst h; exact ⟨_, ok49, rfl, rfl⟩
  · injection h with h; subst h; exact ⟨_, ok50, rfl, rfl⟩
  · injection h with h; subst h; exact ⟨_, ok51, rfl, rfl⟩
  · injection h with h; subst h; exact ⟨_, ok52, rfl, rfl⟩
  · injection h with h; subst h; exact ⟨_, ok53, rfl, rfl⟩
  · injection h with h; subst h; exact ⟨_, ok54, rfl, rfl⟩
  · injection h with h; subst h; exact ⟨_, ok55, rfl, rfl⟩
  · injection h with h; subst h; exact ⟨_, ok56, rfl, rfl⟩
  · injection h with h; subst h; exact ⟨_, ok57, rfl, rfl⟩
  · injection h with h; subst h; exact ⟨_, ok58, rfl, rfl⟩
  · injection h with h; subst h; exact ⟨_, ok59, rfl, rfl⟩
  · injection h with h; subst h; exact ⟨_, ok60, rfl, rfl⟩
  · injection h with h; subst h; exact ⟨_, ok61, rfl, rfl⟩
  · injection h with h; subst h; exact ⟨_, ok62, rfl, rfl⟩
  · injection h with h; subst h; exact ⟨_, ok63, rfl, rfl⟩
  · injection h with h; subst h; exact ⟨_, ok64, rfl, rfl⟩
  · injection h with h; subst h; exact ⟨_, ok65, rfl, rfl⟩
  · injection h with h; subst h; exact ⟨_, ok66, rfl, rfl⟩
  · injection h with h; subst h; exact ⟨_, ok67, rfl, rfl⟩
  · injection h with h; subst h; exact ⟨_, ok68, rfl, rfl⟩
  · injection h with h; subst h; exact ⟨_, ok69, rfl, rfl⟩
  · injection h with h; subst h; exact ⟨_, ok70, rfl, rfl⟩
  · injection h with h; subst h; exact ⟨_, ok71, rfl, rfl⟩
  · injection h with h; subst h; exact ⟨_, ok72, rfl, rfl⟩
  · injection h with h; subst h; exact ⟨_, ok73, rfl, rfl⟩
  · injection h with h; subst h; exact ⟨_, ok74, rfl, rfl⟩
  · injection h with h; subst h; exact ⟨_, ok75, rfl, rfl⟩
  · injection h with h; subst h; exact ⟨_, ok76, rfl, rfl⟩
  · injection h with h; subst h; exact ⟨_, ok77, rfl, rfl⟩
  · injection h with h; subst h; exact ⟨_, ok78, rfl, rfl⟩
  · injection h with h; subst h; exact ⟨_, ok79, rfl, rfl⟩
  · injection h with h; subst h; exact ⟨_, ok80, rfl, rfl⟩
  · injection h with h; subst h; exact ⟨_, ok81, rfl, rfl⟩
  · injection h with h; subst h; exact ⟨_, ok82, rfl, rfl⟩
  · injection h with h; subst h; exact ⟨_, ok83, rfl, rfl⟩
  · injection h with h; subst h; exact ⟨_, ok84, rfl, rfl⟩
  · injection h with h; subst h; exact ⟨_, ok85, rfl, rfl⟩
  · injection h with h; subst h; exact ⟨_, ok86, rfl, rfl⟩
  · injection h with h; subst h; exact ⟨_, ok87, rfl, rfl⟩
  · injection h with h; subst h; exact ⟨_, ok88, rfl, rfl⟩
  · injection h with h; subst h; exact ⟨_, ok89, rfl, rfl⟩
  · injection h with h; subst h; exact ⟨_, ok90, rfl, rfl⟩
  · cases h
end Go.Mir.A
