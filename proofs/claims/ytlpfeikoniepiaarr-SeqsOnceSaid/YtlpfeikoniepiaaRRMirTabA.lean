import Derived.Test.YtlpfeikoniepiaaRRMirTabAP0
namespace Go.Mir.A
set_option linter.all false
def q69_0_0 : List MOper := [⟨(some 1), .box 4 (.tmp 0), none⟩, ⟨(some 2), .mov false (.lit (.bool false)), none⟩]
def r69_0 : MCode := .region 0 q69_0_0 false [1]
theorem x69_0 (run : Run) (esc : Nat → Bool) (l : (Env → St → Out) → Env → St → Out) (base : Nat) (e : Env) (σ : St) : exec run esc l base r69_0 e σ = (stepOps run esc base q69_0_0 e σ).bind fun x => some (Ex.normal, Env.keep x.1 [1], gc base ((Env.keep x.1 [1]).map (·.2)) x.2) := by simp only [r69_0, exec, stepOps_app, Option.bind_assoc]
def q69_1_0 : List MOper := [⟨(some 6), .fieldAddr 0 (.tmp 1), none⟩, ⟨(some 7), .load false false 1 (.tmp 6), none⟩, ⟨(some 8), .fieldAddr 1 (.tmp 1), none⟩, ⟨(some 9), .load false false 1 (.tmp 8), none⟩, ⟨(some 10), .call (.lit (.fn 80 [])) [(.tmp 7), (.tmp 9)], none⟩, ⟨(some 11), .un .not (.tmp 10), none⟩]
def q69_1_1 : List MOper := [⟨(some 12), .mov false (.tmp 11), none⟩, ⟨(some 13), .fieldAddr 2 (.tmp 1), (some (12, false))⟩, ⟨(some 14), .load false false 1 (.tmp 13), (some (12, false))⟩, ⟨(some 15), .call (.lit (.fn 81 [])) [(.tmp 14), (.lit (.int .i64 0)), (.lit (.int .i64 1048576))], (some (12, false))⟩, ⟨(some 16), .un .not (.tmp 15), (some (12, false))⟩, ⟨(some 17), .pick (.tmp 12) (.lit (.bool true)) (.tmp 16), none⟩]
def q69_1_2 : List MOper := [⟨(some 18), .mov false (.tmp 17), none⟩, ⟨(some 19), .fieldAddr 3 (.tmp 1), (some (18, false))⟩, ⟨(some 20), .load false false 1 (.tmp 19), (some (18, false))⟩, ⟨(some 21), .len false (.tmp 20), (some (18, false))⟩, ⟨(some 22), .bin .gtr (.tmp 21) (.lit (.int .i64 3)), (some (18, false))⟩, ⟨(some 23), .pick (.tmp 18) (.lit (.bool true)) (.tmp 22), none⟩]
def r69_1 : MCode := .region 1 (q69_1_0 ++ (q69_1_1 ++ q69_1_2)) false [1, 23]
theorem x69_1 (run : Run) (esc : Nat → Bool) (l : (Env → St → Out) → Env → St → Out) (base : Nat) (e : Env) (σ : St) : exec run esc l base r69_1 e σ = (stepOps run esc base q69_1_0 e σ).bind fun x => (stepOps run esc base q69_1_1 x.1 x.2).bind fun x => (stepOps run esc base q69_1_2 x.1 x.2).bind fun x => some (Ex.normal, Env.keep x.1 [1, 23], gc base ((Env.keep x.1 [1, 23]).map (·.2)) x.2) := by simp only [r69_1, exec, stepOps_app, Option.bind_assoc]
def q69_2_0 : List MOper := [⟨(some 2), .mov false (.lit (.bool false)), none⟩]
def r69_2 : MCode := .region 2 q69_2_0 false [2]
theorem x69_2 (run : Run) (esc : Nat → Bool) (l : (Env → St → Out) → Env → St → Out) (base : Nat) (e : Env) (σ : St) : exec run esc l base r69_2 e σ = (stepOps run esc base q69_2_0 e σ).bind fun x => some (Ex.normal, Env.keep x.1 [2], gc base ((Env.keep x.1 [2]).map (·.2)) x.2) := by simp only [r69_2, exec, stepOps_app, Option.bind_assoc]
def q69_3_0 : List MOper := [⟨(some 3), .mov false (.lit (.int .i64 0)), none⟩]
def r69_3 : MCode := .region 3 q69_3_0 false [1, 3]
theorem x69_3 (run : Run) (esc : Nat → Bool) (l : (Env → St → Out) → Env → St → Out) (base : Nat) (e : Env) (σ : St) : exec run esc l base r69_3 e σ = (stepOps run esc base q69_3_0 e σ).bind fun x => some (Ex.normal, Env.keep x.1 [1, 3], gc base ((Env.keep x.1 [1, 3]).map (·.2)) x.2) := by simp only [r69_3, exec, stepOps_app, Option.bind_assoc]
def q69_4_0 : List MOper := [⟨(some 24), .mov false (.tmp 3), none⟩, ⟨(some 25), .fieldAddr 3 (.tmp 1), none⟩, ⟨(some 26), .load false false 1 (.tmp 25), none⟩, ⟨(some 27), .len false (.tmp 26), none⟩, ⟨(some 28), .bin .lss (.tmp 24) (.tmp 27), none⟩]
def r69_4 : MCode := .region 4 q69_4_0 false [1, 3, 28]
theorem x69_4 (run : Run) (esc : Nat → Bool) (l : (Env → St → Out) → Env → St → Out) (base : Nat) (e : Env) (σ : St) : exec run esc l base r69_4 e σ = (stepOps run esc base q69_4_0 e σ).bind fun x => some (Ex.normal, Env.keep x.1 [1, 3, 28], gc base ((Env.keep x.1 [1, 3, 28]).map (·.2)) x.2) := by simp only [r69_4, exec, stepOps_app, Option.bind_assoc]
def q69_6_0 : List MOper := [⟨(some 31), .fieldAddr 3 (.tmp 1), none⟩, ⟨(some 32), .load false false 1 (.tmp 31), none⟩, ⟨(some 33), .mov false (.tmp 3), none⟩, ⟨(some 34), .index 3 (.tmp 32) (.tmp 33), none⟩, ⟨(some 35), .load false true 3 (.tmp 34), none⟩, ⟨(some 4), .alloc [(.int .i64 0), (.int .i64 0), (.int .i64 0)], none⟩]
def q69_6_1 : List MOper := [⟨none, .store 3 (.tmp 4) (.tmp 35), none⟩]
def r69_6 : MCode := .region 6 (q69_6_0 ++ q69_6_1) false [1, 3, 4]
theorem x69_6 (run : Run) (esc : Nat → Bool) (l : (Env → St → Out) → Env → St → Out) (base : Nat) (e : Env) (σ : St) : exec run esc l base r69_6 e σ = (stepOps run esc base q69_6_0 e σ).bind fun x => (stepOps run esc base q69_6_1 x.1 x.2).bind fun x => some (Ex.normal, Env.keep x.1 [1, 3, 4], gc base ((Env.keep x.1 [1, 3, 4]).map (·.2)) x.2) := by simp only [r69_6, exec, stepOps_app, Option.bind_assoc]
def q69_7_0 : List MOper := [⟨(some 36), .fieldAddr 2 (.tmp 1), none⟩, ⟨(some 37), .load false false 1 (.tmp 36), none⟩, ⟨(some 5), .mov false (.tmp 37), none⟩]
def r69_7 : MCode := .region 7 q69_7_0 false [1, 3, 4, 5]
theorem x69_7 (run : Run) (esc : Nat → Bool) (l : (Env → St → Out) → Env → St → Out) (base : Nat) (e : Env) (σ : St) : exec run esc l base r69_7 e σ = (stepOps run esc base q69_7_0 e σ).bind fun x => some (Ex.normal, Env.keep x.1 [1, 3, 4, 5], gc base ((Env.keep x.1 [1, 3, 4, 5]).map (·.2)) x.2) := by simp only [r69_7, exec, stepOps_app, Option.bind_assoc]
def q69_8_0 : List MOper := [⟨(some 38), .mov false (.tmp 3), none⟩, ⟨(some 39), .bin .add (.tmp 38) (.lit (.int .i64 1)), none⟩, ⟨(some 40), .fieldAddr 3 (.tmp 1), none⟩, ⟨(some 41), .load false false 1 (.tmp 40), none⟩, ⟨(some 42), .len false (.tmp 41), none⟩, ⟨(some 43), .bin .lss (.tmp 39) (.tmp 42), none⟩]
def r69_8 : MCode := .region 8 q69_8_0 false [1, 3, 4, 5, 43]
theorem x69_8 (run : Run) (esc : Nat → Bool) (l : (Env → St → Out) → Env → St → Out) (base : Nat) (e : Env) (σ : St) : exec run esc l base r69_8 e σ = (stepOps run esc base q69_8_0 e σ).bind fun x => some (Ex.normal, Env.keep x.1 [1, 3, 4, 5, 43], gc base ((Env.keep x.1 [1, 3, 4, 5, 43]).map (·.2)) x.2) := by simp only [r69_8, exec, stepOps_app, Option.bind_assoc]
def q69_9_0 : List MOper := [⟨(some 44), .fieldAddr 3 (.tmp 1), none⟩, ⟨(some 45), .load false false 1 (.tmp 44), none⟩, ⟨(some 46), .mov false (.tmp 3), none⟩, ⟨(some 47), .bin .add (.tmp 46) (.lit (.int .i64 1)), none⟩, ⟨(some 48), .index 3 (.tmp 45) (.tmp 47), none⟩, ⟨(some 49), .fieldAddr 0 (.tmp 48), none⟩]
def q69_9_1 : List MOper := [⟨(some 50), .load false false 1 (.tmp 49), none⟩, ⟨(some 5), .mov false (.tmp 50), none⟩]
def r69_9 : MCode := .region 9 (q69_9_0 ++ q69_9_1) false [1, 3, 4, 5]
theorem x69_9 (run : Run) (esc : Nat → Bool) (l : (Env → St → Out) → Env → St → Out) (base : Nat) (e : Env) (σ : St) : exec run esc l base r69_9 e σ = (stepOps run esc base q69_9_0 e σ).bind fun x => (stepOps run esc base q69_9_1 x.1 x.2).bind fun x => some (Ex.normal, Env.keep x.1 [1, 3, 4, 5], gc base ((Env.keep x.1 [1, 3, 4, 5]).map (·.2)) x.2) := by simp only [r69_9, exec, stepOps_app, Option.bind_assoc]
def q69_10_0 : List MOper := [⟨(some 51), .fieldAddr 0 (.tmp 4), none⟩, ⟨(some 52), .load false false 1 (.tmp 51), none⟩, ⟨(some 53), .bin .lss (.tmp 52) (.lit (.int .i64 0)), none⟩, ⟨(some 54), .mov false (.tmp 53), none⟩, ⟨(some 55), .fieldAddr 1 (.tmp 4), (some (54, false))⟩, ⟨(some 56), .load false false 1 (.tmp 55), (some (54, false))⟩]
def q69_10_1 : List MOper := [⟨(some 57), .call (.lit (.fn 81 [])) [(.tmp 56), (.lit (.int .i64 1)), (.lit (.int .i64 4))], (some (54, false))⟩, ⟨(some 58), .un .not (.tmp 57), (some (54, false))⟩, ⟨(some 59), .pick (.tmp 54) (.lit (.bool true)) (.tmp 58), none⟩, ⟨(some 60), .mov false (.tmp 59), none⟩, ⟨(some 61), .fieldAddr 2 (.tmp 4), (some (60, false))⟩, ⟨(some 62), .load false false 1 (.tmp 61), (some (60, false))⟩]
def q69_10_2 : List MOper := [⟨(some 63), .call (.lit (.fn 81 [])) [(.tmp 62), (.lit (.int .i64 (-1))), (.lit (.int .i64 1048576))], (some (60, false))⟩, ⟨(some 64), .un .not (.tmp 63), (some (60, false))⟩, ⟨(some 65), .pick (.tmp 60) (.lit (.bool true)) (.tmp 64), none⟩, ⟨(some 66), .mov false (.tmp 65), none⟩, ⟨(some 67), .fieldAddr 0 (.tmp 4), (some (66, false))⟩, ⟨(some 68), .load false false 1 (.tmp 67), (some (66, false))⟩]
def q69_10_3 : List MOper := [⟨(some 69), .mov false (.tmp 5), (some (66, false))⟩, ⟨(some 70), .fieldAddr 1 (.tmp 4), (some (66, false))⟩, ⟨(some 71), .load false false 1 (.tmp 70), (some (66, false))⟩, ⟨(some 72), .bin .sub (.tmp 69) (.tmp 71), (some (66, false))⟩, ⟨(some 73), .bin .gtr (.tmp 68) (.tmp 72), (some (66, false))⟩, ⟨(some 74), .pick (.tmp 66) (.lit (.bool true)) (.tmp 73), none⟩]
def r69_10 : MCode := .region 10 (q69_10_0 ++ (q69_10_1 ++ (q69_10_2 ++ q69_10_3))) false [1, 3, 74]
theorem x69_10 (run : Run) (esc : Nat → Bool) (l : (Env → St → Out) → Env → St → Out) (base : Nat) (e : Env) (σ : St) : exec run esc l base r69_10 e σ = (stepOps run esc base q69_10_0 e σ).bind fun x => (stepOps run esc base q69_10_1 x.1 x.2).bind fun x => (stepOps run esc base q69_10_2 x.1 x.2).bind fun x => (stepOps run esc base q69_10_3 x.1 x.2).bind fun x => some (Ex.normal, Env.keep x.1 [1, 3, 74], gc base ((Env.keep x.1 [1, 3, 74]).map (·.2)) x.2) := by simp only [r69_10, exec, stepOps_app, Option.bind_assoc]
def q69_11_0 : List MOper := [⟨(some 2), .mov false (.lit (.bool false)), none⟩]
def r69_11 : MCode := .region 11 q69_11_0 false [2]
theorem x69_11 (run : Run) (esc : Nat → Bool) (l : (Env → St → Out) → Env → St → Out) (base : Nat) (e : Env) (σ : St) : exec run esc l base r69_11 e σ = (stepOps run esc base q69_11_0 e σ).bind fun x => some (Ex.normal, Env.keep x.1 [2], gc base ((Env.keep x.1 [2]).map (·.2)) x.2) := by simp only [r69_11, exec, stepOps_app, Option.bind_assoc]
def q69_5_0 : List MOper := [⟨(some 29), .mov false (.tmp 3), none⟩, ⟨(some 30), .bin .add (.tmp 29) (.lit (.int .i64 1)), none⟩, ⟨(some 3), .mov false (.tmp 30), none⟩]
def r69_5 : MCode := .region 5 q69_5_0 false [1, 3]
theorem x69_5 (run : Run) (esc : Nat → Bool) (l : (Env → St → Out) → Env → St → Out) (base : Nat) (e : Env) (σ : St) : exec run esc l base r69_5 e σ = (stepOps run esc base q69_5_0 e σ).bind fun x => some (Ex.normal, Env.keep x.1 [1, 3], gc base ((Env.keep x.1 [1, 3]).map (·.2)) x.2) := by simp only [r69_5, exec, stepOps_app, Option.bind_assoc]
def l69_0 : MCode := (.seq (.seq r69_4 (.cond (.tmp 28) .skip (.exit 0))) (.seq (.block 1 (.seq r69_6 (.seq r69_7 (.seq (.seq r69_8 (.cond (.tmp 43) r69_9 .skip)) (.seq r69_10 (.cond (.tmp 74) (.seq r69_11 .ret) .skip)))))) r69_5))
def q69_12_0 : List MOper := [⟨(some 2), .mov false (.lit (.bool true)), none⟩]
def r69_12 : MCode := .region 12 q69_12_0 false [2]
theorem x69_12 (run : Run) (esc : Nat → Bool) (l : (Env → St → Out) → Env → St → Out) (base : Nat) (e : Env) (σ : St) : exec run esc l base r69_12 e σ = (stepOps run esc base q69_12_0 e σ).bind fun x => some (Ex.normal, Env.keep x.1 [2], gc base ((Env.keep x.1 [2]).map (·.2)) x.2) := by simp only [r69_12, exec, stepOps_app, Option.bind_assoc]
def m69 : MFunc := ⟨(.seq r69_0 (.seq (.seq r69_1 (.cond (.tmp 23) (.seq r69_2 .ret) .skip)) (.seq (.seq r69_3 (.block 0 (.loop l69_0))) (.seq r69_12 .ret)))), [.tmp 2], false, false⟩
def q80_0_0 : List MOper := [⟨(some 4), .mov false (.lit (.bool false)), none⟩]
def r80_0 : MCode := .region 0 q80_0_0 false [0, 1]
theorem x80_0 (run : Run) (esc : Nat → Bool) (l : (Env → St → Out) → Env → St → Out) (base : Nat) (e : Env) (σ : St) : exec run esc l base r80_0 e σ = (stepOps run esc base q80_0_0 e σ).bind fun x => some (Ex.normal, Env.keep x.1 [0, 1], gc base ((Env.keep x.1 [0, 1]).map (·.2)) x.2) := by simp only [r80_0, exec, stepOps_app, Option.bind_assoc]
def q80_1_0 : List MOper := [⟨(some 5), .mov false (.tmp 0), none⟩, ⟨(some 6), .bin .geq (.tmp 5) (.lit (.int .i64 1)), none⟩, ⟨(some 7), .mov false (.tmp 6), none⟩, ⟨(some 8), .mov false (.tmp 0), (some (7, true))⟩, ⟨(some 9), .bin .leq (.tmp 8) (.lit (.int .i64 8)), (some (7, true))⟩, ⟨(some 10), .pick (.tmp 7) (.tmp 9) (.lit (.bool false)), none⟩]
def q80_1_1 : List MOper := [⟨(some 11), .mov false (.tmp 10), none⟩, ⟨(some 12), .mov false (.tmp 1), (some (11, true))⟩, ⟨(some 13), .bin .geq (.tmp 12) (.lit (.int .i64 0)), (some (11, true))⟩, ⟨(some 14), .pick (.tmp 11) (.tmp 13) (.lit (.bool false)), none⟩, ⟨(some 15), .mov false (.tmp 14), none⟩, ⟨(some 16), .mov false (.tmp 1), (some (15, true))⟩]
def q80_1_2 : List MOper := [⟨(some 17), .bin .leq (.tmp 16) (.lit (.int .i64 100)), (some (15, true))⟩, ⟨(some 18), .pick (.tmp 15) (.tmp 17) (.lit (.bool false)), none⟩, ⟨(some 4), .mov false (.tmp 18), none⟩]
def r80_1 : MCode := .region 1 (q80_1_0 ++ (q80_1_1 ++ q80_1_2)) false [4]
theorem x80_1 (run : Run) (esc : Nat → Bool) (l : (Env → St → Out) → Env → St → Out) (base : Nat) (e : Env) (σ : St) : exec run esc l base r80_1 e σ = (stepOps run esc base q80_1_0 e σ).bind fun x => (stepOps run esc base q80_1_1 x.1 x.2).bind fun x => (stepOps run esc base q80_1_2 x.1 x.2).bind fun x => some (Ex.normal, Env.keep x.1 [4], gc base ((Env.keep x.1 [4]).map (·.2)) x.2) := by simp only [r80_1, exec, stepOps_app, Option.bind_assoc]
def m80 : MFunc := ⟨(.seq r80_0 (.seq r80_1 .ret)), [.tmp 4], false, false⟩
def q81_0_0 : List MOper := [⟨(some 6), .mov false (.lit (.bool false)), none⟩]
def r81_0 : MCode := .region 0 q81_0_0 false [0, 1, 2]
theorem x81_0 (run : Run) (esc : Nat → Bool) (l : (Env → St → Out) → Env → St → Out) (base : Nat) (e : Env) (σ : St) : exec run esc l base r81_0 e σ = (stepOps run esc base q81_0_0 e σ).bind fun x => some (Ex.normal, Env.keep x.1 [0, 1, 2], gc base ((Env.keep x.1 [0, 1, 2]).map (·.2)) x.2) := by simp only [r81_0, exec, stepOps_app, Option.bind_assoc]
def q81_1_0 : List MOper := [⟨(some 7), .mov false (.tmp 0), none⟩, ⟨(some 8), .mov false (.tmp 1), none⟩, ⟨(some 9), .bin .geq (.tmp 7) (.tmp 8), none⟩, ⟨(some 10), .mov false (.tmp 9), none⟩, ⟨(some 11), .mov false (.tmp 0), (some (10, true))⟩, ⟨(some 12), .mov false (.tmp 2), (some (10, true))⟩]
def q81_1_1 : List MOper := [⟨(some 13), .bin .leq (.tmp 11) (.tmp 12), (some (10, true))⟩, ⟨(some 14), .pick (.tmp 10) (.tmp 13) (.lit (.bool false)), none⟩, ⟨(some 6), .mov false (.tmp 14), none⟩]
def r81_1 : MCode := .region 1 (q81_1_0 ++ q81_1_1) false [6]
theorem x81_1 (run : Run) (esc : Nat → Bool) (l : (Env → St → Out) → Env → St → Out) (base : Nat) (e : Env) (σ : St) : exec run esc l base r81_1 e σ = (stepOps run esc base q81_1_0 e σ).bind fun x => (stepOps run esc base q81_1_1 x.1 x.2).bind fun x => some (Ex.normal, Env.keep x.1 [6], gc base ((Env.keep x.1 [6]).map (·.2)) x.2) := by simp only [r81_1, exec, stepOps_app, Option.bind_assoc]
def m81 : MFunc := ⟨(.seq r81_0 (.seq r81_1 .ret)), [.tmp 6], false, false⟩
def tab : Tab := fun f => match f with
  | 3 => some m3
  | 4 => some m4
  | 5 => some m5
  | 9 => some m9
  | 10 => some m10
  | 11 => some m11
  | 12 => some m12
  | 13 => some m13
  | 14 => some m14
  | 15 => some m15
  | 16 => some m16
  | 17 => some m17
  | 18 => some m18
  | 19 => some m19
  | 20 => some m20
  | 21 => some m21
  | 22 => some m22
  | 32 => some m32
  | 33 => some m33
  | 34 => some m34
  | 35 => some m35
  | 36 => some m36
  | 37 => some m37
  | 38 => some m38
  | 39 => some m39
  | 40 => some m40
  | 41 => some m41
  | 42 => some m42
  | 43 => some m43
  | 44 => some m44
  | 45 => some m45
  | 53 => some m53
  | 54 => some m54
  | 55 => some m55
  | 56 => some m56
  | 57 => some m57
  | 58 => some m58
  | 59 => some m59
  | 68 => some m68
  | 69 => some m69
  | 80 => some m80
  | 81 => some m81
  | _ => none
theorem tab_3 : tab 3 = some m3 := rfl
theorem esc_3 : tab.esc 3 = false := rfl
theorem tab_4 : tab 4 = some m4 := rfl
theorem esc_4 : tab.esc 4 = false := rfl
theorem tab_5 : tab 5 = some m5 := rfl
theorem esc_5 : tab.esc 5 = false := rfl
theorem tab_9 : tab 9 = some m9 := rfl
theorem esc_9 : tab.esc 9 = false := rfl
theorem tab_10 : tab 10 = some m10 := rfl
theorem esc_10 : tab.esc 10 = false := rfl
theorem tab_11 : tab 11 = some m11 := rfl
theorem esc_11 : tab.esc 11 = false := rfl
theorem tab_12 : tab 12 = some m12 := rfl
theorem esc_12 : tab.esc 12 = false := rfl
theorem tab_13 : tab 13 = some m13 := rfl
theorem esc_13 : tab.esc 13 = false := rfl
theorem tab_14 : tab 14 = some m14 := rfl
theorem esc_14 : tab.esc 14 = false := rfl
theorem tab_15 : tab 15 = some m15 := rfl
theorem esc_15 : tab.esc 15 = false := rfl
theorem tab_16 : tab 16 = some m16 := rfl
theorem esc_16 : tab.esc 16 = false := rfl
theorem tab_17 : tab 17 = some m17 := rfl
theorem esc_17 : tab.esc 17 = false := rfl
theorem tab_18 : tab 18 = some m18 := rfl
theorem esc_18 : tab.esc 18 = false := rfl
theorem tab_19 : tab 19 = some m19 := rfl
theorem esc_19 : tab.esc 19 = false := rfl
theorem tab_20 : tab 20 = some m20 := rfl
theorem esc_20 : tab.esc 20 = false := rfl
theorem tab_21 : tab 21 = some m21 := rfl
theorem esc_21 : tab.esc 21 = false := rfl
theorem tab_22 : tab 22 = some m22 := rfl
theorem esc_22 : tab.esc 22 = false := rfl
theorem tab_32 : tab 32 = some m32 := rfl
theorem esc_32 : tab.esc 32 = false := rfl
theorem tab_33 : tab 33 = some m33 := rfl
theorem esc_33 : tab.esc 33 = false := rfl
theorem tab_34 : tab 34 = some m34 := rfl
theorem esc_34 : tab.esc 34 = false := rfl
theorem tab_35 : tab 35 = some m35 := rfl
theorem esc_35 : tab.esc 35 = false := rfl
theorem tab_36 : tab 36 = some m36 := rfl
theorem esc_36 : tab.esc 36 = false := rfl
theorem tab_37 : tab 37 = some m37 := rfl
theorem esc_37 : tab.esc 37 = false := rfl
theorem tab_38 : tab 38 = some m38 := rfl
theorem esc_38 : tab.esc 38 = false := rfl
theorem tab_39 : tab 39 = some m39 := rfl
theorem esc_39 : tab.esc 39 = false := rfl
theorem tab_40 : tab 40 = some m40 := rfl
theorem esc_40 : tab.esc 40 = false := rfl
theorem tab_41 : tab 41 = some m41 := rfl
theorem esc_41 : tab.esc 41 = false := rfl
theorem tab_42 : tab 42 = some m42 := rfl
theorem esc_42 : tab.esc 42 = false := rfl
theorem tab_43 : tab 43 = some m43 := rfl
theorem esc_43 : tab.esc 43 = false := rfl
theorem tab_44 : tab 44 = some m44 := rfl
theorem esc_44 : tab.esc 44 = false := rfl
theorem tab_45 : tab 45 = some m45 := rfl
theorem esc_45 : tab.esc 45 = false := rfl
theorem tab_53 : tab 53 = some m53 := rfl
theorem esc_53 : tab.esc 53 = false := rfl
theorem tab_54 : tab 54 = some m54 := rfl
theorem esc_54 : tab.esc 54 = false := rfl
theorem tab_55 : tab 55 = some m55 := rfl
theorem esc_55 : tab.esc 55 = false := rfl
theorem tab_56 : tab 56 = some m56 := rfl
theorem esc_56 : tab.esc 56 = false := rfl
theorem tab_57 : tab 57 = some m57 := rfl
theorem esc_57 : tab.esc 57 = false := rfl
theorem tab_58 : tab 58 = some m58 := rfl
theorem esc_58 : tab.esc 58 = false := rfl
theorem tab_59 : tab 59 = some m59 := rfl
theorem esc_59 : tab.esc 59 = false := rfl
theorem tab_68 : tab 68 = some m68 := rfl
theorem esc_68 : tab.esc 68 = false := rfl
theorem tab_69 : tab 69 = some m69 := rfl
theorem esc_69 : tab.esc 69 = false := rfl
theorem tab_80 : tab 80 = some m80 := rfl
theorem esc_80 : tab.esc 80 = false := rfl
theorem tab_81 : tab 81 = some m81 := rfl
theorem esc_81 : tab.esc 81 = false := rfl
end Go.Mir.A
