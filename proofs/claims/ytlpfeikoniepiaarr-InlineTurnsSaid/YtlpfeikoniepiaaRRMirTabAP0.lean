import Derived.Test.YtlpfeikoniepiaaRRMirDef
namespace Go.Mir.A
set_option linter.all false
variable {run : Run} {esc : Nat → Bool} {l : (Env → St → Out) → Env → St → Out} {base : Nat} {e : Env} {σ : St}
def q3_0_0 : List MOper := [⟨some 4,.box 5 (.tmp 1),none⟩, ⟨some 6,.mov false (.lit (.bool false)),none⟩]
def r3_0 : MCode := .region 0 q3_0_0 false [0, 2, 4]
theorem x3_0 : exec run esc l base r3_0 e σ = (stepOps run esc base q3_0_0 e σ).bind (Zk [0, 2, 4] base) := rfl
def q3_1_0 : List MOper := [⟨some 14,.mov false (.tmp 0),none⟩, ⟨some 15,.call (.lit (.fn 9 [])) [(.tmp 14)],none⟩, ⟨some 16,.mov false (.tmp 15),none⟩, ⟨some 17,.load false true 5 (.tmp 4),some (16, false)⟩, ⟨some 18,.call (.lit (.fn 10 [])) [(.tmp 17)],some (16, false)⟩, ⟨some 19,.pick (.tmp 16) (.lit (.bool true)) (.tmp 18),none⟩]
def r3_1 : MCode := .region 1 q3_1_0 false [0, 2, 4, 19]
theorem x3_1 : exec run esc l base r3_1 e σ = (stepOps run esc base q3_1_0 e σ).bind (Zk [0, 2, 4, 19] base) := rfl
def q3_2_0 : List MOper := [⟨some 20,.call (.lit (.fn 11 [])) [],none⟩, ⟨some 6,.mov false (.tmp 20),none⟩]
def r3_2 : MCode := .region 2 q3_2_0 false [6]
theorem x3_2 : exec run esc l base r3_2 e σ = (stepOps run esc base q3_2_0 e σ).bind (Zk [6] base) := rfl
def q3_3_0 : List MOper := [⟨some 7,.mov true (.lit (.slice true [])),none⟩]
def r3_3 : MCode := .region 3 q3_3_0 false [0, 2, 4, 7]
theorem x3_3 : exec run esc l base r3_3 e σ = (stepOps run esc base q3_3_0 e σ).bind (Zk [0, 2, 4, 7] base) := rfl
def q3_4_0 : List MOper := [⟨some 8,.mov false (.lit (.int .i64 0)),none⟩]
def r3_4 : MCode := .region 4 q3_4_0 false [0, 2, 4, 7, 8]
theorem x3_4 : exec run esc l base r3_4 e σ = (stepOps run esc base q3_4_0 e σ).bind (Zk [0, 2, 4, 7, 8] base) := rfl
def q3_5_0 : List MOper := [⟨some 21,.mov false (.tmp 8),none⟩, ⟨some 22,.mov false (.tmp 0),none⟩, ⟨some 23,.len false (.tmp 22),none⟩, ⟨some 24,.bin .lss (.tmp 21) (.tmp 23),none⟩]
def r3_5 : MCode := .region 5 q3_5_0 false [0, 2, 4, 7, 8, 24]
theorem x3_5 : exec run esc l base r3_5 e σ = (stepOps run esc base q3_5_0 e σ).bind (Zk [0, 2, 4, 7, 8, 24] base) := rfl
def q3_7_0 : List MOper := [⟨some 27,.mov false (.tmp 0),none⟩, ⟨some 28,.mov false (.tmp 8),none⟩, ⟨some 29,.index 4 (.tmp 27) (.tmp 28),none⟩, ⟨some 30,.load false true 4 (.tmp 29),none⟩, ⟨some 9,.alloc [(.int .i64 0), (.int .i64 0), (.int .i64 0), (.slice true [])],none⟩, ⟨none,.store 4 (.tmp 9) (.tmp 30),none⟩]
def r3_7 : MCode := .region 7 q3_7_0 false [0, 2, 4, 7, 8, 9]
theorem x3_7 : exec run esc l base r3_7 e σ = (stepOps run esc base q3_7_0 e σ).bind (Zk [0, 2, 4, 7, 8, 9] base) := rfl
def q3_8_0 : List MOper := [⟨some 31,.buildSlice 3 [],none⟩, ⟨some 32,.fieldAddr 3 (.tmp 9),none⟩, ⟨some 33,.load false false 1 (.tmp 32),none⟩, ⟨some 34,.append false 3 24 (.tmp 31) (.tmp 33),none⟩, ⟨some 35,.fieldAddr 3 (.tmp 9),none⟩, ⟨none,.store 1 (.tmp 35) (.tmp 34),none⟩]
def r3_8 : MCode := .region 8 q3_8_0 false [0, 2, 4, 7, 8, 9]
theorem x3_8 : exec run esc l base r3_8 e σ = (stepOps run esc base q3_8_0 e σ).bind (Zk [0, 2, 4, 7, 8, 9] base) := rfl
def q3_9_0 : List MOper := [⟨some 36,.mov true (.tmp 7),none⟩, ⟨some 37,.load false true 4 (.tmp 9),none⟩, ⟨some 38,.buildSlice 4 [(.tmp 37)],none⟩, ⟨some 39,.append false 4 48 (.tmp 36) (.tmp 38),none⟩, ⟨some 7,.mov true (.tmp 39),none⟩]
def r3_9 : MCode := .region 9 q3_9_0 false [0, 2, 4, 7, 8]
theorem x3_9 : exec run esc l base r3_9 e σ = (stepOps run esc base q3_9_0 e σ).bind (Zk [0, 2, 4, 7, 8] base) := rfl
def q3_6_0 : List MOper := [⟨some 25,.mov false (.tmp 8),none⟩, ⟨some 26,.bin .add (.tmp 25) (.lit (.int .i64 1)),none⟩, ⟨some 8,.mov false (.tmp 26),none⟩]
def r3_6 : MCode := .region 6 q3_6_0 false [0, 2, 4, 7, 8]
theorem x3_6 : exec run esc l base r3_6 e σ = (stepOps run esc base q3_6_0 e σ).bind (Zk [0, 2, 4, 7, 8] base) := rfl
def l3_0 : MCode := (.seq (.seq r3_5 (.cond (.tmp 24) .skip (.exit 0))) (.seq (.block 1 (.seq r3_7 (.seq r3_8 r3_9))) r3_6))
def q3_10_0 : List MOper := [⟨some 41,.mov false (.tmp 0),none⟩, ⟨some 42,.load false true 5 (.tmp 4),none⟩, ⟨some 43,.mov false (.tmp 2),none⟩, ⟨some 44,.call (.lit (.fn 12 [])) [(.tmp 41), (.tmp 42), (.tmp 43)],none⟩, ⟨some 40,.mov false (.tmp 44),none⟩, ⟨some 45,.extract 0 (.tmp 40),none⟩]
def q3_10_1 : List MOper := [⟨some 46,.extract 1 (.tmp 40),none⟩, ⟨some 10,.mov true (.tmp 45),none⟩, ⟨some 11,.mov false (.tmp 46),none⟩]
def r3_10 : MCode := .region 10 (q3_10_0 ++ q3_10_1) false [0, 2, 4, 7, 10, 11]
theorem x3_10 : exec run esc l base r3_10 e σ = (stepOps run esc base q3_10_0 e σ).bind fun x => (stepOps run esc base q3_10_1 x.1 x.2).bind (Zk [0, 2, 4, 7, 10, 11] base) := reg2
def q3_11_0 : List MOper := [⟨some 48,.mov false (.tmp 0),none⟩, ⟨some 49,.load false true 5 (.tmp 4),none⟩, ⟨some 50,.mov false (.tmp 2),none⟩, ⟨some 51,.call (.lit (.fn 13 [])) [(.tmp 48), (.tmp 49), (.tmp 50)],none⟩, ⟨some 47,.mov false (.tmp 51),none⟩, ⟨some 52,.extract 0 (.tmp 47),none⟩]
def q3_11_1 : List MOper := [⟨some 53,.extract 1 (.tmp 47),none⟩, ⟨some 12,.mov true (.tmp 52),none⟩, ⟨some 13,.mov false (.tmp 53),none⟩]
def r3_11 : MCode := .region 11 (q3_11_0 ++ q3_11_1) false [0, 7, 10, 11, 12, 13]
theorem x3_11 : exec run esc l base r3_11 e σ = (stepOps run esc base q3_11_0 e σ).bind fun x => (stepOps run esc base q3_11_1 x.1 x.2).bind (Zk [0, 7, 10, 11, 12, 13] base) := reg2
def q3_12_0 : List MOper := [⟨some 54,.mov false (.tmp 10),none⟩, ⟨some 55,.mov false (.tmp 12),none⟩, ⟨some 56,.call (.lit (.fn 14 [])) [(.tmp 54), (.tmp 55)],none⟩, ⟨some 57,.mov false (.tmp 56),none⟩, ⟨some 58,.mov false (.tmp 11),some (57, true)⟩, ⟨some 59,.mov false (.tmp 13),some (57, true)⟩]
def q3_12_1 : List MOper := [⟨some 60,.bin .eql (.tmp 58) (.tmp 59),some (57, true)⟩, ⟨some 61,.pick (.tmp 57) (.tmp 60) (.lit (.bool false)),none⟩, ⟨some 62,.mov false (.tmp 61),none⟩, ⟨some 63,.mov false (.tmp 0),some (62, true)⟩, ⟨some 64,.mov false (.tmp 7),some (62, true)⟩, ⟨some 65,.call (.lit (.fn 14 [])) [(.tmp 63), (.tmp 64)],some (62, true)⟩]
def q3_12_2 : List MOper := [⟨some 66,.pick (.tmp 62) (.tmp 65) (.lit (.bool false)),none⟩, ⟨some 67,.mov false (.tmp 66),none⟩, ⟨some 68,.call (.lit (.fn 11 [])) [],some (67, true)⟩, ⟨some 69,.pick (.tmp 67) (.tmp 68) (.lit (.bool false)),none⟩, ⟨some 6,.mov false (.tmp 69),none⟩]
def r3_12 : MCode := .region 12 (q3_12_0 ++ (q3_12_1 ++ q3_12_2)) false [6]
theorem x3_12 : exec run esc l base r3_12 e σ = (stepOps run esc base q3_12_0 e σ).bind fun x => (stepOps run esc base q3_12_1 x.1 x.2).bind fun x => (stepOps run esc base q3_12_2 x.1 x.2).bind (Zk [6] base) := by simp only [r3_12, regN, regA, Option.bind_assoc]
def m3 : MFunc := ⟨(.seq r3_0 (.seq (.seq r3_1 (.cond (.tmp 19) (.seq r3_2 .ret) .skip)) (.seq r3_3 (.seq (.seq r3_4 (.block 0 (.loop l3_0))) (.seq r3_10 (.seq r3_11 (.seq r3_12 .ret))))))), [.tmp 6], false, false⟩
def q7_0_0 : List MOper := [⟨some 4,.mov false (.lit (.bool false)),none⟩]
def r7_0 : MCode := .region 0 q7_0_0 false [0, 1]
theorem x7_0 : exec run esc l base r7_0 e σ = (stepOps run esc base q7_0_0 e σ).bind (Zk [0, 1] base) := rfl
def q7_1_0 : List MOper := [⟨some 13,.mov false (.tmp 0),none⟩, ⟨some 14,.len false (.tmp 13),none⟩, ⟨some 15,.bin .lss (.tmp 14) (.lit (.int .i64 2)),none⟩, ⟨some 16,.mov false (.tmp 15),none⟩, ⟨some 17,.mov false (.tmp 0),some (16, false)⟩, ⟨some 18,.len false (.tmp 17),some (16, false)⟩]
def q7_1_1 : List MOper := [⟨some 19,.bin .gtr (.tmp 18) (.lit (.int .i64 200)),some (16, false)⟩, ⟨some 20,.pick (.tmp 16) (.lit (.bool true)) (.tmp 19),none⟩, ⟨some 21,.mov false (.tmp 20),none⟩, ⟨some 22,.mov false (.tmp 0),some (21, false)⟩, ⟨some 23,.call (.lit (.fn 23 [])) [(.tmp 22)],some (21, false)⟩, ⟨some 24,.pick (.tmp 21) (.lit (.bool true)) (.tmp 23),none⟩]
def r7_1 : MCode := .region 1 (q7_1_0 ++ q7_1_1) false [0, 1, 24]
theorem x7_1 : exec run esc l base r7_1 e σ = (stepOps run esc base q7_1_0 e σ).bind fun x => (stepOps run esc base q7_1_1 x.1 x.2).bind (Zk [0, 1, 24] base) := reg2
def q7_2_0 : List MOper := [⟨some 25,.call (.lit (.fn 24 [])) [],none⟩, ⟨some 4,.mov false (.tmp 25),none⟩]
def r7_2 : MCode := .region 2 q7_2_0 false [4]
theorem x7_2 : exec run esc l base r7_2 e σ = (stepOps run esc base q7_2_0 e σ).bind (Zk [4] base) := rfl
def q7_3_0 : List MOper := [⟨some 26,.mov false (.tmp 1),none⟩, ⟨some 27,.mov false (.tmp 0),none⟩, ⟨some 28,.len false (.tmp 27),none⟩, ⟨some 29,.bin .sub (.tmp 28) (.lit (.int .i64 1)),none⟩, ⟨some 30,.bin .rem (.tmp 26) (.tmp 29),none⟩, ⟨some 31,.mov false (.tmp 0),none⟩]
def q7_3_1 : List MOper := [⟨some 32,.len false (.tmp 31),none⟩, ⟨some 33,.bin .add (.tmp 30) (.tmp 32),none⟩, ⟨some 34,.bin .sub (.tmp 33) (.lit (.int .i64 1)),none⟩, ⟨some 35,.mov false (.tmp 0),none⟩, ⟨some 36,.len false (.tmp 35),none⟩, ⟨some 37,.bin .sub (.tmp 36) (.lit (.int .i64 1)),none⟩]
def q7_3_2 : List MOper := [⟨some 38,.bin .rem (.tmp 34) (.tmp 37),none⟩, ⟨some 5,.mov false (.tmp 38),none⟩]
def r7_3 : MCode := .region 3 (q7_3_0 ++ (q7_3_1 ++ q7_3_2)) false [0, 5]
theorem x7_3 : exec run esc l base r7_3 e σ = (stepOps run esc base q7_3_0 e σ).bind fun x => (stepOps run esc base q7_3_1 x.1 x.2).bind fun x => (stepOps run esc base q7_3_2 x.1 x.2).bind (Zk [0, 5] base) := by simp only [r7_3, regN, regA, Option.bind_assoc]
def q7_4_0 : List MOper := [⟨some 39,.mov false (.tmp 0),none⟩, ⟨some 40,.mov false (.tmp 5),none⟩, ⟨some 41,.index 18 (.tmp 39) (.tmp 40),none⟩, ⟨some 42,.load false true 18 (.tmp 41),none⟩, ⟨some 43,.mov false (.tmp 0),none⟩, ⟨some 44,.mov false (.tmp 5),none⟩]
def q7_4_1 : List MOper := [⟨some 45,.bin .add (.tmp 44) (.lit (.int .i64 1)),none⟩, ⟨some 46,.index 18 (.tmp 43) (.tmp 45),none⟩, ⟨some 47,.load false true 18 (.tmp 46),none⟩, ⟨some 6,.alloc [(.int .i8 0), (.int .i64 0), (.int .i64 0), (.int .i64 0), (.bool false), (.slice true []), (.bool false), (.int .i64 0), (.int .i64 0), (.int .i64 0), (.int .i64 0), (.int .i64 0), (.str []), (.str []), (.int .i64 0), (.int .i64 0), (.int .i64 0), (.slice true [])],none⟩, ⟨some 7,.alloc [(.int .i8 0), (.int .i64 0), (.int .i64 0), (.int .i64 0), (.bool false), (.slice true []), (.bool false), (.int .i64 0), (.int .i64 0), (.int .i64 0), (.int .i64 0), (.int .i64 0), (.str []), (.str []), (.int .i64 0), (.int .i64 0), (.int .i64 0), (.slice true [])],none⟩, ⟨none,.storef 18 (.tmp 6) (.tmp 42) [46],none⟩]
def q7_4_2 : List MOper := [⟨none,.store 18 (.tmp 7) (.tmp 47),none⟩]
def r7_4 : MCode := .region 4 (q7_4_0 ++ (q7_4_1 ++ q7_4_2)) true [0, 5, 6, 7]
theorem x7_4 : exec run esc l base r7_4 e σ = (stepOps run esc base q7_4_0 e σ).bind fun x => (stepOps run esc base q7_4_1 x.1 x.2).bind fun x => (stepOps run esc base q7_4_2 x.1 x.2).bind (Zk [0, 5, 6, 7] base) := by simp only [r7_4, regN, regA, Option.bind_assoc]
def q7_5_0 : List MOper := [⟨some 48,.fieldAddr 0 (.tmp 6),none⟩, ⟨some 49,.load false false 1 (.tmp 48),none⟩, ⟨some 50,.bin .neq (.tmp 49) (.lit (.int .i8 0)),none⟩, ⟨some 51,.mov false (.tmp 50),none⟩, ⟨some 52,.fieldAddr 1 (.tmp 6),some (51, false)⟩, ⟨some 53,.fieldAddr 3 (.tmp 52),some (51, false)⟩]
def q7_5_1 : List MOper := [⟨some 54,.load false false 1 (.tmp 53),some (51, false)⟩, ⟨some 55,.un .not (.tmp 54),some (51, false)⟩, ⟨some 56,.pick (.tmp 51) (.lit (.bool true)) (.tmp 55),none⟩, ⟨some 57,.mov false (.tmp 56),none⟩, ⟨some 58,.fieldAddr 0 (.tmp 7),some (57, false)⟩, ⟨some 59,.load false false 1 (.tmp 58),some (57, false)⟩]
def q7_5_2 : List MOper := [⟨some 60,.bin .neq (.tmp 59) (.lit (.int .i8 0)),some (57, false)⟩, ⟨some 61,.mov false (.tmp 60),some (57, false)⟩, ⟨some 62,.fieldAddr 0 (.tmp 7),some (61, true)⟩, ⟨some 63,.load false false 1 (.tmp 62),some (61, true)⟩, ⟨some 64,.bin .neq (.tmp 63) (.lit (.int .i8 1)),some (61, true)⟩, ⟨some 65,.pick (.tmp 61) (.tmp 64) (.lit (.bool false)),some (57, false)⟩]
def q7_5_3 : List MOper := [⟨some 66,.pick (.tmp 57) (.lit (.bool true)) (.tmp 65),none⟩, ⟨some 67,.mov false (.tmp 66),none⟩, ⟨some 68,.fieldAddr 1 (.tmp 6),some (67, false)⟩, ⟨some 69,.fieldAddr 0 (.tmp 68),some (67, false)⟩, ⟨some 70,.load false false 1 (.tmp 69),some (67, false)⟩, ⟨some 71,.fieldAddr 1 (.tmp 7),some (67, false)⟩]
def q7_5_4 : List MOper := [⟨some 72,.fieldAddr 0 (.tmp 71),some (67, false)⟩, ⟨some 73,.load false false 1 (.tmp 72),some (67, false)⟩, ⟨some 74,.bin .eql (.tmp 70) (.tmp 73),some (67, false)⟩, ⟨some 75,.pick (.tmp 67) (.lit (.bool true)) (.tmp 74),none⟩]
def r7_5 : MCode := .region 5 (q7_5_0 ++ (q7_5_1 ++ (q7_5_2 ++ (q7_5_3 ++ q7_5_4)))) false [0, 5, 6, 7, 75]
theorem x7_5 : exec run esc l base r7_5 e σ = (stepOps run esc base q7_5_0 e σ).bind fun x => (stepOps run esc base q7_5_1 x.1 x.2).bind fun x => (stepOps run esc base q7_5_2 x.1 x.2).bind fun x => (stepOps run esc base q7_5_3 x.1 x.2).bind fun x => (stepOps run esc base q7_5_4 x.1 x.2).bind (Zk [0, 5, 6, 7, 75] base) := by simp only [r7_5, regN, regA, Option.bind_assoc]
def q7_6_0 : List MOper := [⟨some 76,.call (.lit (.fn 24 [])) [],none⟩, ⟨some 4,.mov false (.tmp 76),none⟩]
def r7_6 : MCode := .region 6 q7_6_0 false [4]
theorem x7_6 : exec run esc l base r7_6 e σ = (stepOps run esc base q7_6_0 e σ).bind (Zk [4] base) := rfl
def q7_7_0 : List MOper := [⟨some 78,.mov false (.tmp 0),none⟩, ⟨some 79,.call (.lit (.fn 25 [])) [(.tmp 78)],none⟩, ⟨some 77,.mov false (.tmp 79),none⟩, ⟨some 80,.extract 0 (.tmp 77),none⟩, ⟨some 81,.extract 1 (.tmp 77),none⟩, ⟨some 8,.alloc [(.int .i64 0), (.int .i64 0), (.slice true []), (.slice true []), (.slice true [])],none⟩]
def q7_7_1 : List MOper := [⟨none,.store 5 (.tmp 8) (.tmp 80),none⟩, ⟨some 9,.mov false (.tmp 81),none⟩]
def r7_7 : MCode := .region 7 (q7_7_0 ++ q7_7_1) false [0, 5, 6, 7, 8, 9]
theorem x7_7 : exec run esc l base r7_7 e σ = (stepOps run esc base q7_7_0 e σ).bind fun x => (stepOps run esc base q7_7_1 x.1 x.2).bind (Zk [0, 5, 6, 7, 8, 9] base) := reg2
def q7_8_0 : List MOper := [⟨some 82,.mov false (.tmp 9),none⟩, ⟨some 83,.bin .neq (.tmp 82) (.lit (.int .i64 0)),none⟩]
def r7_8 : MCode := .region 8 q7_8_0 false [0, 5, 6, 7, 8, 83]
theorem x7_8 : exec run esc l base r7_8 e σ = (stepOps run esc base q7_8_0 e σ).bind (Zk [0, 5, 6, 7, 8, 83] base) := rfl
def q7_9_0 : List MOper := [⟨some 84,.call (.lit (.fn 24 [])) [],none⟩, ⟨some 4,.mov false (.tmp 84),none⟩]
def r7_9 : MCode := .region 9 q7_9_0 false [4]
theorem x7_9 : exec run esc l base r7_9 e σ = (stepOps run esc base q7_9_0 e σ).bind (Zk [4] base) := rfl
def q7_10_0 : List MOper := [⟨some 85,.buildSlice 18 [],none⟩, ⟨some 86,.mov false (.tmp 0),none⟩, ⟨some 87,.append false 18 192 (.tmp 85) (.tmp 86),none⟩, ⟨some 10,.mov true (.tmp 87),none⟩]
def r7_10 : MCode := .region 10 q7_10_0 false [5, 6, 7, 8, 10]
theorem x7_10 : exec run esc l base r7_10 e σ = (stepOps run esc base q7_10_0 e σ).bind (Zk [5, 6, 7, 8, 10] base) := rfl
def q7_11_0 : List MOper := [⟨some 88,.mov false (.tmp 10),none⟩, ⟨some 89,.mov false (.tmp 5),none⟩, ⟨some 90,.load false true 18 (.tmp 7),none⟩, ⟨some 91,.index 18 (.tmp 88) (.tmp 89),none⟩, ⟨none,.store 18 (.tmp 91) (.tmp 90),none⟩]
def r7_11 : MCode := .region 11 q7_11_0 false [5, 6, 8, 10]
theorem x7_11 : exec run esc l base r7_11 e σ = (stepOps run esc base q7_11_0 e σ).bind (Zk [5, 6, 8, 10] base) := rfl
def q7_12_0 : List MOper := [⟨some 92,.mov false (.tmp 10),none⟩, ⟨some 93,.mov false (.tmp 5),none⟩, ⟨some 94,.bin .add (.tmp 93) (.lit (.int .i64 1)),none⟩, ⟨some 95,.load false true 18 (.tmp 6),none⟩, ⟨some 96,.index 18 (.tmp 92) (.tmp 94),none⟩, ⟨none,.store 18 (.tmp 96) (.tmp 95),none⟩]
def r7_12 : MCode := .region 12 q7_12_0 false [8, 10]
theorem x7_12 : exec run esc l base r7_12 e σ = (stepOps run esc base q7_12_0 e σ).bind (Zk [8, 10] base) := rfl
def q7_13_0 : List MOper := [⟨some 98,.mov false (.tmp 10),none⟩, ⟨some 99,.call (.lit (.fn 25 [])) [(.tmp 98)],none⟩, ⟨some 97,.mov false (.tmp 99),none⟩, ⟨some 100,.extract 0 (.tmp 97),none⟩, ⟨some 101,.extract 1 (.tmp 97),none⟩, ⟨some 11,.alloc [(.int .i64 0), (.int .i64 0), (.slice true []), (.slice true []), (.slice true [])],none⟩]
def q7_13_1 : List MOper := [⟨none,.store 5 (.tmp 11) (.tmp 100),none⟩, ⟨some 12,.mov false (.tmp 101),none⟩]
def r7_13 : MCode := .region 13 (q7_13_0 ++ q7_13_1) false [8, 11, 12]
theorem x7_13 : exec run esc l base r7_13 e σ = (stepOps run esc base q7_13_0 e σ).bind fun x => (stepOps run esc base q7_13_1 x.1 x.2).bind (Zk [8, 11, 12] base) := reg2
def q7_14_0 : List MOper := [⟨some 102,.mov false (.tmp 12),none⟩, ⟨some 103,.bin .eql (.tmp 102) (.lit (.int .i64 0)),none⟩, ⟨some 104,.mov false (.tmp 103),none⟩, ⟨some 105,.load false true 5 (.tmp 8),some (104, true)⟩, ⟨some 106,.load false true 5 (.tmp 11),some (104, true)⟩, ⟨some 107,.call (.lit (.fn 28 [])) [(.tmp 105), (.tmp 106)],some (104, true)⟩]
def q7_14_1 : List MOper := [⟨some 108,.pick (.tmp 104) (.tmp 107) (.lit (.bool false)),none⟩, ⟨some 109,.mov false (.tmp 108),none⟩, ⟨some 110,.call (.lit (.fn 24 [])) [],some (109, true)⟩, ⟨some 111,.pick (.tmp 109) (.tmp 110) (.lit (.bool false)),none⟩, ⟨some 4,.mov false (.tmp 111),none⟩]
def r7_14 : MCode := .region 14 (q7_14_0 ++ q7_14_1) false [4]
theorem x7_14 : exec run esc l base r7_14 e σ = (stepOps run esc base q7_14_0 e σ).bind fun x => (stepOps run esc base q7_14_1 x.1 x.2).bind (Zk [4] base) := reg2
def m7 : MFunc := ⟨(.seq r7_0 (.seq (.seq r7_1 (.cond (.tmp 24) (.seq r7_2 .ret) .skip)) (.seq r7_3 (.seq r7_4 (.seq (.seq r7_5 (.cond (.tmp 75) (.seq r7_6 .ret) .skip)) (.seq r7_7 (.seq (.seq r7_8 (.cond (.tmp 83) (.seq r7_9 .ret) .skip)) (.seq r7_10 (.seq r7_11 (.seq r7_12 (.seq r7_13 (.seq r7_14 .ret)))))))))))), [.tmp 4], false, false⟩
def q8_0_0 : List MOper := [⟨some 2,.mov false (.lit (.bool false)),none⟩]
def r8_0 : MCode := .region 0 q8_0_0 false [0]
theorem x8_0 : exec run esc l base r8_0 e σ = (stepOps run esc base q8_0_0 e σ).bind (Zk [0] base) := rfl
def q8_1_0 : List MOper := [⟨some 13,.mov false (.tmp 0),none⟩, ⟨some 14,.len false (.tmp 13),none⟩, ⟨some 15,.bin .gtr (.tmp 14) (.lit (.int .i64 200)),none⟩, ⟨some 16,.mov false (.tmp 15),none⟩, ⟨some 17,.mov false (.tmp 0),some (16, false)⟩, ⟨some 18,.call (.lit (.fn 23 [])) [(.tmp 17)],some (16, false)⟩]
def q8_1_1 : List MOper := [⟨some 19,.pick (.tmp 16) (.lit (.bool true)) (.tmp 18),none⟩]
def r8_1 : MCode := .region 1 (q8_1_0 ++ q8_1_1) false [0, 19]
theorem x8_1 : exec run esc l base r8_1 e σ = (stepOps run esc base q8_1_0 e σ).bind fun x => (stepOps run esc base q8_1_1 x.1 x.2).bind (Zk [0, 19] base) := reg2
def q8_2_0 : List MOper := [⟨some 20,.call (.lit (.fn 24 [])) [],none⟩, ⟨some 2,.mov false (.tmp 20),none⟩]
def r8_2 : MCode := .region 2 q8_2_0 false [2]
theorem x8_2 : exec run esc l base r8_2 e σ = (stepOps run esc base q8_2_0 e σ).bind (Zk [2] base) := rfl
def q8_3_0 : List MOper := [⟨some 22,.mov false (.tmp 0),none⟩, ⟨some 23,.call (.lit (.fn 25 [])) [(.tmp 22)],none⟩, ⟨some 21,.mov false (.tmp 23),none⟩, ⟨some 24,.extract 0 (.tmp 21),none⟩, ⟨some 25,.extract 1 (.tmp 21),none⟩, ⟨some 3,.alloc [(.int .i64 0), (.int .i64 0), (.slice true []), (.slice true []), (.slice true [])],none⟩]
def q8_3_1 : List MOper := [⟨none,.store 5 (.tmp 3) (.tmp 24),none⟩, ⟨some 4,.mov false (.tmp 25),none⟩]
def r8_3 : MCode := .region 3 (q8_3_0 ++ q8_3_1) false [3, 4]
theorem x8_3 : exec run esc l base r8_3 e σ = (stepOps run esc base q8_3_0 e σ).bind fun x => (stepOps run esc base q8_3_1 x.1 x.2).bind (Zk [3, 4] base) := reg2
def q8_4_0 : List MOper := [⟨some 26,.mov false (.tmp 4),none⟩, ⟨some 27,.bin .neq (.tmp 26) (.lit (.int .i64 0)),none⟩]
def r8_4 : MCode := .region 4 q8_4_0 false [3, 27]
theorem x8_4 : exec run esc l base r8_4 e σ = (stepOps run esc base q8_4_0 e σ).bind (Zk [3, 27] base) := rfl
def q8_5_0 : List MOper := [⟨some 28,.call (.lit (.fn 24 [])) [],none⟩, ⟨some 2,.mov false (.tmp 28),none⟩]
def r8_5 : MCode := .region 5 q8_5_0 false [2]
theorem x8_5 : exec run esc l base r8_5 e σ = (stepOps run esc base q8_5_0 e σ).bind (Zk [2] base) := rfl
def q8_6_0 : List MOper := [⟨some 30,.load false true 5 (.tmp 3),none⟩, ⟨some 31,.call (.lit (.fn 29 [])) [(.tmp 30)],none⟩, ⟨some 29,.mov false (.tmp 31),none⟩, ⟨some 32,.extract 0 (.tmp 29),none⟩, ⟨some 33,.extract 1 (.tmp 29),none⟩, ⟨some 5,.mov true (.tmp 32),none⟩]
def q8_6_1 : List MOper := [⟨some 6,.mov false (.tmp 33),none⟩]
def r8_6 : MCode := .region 6 (q8_6_0 ++ q8_6_1) false [3, 5, 6]
theorem x8_6 : exec run esc l base r8_6 e σ = (stepOps run esc base q8_6_0 e σ).bind fun x => (stepOps run esc base q8_6_1 x.1 x.2).bind (Zk [3, 5, 6] base) := reg2
def q8_7_0 : List MOper := [⟨some 35,.mov false (.tmp 5),none⟩, ⟨some 36,.call (.lit (.fn 25 [])) [(.tmp 35)],none⟩, ⟨some 34,.mov false (.tmp 36),none⟩, ⟨some 37,.extract 0 (.tmp 34),none⟩, ⟨some 38,.extract 1 (.tmp 34),none⟩, ⟨some 7,.alloc [(.int .i64 0), (.int .i64 0), (.slice true []), (.slice true []), (.slice true [])],none⟩]
def q8_7_1 : List MOper := [⟨none,.store 5 (.tmp 7) (.tmp 37),none⟩, ⟨some 8,.mov false (.tmp 38),none⟩]
def r8_7 : MCode := .region 7 (q8_7_0 ++ q8_7_1) false [3, 5, 6, 7, 8]
theorem x8_7 : exec run esc l base r8_7 e σ = (stepOps run esc base q8_7_0 e σ).bind fun x => (stepOps run esc base q8_7_1 x.1 x.2).bind (Zk [3, 5, 6, 7, 8] base) := reg2
def q8_8_0 : List MOper := [⟨some 40,.load false true 5 (.tmp 7),none⟩, ⟨some 41,.call (.lit (.fn 29 [])) [(.tmp 40)],none⟩, ⟨some 39,.mov false (.tmp 41),none⟩, ⟨some 42,.extract 0 (.tmp 39),none⟩, ⟨some 43,.extract 1 (.tmp 39),none⟩, ⟨some 9,.mov true (.tmp 42),none⟩]
def q8_8_1 : List MOper := [⟨some 10,.mov false (.tmp 43),none⟩]
def r8_8 : MCode := .region 8 (q8_8_0 ++ q8_8_1) false [3, 5, 6, 7, 8, 9, 10]
theorem x8_8 : exec run esc l base r8_8 e σ = (stepOps run esc base q8_8_0 e σ).bind fun x => (stepOps run esc base q8_8_1 x.1 x.2).bind (Zk [3, 5, 6, 7, 8, 9, 10] base) := reg2
def q8_9_0 : List MOper := [⟨some 44,.mov false (.tmp 6),none⟩, ⟨some 45,.bin .neq (.tmp 44) (.lit (.int .i64 0)),none⟩, ⟨some 46,.mov false (.tmp 45),none⟩, ⟨some 47,.mov false (.tmp 8),some (46, false)⟩, ⟨some 48,.bin .neq (.tmp 47) (.lit (.int .i64 0)),some (46, false)⟩, ⟨some 49,.pick (.tmp 46) (.lit (.bool true)) (.tmp 48),none⟩]
def q8_9_1 : List MOper := [⟨some 50,.mov false (.tmp 49),none⟩, ⟨some 51,.mov false (.tmp 10),some (50, false)⟩, ⟨some 52,.bin .neq (.tmp 51) (.lit (.int .i64 0)),some (50, false)⟩, ⟨some 53,.pick (.tmp 50) (.lit (.bool true)) (.tmp 52),none⟩, ⟨some 54,.mov false (.tmp 53),none⟩, ⟨some 55,.fieldAddr 2 (.tmp 7),some (54, false)⟩]
def q8_9_2 : List MOper := [⟨some 56,.load false false 1 (.tmp 55),some (54, false)⟩, ⟨some 57,.len false (.tmp 56),some (54, false)⟩, ⟨some 58,.fieldAddr 2 (.tmp 3),some (54, false)⟩, ⟨some 59,.load false false 1 (.tmp 58),some (54, false)⟩, ⟨some 60,.len false (.tmp 59),some (54, false)⟩, ⟨some 61,.bin .neq (.tmp 57) (.tmp 60),some (54, false)⟩]
def q8_9_3 : List MOper := [⟨some 62,.pick (.tmp 54) (.lit (.bool true)) (.tmp 61),none⟩, ⟨some 63,.mov false (.tmp 62),none⟩, ⟨some 64,.fieldAddr 1 (.tmp 7),some (63, false)⟩, ⟨some 65,.load false false 1 (.tmp 64),some (63, false)⟩, ⟨some 66,.fieldAddr 2 (.tmp 7),some (63, false)⟩, ⟨some 67,.load false false 1 (.tmp 66),some (63, false)⟩]
def q8_9_4 : List MOper := [⟨some 68,.len false (.tmp 67),some (63, false)⟩, ⟨some 69,.bin .neq (.tmp 65) (.tmp 68),some (63, false)⟩, ⟨some 70,.pick (.tmp 63) (.lit (.bool true)) (.tmp 69),none⟩, ⟨some 71,.mov false (.tmp 70),none⟩, ⟨some 72,.fieldAddr 0 (.tmp 7),some (71, false)⟩, ⟨some 73,.load false false 1 (.tmp 72),some (71, false)⟩]
def q8_9_5 : List MOper := [⟨some 74,.bin .neq (.tmp 73) (.lit (.int .i64 0)),some (71, false)⟩, ⟨some 75,.pick (.tmp 71) (.lit (.bool true)) (.tmp 74),none⟩, ⟨some 76,.mov false (.tmp 75),none⟩, ⟨some 77,.fieldAddr 3 (.tmp 3),some (76, false)⟩, ⟨some 78,.load false false 1 (.tmp 77),some (76, false)⟩, ⟨some 79,.fieldAddr 3 (.tmp 7),some (76, false)⟩]
def q8_9_6 : List MOper := [⟨some 80,.load false false 1 (.tmp 79),some (76, false)⟩, ⟨some 81,.call (.lit (.fn 30 [])) [(.tmp 78), (.tmp 80)],some (76, false)⟩, ⟨some 82,.un .not (.tmp 81),some (76, false)⟩, ⟨some 83,.pick (.tmp 76) (.lit (.bool true)) (.tmp 82),none⟩, ⟨some 84,.mov false (.tmp 83),none⟩, ⟨some 85,.fieldAddr 4 (.tmp 3),some (84, false)⟩]
def q8_9_7 : List MOper := [⟨some 86,.load false false 1 (.tmp 85),some (84, false)⟩, ⟨some 87,.fieldAddr 4 (.tmp 7),some (84, false)⟩, ⟨some 88,.load false false 1 (.tmp 87),some (84, false)⟩, ⟨some 89,.call (.lit (.fn 14 [])) [(.tmp 86), (.tmp 88)],some (84, false)⟩, ⟨some 90,.un .not (.tmp 89),some (84, false)⟩, ⟨some 91,.pick (.tmp 84) (.lit (.bool true)) (.tmp 90),none⟩]
def q8_9_8 : List MOper := [⟨some 92,.mov false (.tmp 91),none⟩, ⟨some 93,.mov false (.tmp 5),some (92, false)⟩, ⟨some 94,.mov false (.tmp 9),some (92, false)⟩, ⟨some 95,.call (.lit (.fn 31 [])) [(.tmp 93), (.tmp 94)],some (92, false)⟩, ⟨some 96,.un .not (.tmp 95),some (92, false)⟩, ⟨some 97,.pick (.tmp 92) (.lit (.bool true)) (.tmp 96),none⟩]
def r8_9 : MCode := .region 9 (q8_9_0 ++ (q8_9_1 ++ (q8_9_2 ++ (q8_9_3 ++ (q8_9_4 ++ (q8_9_5 ++ (q8_9_6 ++ (q8_9_7 ++ q8_9_8)))))))) false [3, 7, 97]
theorem x8_9 : exec run esc l base r8_9 e σ = (stepOps run esc base q8_9_0 e σ).bind fun x => (stepOps run esc base q8_9_1 x.1 x.2).bind fun x => (stepOps run esc base q8_9_2 x.1 x.2).bind fun x => (stepOps run esc base q8_9_3 x.1 x.2).bind fun x => (stepOps run esc base q8_9_4 x.1 x.2).bind fun x => (stepOps run esc base q8_9_5 x.1 x.2).bind fun x => (stepOps run esc base q8_9_6 x.1 x.2).bind fun x => (stepOps run esc base q8_9_7 x.1 x.2).bind fun x => (stepOps run esc base q8_9_8 x.1 x.2).bind (Zk [3, 7, 97] base) := by simp only [r8_9, regN, regA, Option.bind_assoc]
def q8_10_0 : List MOper := [⟨some 2,.mov false (.lit (.bool false)),none⟩]
def r8_10 : MCode := .region 10 q8_10_0 false [2]
theorem x8_10 : exec run esc l base r8_10 e σ = (stepOps run esc base q8_10_0 e σ).bind (Zk [2] base) := rfl
def q8_11_0 : List MOper := [⟨some 11,.mov false (.lit (.int .i64 0)),none⟩]
def r8_11 : MCode := .region 11 q8_11_0 false [3, 7, 11]
theorem x8_11 : exec run esc l base r8_11 e σ = (stepOps run esc base q8_11_0 e σ).bind (Zk [3, 7, 11] base) := rfl
def q8_12_0 : List MOper := [⟨some 98,.mov false (.tmp 11),none⟩, ⟨some 99,.fieldAddr 2 (.tmp 7),none⟩, ⟨some 100,.load false false 1 (.tmp 99),none⟩, ⟨some 101,.len false (.tmp 100),none⟩, ⟨some 102,.bin .lss (.tmp 98) (.tmp 101),none⟩]
def r8_12 : MCode := .region 12 q8_12_0 false [3, 7, 11, 102]
theorem x8_12 : exec run esc l base r8_12 e σ = (stepOps run esc base q8_12_0 e σ).bind (Zk [3, 7, 11, 102] base) := rfl
def q8_14_0 : List MOper := [⟨some 105,.fieldAddr 2 (.tmp 3),none⟩, ⟨some 106,.load false false 1 (.tmp 105),none⟩, ⟨some 107,.mov false (.tmp 11),none⟩, ⟨some 108,.index 5 (.tmp 106) (.tmp 107),none⟩, ⟨some 109,.load false true 5 (.tmp 108),none⟩, ⟨some 12,.alloc [(.int .i64 0), (.int .i64 0), (.int .i64 0), (.str []), (.str [])],none⟩]
def q8_14_1 : List MOper := [⟨none,.store 5 (.tmp 12) (.tmp 109),none⟩]
def r8_14 : MCode := .region 14 (q8_14_0 ++ q8_14_1) false [3, 7, 11, 12]
theorem x8_14 : exec run esc l base r8_14 e σ = (stepOps run esc base q8_14_0 e σ).bind fun x => (stepOps run esc base q8_14_1 x.1 x.2).bind (Zk [3, 7, 11, 12] base) := reg2
def q8_15_0 : List MOper := [⟨some 110,.mov false (.tmp 11),none⟩, ⟨some 111,.fieldAddr 0 (.tmp 12),none⟩, ⟨none,.store 1 (.tmp 111) (.tmp 110),none⟩]
def r8_15 : MCode := .region 15 q8_15_0 false [3, 7, 11, 12]
theorem x8_15 : exec run esc l base r8_15 e σ = (stepOps run esc base q8_15_0 e σ).bind (Zk [3, 7, 11, 12] base) := rfl
def q8_16_0 : List MOper := [⟨some 112,.fieldAddr 2 (.tmp 7),none⟩, ⟨some 113,.load false false 1 (.tmp 112),none⟩, ⟨some 114,.mov false (.tmp 11),none⟩, ⟨some 115,.index 5 (.tmp 113) (.tmp 114),none⟩, ⟨some 116,.load false true 5 (.tmp 115),none⟩, ⟨some 117,.load false true 5 (.tmp 12),none⟩]
def q8_16_1 : List MOper := [⟨some 118,.eqs true [0, 0, 0, 2, 2] (.tmp 116) (.tmp 117),none⟩]
def r8_16 : MCode := .region 16 (q8_16_0 ++ q8_16_1) true [3, 7, 11, 118]
theorem x8_16 : exec run esc l base r8_16 e σ = (stepOps run esc base q8_16_0 e σ).bind fun x => (stepOps run esc base q8_16_1 x.1 x.2).bind (Zk [3, 7, 11, 118] base) := reg2
def q8_17_0 : List MOper := [⟨some 2,.mov false (.lit (.bool false)),none⟩]
def r8_17 : MCode := .region 17 q8_17_0 false [2]
theorem x8_17 : exec run esc l base r8_17 e σ = (stepOps run esc base q8_17_0 e σ).bind (Zk [2] base) := rfl
def q8_13_0 : List MOper := [⟨some 103,.mov false (.tmp 11),none⟩, ⟨some 104,.bin .add (.tmp 103) (.lit (.int .i64 1)),none⟩, ⟨some 11,.mov false (.tmp 104),none⟩]
def r8_13 : MCode := .region 13 q8_13_0 false [3, 7, 11]
theorem x8_13 : exec run esc l base r8_13 e σ = (stepOps run esc base q8_13_0 e σ).bind (Zk [3, 7, 11] base) := rfl
def l8_0 : MCode := (.seq (.seq r8_12 (.cond (.tmp 102) .skip (.exit 0))) (.seq (.block 1 (.seq r8_14 (.seq r8_15 (.seq r8_16 (.cond (.tmp 118) (.seq r8_17 .ret) .skip))))) r8_13))
def q8_18_0 : List MOper := [⟨some 119,.call (.lit (.fn 24 [])) [],none⟩, ⟨some 2,.mov false (.tmp 119),none⟩]
def r8_18 : MCode := .region 18 q8_18_0 false [2]
theorem x8_18 : exec run esc l base r8_18 e σ = (stepOps run esc base q8_18_0 e σ).bind (Zk [2] base) := rfl
def m8 : MFunc := ⟨(.seq r8_0 (.seq (.seq r8_1 (.cond (.tmp 19) (.seq r8_2 .ret) .skip)) (.seq r8_3 (.seq (.seq r8_4 (.cond (.tmp 27) (.seq r8_5 .ret) .skip)) (.seq r8_6 (.seq r8_7 (.seq r8_8 (.seq (.seq r8_9 (.cond (.tmp 97) (.seq r8_10 .ret) .skip)) (.seq (.seq r8_11 (.block 0 (.loop l8_0))) (.seq r8_18 .ret)))))))))), [.tmp 2], false, false⟩
def q9_0_0 : List MOper := [⟨some 2,.mov false (.lit (.bool false)),none⟩]
def r9_0 : MCode := .region 0 q9_0_0 false [0]
theorem x9_0 : exec run esc l base r9_0 e σ = (stepOps run esc base q9_0_0 e σ).bind (Zk [0] base) := rfl
def q9_1_0 : List MOper := [⟨some 3,.mov false (.lit (.int .i64 0)),none⟩]
def r9_1 : MCode := .region 1 q9_1_0 false [0, 3]
theorem x9_1 : exec run esc l base r9_1 e σ = (stepOps run esc base q9_1_0 e σ).bind (Zk [0, 3] base) := rfl
def q9_2_0 : List MOper := [⟨some 4,.mov false (.tmp 3),none⟩, ⟨some 5,.mov false (.tmp 0),none⟩, ⟨some 6,.len false (.tmp 5),none⟩, ⟨some 7,.bin .lss (.tmp 4) (.tmp 6),none⟩, ⟨some 8,.mov false (.tmp 7),none⟩, ⟨some 9,.mov false (.tmp 3),some (8, true)⟩]
def q9_2_1 : List MOper := [⟨some 10,.bin .leq (.tmp 9) (.lit (.int .i64 40)),some (8, true)⟩, ⟨some 11,.pick (.tmp 8) (.tmp 10) (.lit (.bool false)),none⟩]
def r9_2 : MCode := .region 2 (q9_2_0 ++ q9_2_1) false [0, 3, 11]
theorem x9_2 : exec run esc l base r9_2 e σ = (stepOps run esc base q9_2_0 e σ).bind fun x => (stepOps run esc base q9_2_1 x.1 x.2).bind (Zk [0, 3, 11] base) := reg2
def q9_4_0 : List MOper := [⟨some 14,.mov false (.tmp 0),none⟩, ⟨some 15,.mov false (.tmp 3),none⟩, ⟨some 16,.index 4 (.tmp 14) (.tmp 15),none⟩, ⟨some 17,.fieldAddr 3 (.tmp 16),none⟩, ⟨some 18,.load false false 1 (.tmp 17),none⟩, ⟨some 19,.len false (.tmp 18),none⟩]
def q9_4_1 : List MOper := [⟨some 20,.bin .gtr (.tmp 19) (.lit (.int .i64 40)),none⟩]
def r9_4 : MCode := .region 4 (q9_4_0 ++ q9_4_1) false [0, 3, 20]
theorem x9_4 : exec run esc l base r9_4 e σ = (stepOps run esc base q9_4_0 e σ).bind fun x => (stepOps run esc base q9_4_1 x.1 x.2).bind (Zk [0, 3, 20] base) := reg2
def q9_5_0 : List MOper := [⟨some 2,.mov false (.lit (.bool true)),none⟩]
def r9_5 : MCode := .region 5 q9_5_0 false [2]
theorem x9_5 : exec run esc l base r9_5 e σ = (stepOps run esc base q9_5_0 e σ).bind (Zk [2] base) := rfl
def q9_3_0 : List MOper := [⟨some 12,.mov false (.tmp 3),none⟩, ⟨some 13,.bin .add (.tmp 12) (.lit (.int .i64 1)),none⟩, ⟨some 3,.mov false (.tmp 13),none⟩]
def r9_3 : MCode := .region 3 q9_3_0 false [0, 3]
theorem x9_3 : exec run esc l base r9_3 e σ = (stepOps run esc base q9_3_0 e σ).bind (Zk [0, 3] base) := rfl
def l9_0 : MCode := (.seq (.seq r9_2 (.cond (.tmp 11) .skip (.exit 0))) (.seq (.block 1 (.seq r9_4 (.cond (.tmp 20) (.seq r9_5 .ret) .skip))) r9_3))
def q9_6_0 : List MOper := [⟨some 21,.mov false (.tmp 0),none⟩, ⟨some 22,.len false (.tmp 21),none⟩, ⟨some 23,.bin .gtr (.tmp 22) (.lit (.int .i64 40)),none⟩, ⟨some 2,.mov false (.tmp 23),none⟩]
def r9_6 : MCode := .region 6 q9_6_0 false [2]
theorem x9_6 : exec run esc l base r9_6 e σ = (stepOps run esc base q9_6_0 e σ).bind (Zk [2] base) := rfl
def m9 : MFunc := ⟨(.seq r9_0 (.seq (.seq r9_1 (.block 0 (.loop l9_0))) (.seq r9_6 .ret))), [.tmp 2], false, false⟩
def q10_0_0 : List MOper := [⟨some 1,.box 5 (.tmp 0),none⟩, ⟨some 2,.mov false (.lit (.bool false)),none⟩]
def r10_0 : MCode := .region 0 q10_0_0 false [1]
theorem x10_0 : exec run esc l base r10_0 e σ = (stepOps run esc base q10_0_0 e σ).bind (Zk [1] base) := rfl
def q10_1_0 : List MOper := [⟨some 3,.mov false (.lit (.int .i64 0)),none⟩]
def r10_1 : MCode := .region 1 q10_1_0 false [1, 3]
theorem x10_1 : exec run esc l base r10_1 e σ = (stepOps run esc base q10_1_0 e σ).bind (Zk [1, 3] base) := rfl
def q10_2_0 : List MOper := [⟨some 4,.mov false (.lit (.int .i64 0)),none⟩]
def r10_2 : MCode := .region 2 q10_2_0 false [1, 3, 4]
theorem x10_2 : exec run esc l base r10_2 e σ = (stepOps run esc base q10_2_0 e σ).bind (Zk [1, 3, 4] base) := rfl
def q10_3_0 : List MOper := [⟨some 5,.mov false (.tmp 4),none⟩, ⟨some 6,.fieldAddr 4 (.tmp 1),none⟩, ⟨some 7,.load false false 1 (.tmp 6),none⟩, ⟨some 8,.len false (.tmp 7),none⟩, ⟨some 9,.bin .lss (.tmp 5) (.tmp 8),none⟩, ⟨some 10,.mov false (.tmp 9),none⟩]
def q10_3_1 : List MOper := [⟨some 11,.mov false (.tmp 4),some (10, true)⟩, ⟨some 12,.bin .leq (.tmp 11) (.lit (.int .i64 60)),some (10, true)⟩, ⟨some 13,.pick (.tmp 10) (.tmp 12) (.lit (.bool false)),none⟩]
def r10_3 : MCode := .region 3 (q10_3_0 ++ q10_3_1) false [1, 3, 4, 13]
theorem x10_3 : exec run esc l base r10_3 e σ = (stepOps run esc base q10_3_0 e σ).bind fun x => (stepOps run esc base q10_3_1 x.1 x.2).bind (Zk [1, 3, 4, 13] base) := reg2
def q10_5_0 : List MOper := [⟨some 16,.mov false (.tmp 3),none⟩, ⟨some 17,.fieldAddr 4 (.tmp 1),none⟩, ⟨some 18,.load false false 1 (.tmp 17),none⟩, ⟨some 19,.mov false (.tmp 4),none⟩, ⟨some 20,.index 2 (.tmp 18) (.tmp 19),none⟩, ⟨some 21,.fieldAddr 0 (.tmp 20),none⟩]
def q10_5_1 : List MOper := [⟨some 22,.load false false 1 (.tmp 21),none⟩, ⟨some 23,.len true (.tmp 22),none⟩, ⟨some 24,.min2 (.tmp 23) (.lit (.int .i64 5000)),none⟩, ⟨some 25,.bin .add (.tmp 16) (.tmp 24),none⟩, ⟨some 26,.fieldAddr 4 (.tmp 1),none⟩, ⟨some 27,.load false false 1 (.tmp 26),none⟩]
def q10_5_2 : List MOper := [⟨some 28,.mov false (.tmp 4),none⟩, ⟨some 29,.index 2 (.tmp 27) (.tmp 28),none⟩, ⟨some 30,.fieldAddr 1 (.tmp 29),none⟩, ⟨some 31,.load false false 1 (.tmp 30),none⟩, ⟨some 32,.len true (.tmp 31),none⟩, ⟨some 33,.min2 (.tmp 32) (.lit (.int .i64 5000)),none⟩]
def q10_5_3 : List MOper := [⟨some 34,.bin .add (.tmp 25) (.tmp 33),none⟩, ⟨some 3,.mov false (.tmp 34),none⟩]
def r10_5 : MCode := .region 5 (q10_5_0 ++ (q10_5_1 ++ (q10_5_2 ++ q10_5_3))) true [1, 3, 4]
theorem x10_5 : exec run esc l base r10_5 e σ = (stepOps run esc base q10_5_0 e σ).bind fun x => (stepOps run esc base q10_5_1 x.1 x.2).bind fun x => (stepOps run esc base q10_5_2 x.1 x.2).bind fun x => (stepOps run esc base q10_5_3 x.1 x.2).bind (Zk [1, 3, 4] base) := by simp only [r10_5, regN, regA, Option.bind_assoc]
def q10_4_0 : List MOper := [⟨some 14,.mov false (.tmp 4),none⟩, ⟨some 15,.bin .add (.tmp 14) (.lit (.int .i64 1)),none⟩, ⟨some 4,.mov false (.tmp 15),none⟩]
def r10_4 : MCode := .region 4 q10_4_0 false [1, 3, 4]
theorem x10_4 : exec run esc l base r10_4 e σ = (stepOps run esc base q10_4_0 e σ).bind (Zk [1, 3, 4] base) := rfl
def l10_0 : MCode := (.seq (.seq r10_3 (.cond (.tmp 13) .skip (.exit 0))) (.seq (.block 1 r10_5) r10_4))
def q10_6_0 : List MOper := [⟨some 35,.fieldAddr 4 (.tmp 1),none⟩, ⟨some 36,.load false false 1 (.tmp 35),none⟩, ⟨some 37,.len false (.tmp 36),none⟩, ⟨some 38,.bin .gtr (.tmp 37) (.lit (.int .i64 60)),none⟩, ⟨some 39,.mov false (.tmp 38),none⟩, ⟨some 40,.mov false (.tmp 3),some (39, false)⟩]
def q10_6_1 : List MOper := [⟨some 41,.bin .gtr (.tmp 40) (.lit (.int .i64 4000)),some (39, false)⟩, ⟨some 42,.pick (.tmp 39) (.lit (.bool true)) (.tmp 41),none⟩, ⟨some 2,.mov false (.tmp 42),none⟩]
def r10_6 : MCode := .region 6 (q10_6_0 ++ q10_6_1) false [2]
theorem x10_6 : exec run esc l base r10_6 e σ = (stepOps run esc base q10_6_0 e σ).bind fun x => (stepOps run esc base q10_6_1 x.1 x.2).bind (Zk [2] base) := reg2
def m10 : MFunc := ⟨(.seq r10_0 (.seq r10_1 (.seq (.seq r10_2 (.block 0 (.loop l10_0))) (.seq r10_6 .ret)))), [.tmp 2], false, false⟩
def q11_0_0 : List MOper := [⟨some 0,.mov false (.lit (.bool false)),none⟩]
def r11_0 : MCode := .region 0 q11_0_0 false []
theorem x11_0 : exec run esc l base r11_0 e σ = (stepOps run esc base q11_0_0 e σ).bind (Zk [] base) := rfl
def q11_1_0 : List MOper := [⟨some 9,.build [(.int .i64 0), (.int .i64 0), (.int .i64 0)] [(0, 1, (.lit (.int .i64 3))), (1, 1, (.lit (.int .i64 2))), (2, 1, (.lit (.int .i64 9)))],none⟩, ⟨some 10,.buildSlice 3 [(.tmp 9)],none⟩, ⟨some 11,.build [(.int .i64 0), (.int .i64 0), (.int .i64 0), (.slice true [])] [(0, 1, (.lit (.int .i64 1))), (2, 1, (.lit (.int .i64 5))), (3, 1, (.tmp 10))],none⟩, ⟨some 12,.buildSlice 4 [(.tmp 11)],none⟩, ⟨some 1,.mov true (.tmp 12),none⟩]
def r11_1 : MCode := .region 1 q11_1_0 false [1]
theorem x11_1 : exec run esc l base r11_1 e σ = (stepOps run esc base q11_1_0 e σ).bind (Zk [1] base) := rfl
def q11_2_0 : List MOper := [⟨some 13,.build [(.str []), (.str [])] [(0, 1, (.lit (.str [97])))],none⟩, ⟨some 14,.build [(.str []), (.str [])] [(0, 1, (.lit (.str [98])))],none⟩, ⟨some 15,.buildSlice 2 [(.tmp 13), (.tmp 14)],none⟩, ⟨some 2,.mov true (.tmp 15),none⟩]
def r11_2 : MCode := .region 2 q11_2_0 false [1, 2]
theorem x11_2 : exec run esc l base r11_2 e σ = (stepOps run esc base q11_2_0 e σ).bind (Zk [1, 2] base) := rfl
def q11_3_0 : List MOper := [⟨some 17,.mov false (.tmp 1),none⟩, ⟨some 18,.mov false (.tmp 2),none⟩, ⟨some 19,.build [(.int .i64 0), (.int .i64 0), (.int .i64 0), (.bool false), (.slice true [])] [(0, 1, (.lit (.int .i64 1))), (2, 1, (.lit (.int .i64 3))), (4, 1, (.tmp 18))],none⟩, ⟨some 20,.call (.lit (.fn 17 [])) [(.tmp 17), (.tmp 19)],none⟩, ⟨some 16,.mov false (.tmp 20),none⟩, ⟨some 21,.extract 0 (.tmp 16),none⟩]
def q11_3_1 : List MOper := [⟨some 22,.extract 1 (.tmp 16),none⟩, ⟨some 23,.extract 2 (.tmp 16),none⟩, ⟨some 3,.mov false (.tmp 21),none⟩, ⟨some 4,.mov false (.tmp 22),none⟩, ⟨some 5,.mov false (.tmp 23),none⟩]
def r11_3 : MCode := .region 3 (q11_3_0 ++ q11_3_1) false [1, 2, 3, 4, 5]
theorem x11_3 : exec run esc l base r11_3 e σ = (stepOps run esc base q11_3_0 e σ).bind fun x => (stepOps run esc base q11_3_1 x.1 x.2).bind (Zk [1, 2, 3, 4, 5] base) := reg2
def q11_4_0 : List MOper := [⟨some 25,.mov false (.tmp 1),none⟩, ⟨some 26,.mov false (.tmp 2),none⟩, ⟨some 27,.slice 2 (.tmp 26) none (some (.lit (.int .i64 1))) none,none⟩, ⟨some 28,.build [(.int .i64 0), (.int .i64 0), (.int .i64 0), (.bool false), (.slice true [])] [(0, 1, (.lit (.int .i64 1))), (2, 1, (.lit (.int .i64 4))), (4, 1, (.tmp 27))],none⟩, ⟨some 29,.call (.lit (.fn 17 [])) [(.tmp 25), (.tmp 28)],none⟩, ⟨some 24,.mov false (.tmp 29),none⟩]
def q11_4_1 : List MOper := [⟨some 30,.extract 0 (.tmp 24),none⟩, ⟨some 31,.extract 1 (.tmp 24),none⟩, ⟨some 32,.extract 2 (.tmp 24),none⟩, ⟨some 6,.mov false (.tmp 30),none⟩, ⟨some 7,.mov false (.tmp 31),none⟩, ⟨some 8,.mov false (.tmp 32),none⟩]
def r11_4 : MCode := .region 4 (q11_4_0 ++ q11_4_1) false [3, 4, 5, 8]
theorem x11_4 : exec run esc l base r11_4 e σ = (stepOps run esc base q11_4_0 e σ).bind fun x => (stepOps run esc base q11_4_1 x.1 x.2).bind (Zk [3, 4, 5, 8] base) := reg2
def q11_5_0 : List MOper := [⟨some 33,.mov false (.tmp 3),none⟩, ⟨some 34,.bin .eql (.tmp 33) (.lit (.int .i64 9)),none⟩, ⟨some 35,.mov false (.tmp 34),none⟩, ⟨some 36,.mov false (.tmp 4),some (35, true)⟩, ⟨some 37,.pick (.tmp 35) (.tmp 36) (.lit (.bool false)),none⟩, ⟨some 38,.mov false (.tmp 37),none⟩]
def q11_5_1 : List MOper := [⟨some 39,.mov false (.tmp 5),some (38, true)⟩, ⟨some 40,.bin .eql (.tmp 39) (.lit (.int .i64 0)),some (38, true)⟩, ⟨some 41,.pick (.tmp 38) (.tmp 40) (.lit (.bool false)),none⟩, ⟨some 42,.mov false (.tmp 41),none⟩, ⟨some 43,.mov false (.tmp 8),some (42, true)⟩, ⟨some 44,.bin .eql (.tmp 43) (.lit (.int .i64 101)),some (42, true)⟩]
def q11_5_2 : List MOper := [⟨some 45,.pick (.tmp 42) (.tmp 44) (.lit (.bool false)),none⟩, ⟨some 0,.mov false (.tmp 45),none⟩]
def r11_5 : MCode := .region 5 (q11_5_0 ++ (q11_5_1 ++ q11_5_2)) false [0]
theorem x11_5 : exec run esc l base r11_5 e σ = (stepOps run esc base q11_5_0 e σ).bind fun x => (stepOps run esc base q11_5_1 x.1 x.2).bind fun x => (stepOps run esc base q11_5_2 x.1 x.2).bind (Zk [0] base) := by simp only [r11_5, regN, regA, Option.bind_assoc]
def m11 : MFunc := ⟨(.seq r11_0 (.seq r11_1 (.seq r11_2 (.seq r11_3 (.seq r11_4 (.seq r11_5 .ret)))))), [.tmp 0], false, false⟩
def q12_0_0 : List MOper := [⟨some 4,.box 5 (.tmp 1),none⟩, ⟨some 6,.mov true (.lit (.slice true [])),none⟩, ⟨some 7,.mov false (.lit (.int .i64 0)),none⟩]
def r12_0 : MCode := .region 0 q12_0_0 false [0, 2, 4]
theorem x12_0 : exec run esc l base r12_0 e σ = (stepOps run esc base q12_0_0 e σ).bind (Zk [0, 2, 4] base) := rfl
def q12_1_0 : List MOper := [⟨some 15,.mov false (.tmp 0),none⟩, ⟨some 16,.load false true 5 (.tmp 4),none⟩, ⟨some 17,.call (.lit (.fn 17 [])) [(.tmp 15), (.tmp 16)],none⟩, ⟨some 14,.mov false (.tmp 17),none⟩, ⟨some 18,.extract 0 (.tmp 14),none⟩, ⟨some 19,.extract 1 (.tmp 14),none⟩]
def q12_1_1 : List MOper := [⟨some 20,.extract 2 (.tmp 14),none⟩, ⟨some 8,.mov false (.tmp 18),none⟩, ⟨some 9,.mov false (.tmp 19),none⟩, ⟨some 10,.mov false (.tmp 20),none⟩]
def r12_1 : MCode := .region 1 (q12_1_0 ++ q12_1_1) false [0, 2, 4, 9, 10]
theorem x12_1 : exec run esc l base r12_1 e σ = (stepOps run esc base q12_1_0 e σ).bind fun x => (stepOps run esc base q12_1_1 x.1 x.2).bind (Zk [0, 2, 4, 9, 10] base) := reg2
def q12_2_0 : List MOper := [⟨some 22,.mov false (.tmp 2),none⟩, ⟨some 23,.bin .lss (.tmp 22) (.lit (.int .i64 (-1))),none⟩, ⟨some 21,.mov false (.tmp 23),none⟩]
def r12_2 : MCode := .region 2 q12_2_0 false [0, 2, 4, 9, 10, 21]
theorem x12_2 : exec run esc l base r12_2 e σ = (stepOps run esc base q12_2_0 e σ).bind (Zk [0, 2, 4, 9, 10, 21] base) := rfl
def q12_3_0 : List MOper := [⟨some 24,.mov false (.tmp 2),none⟩, ⟨some 25,.bin .gtr (.tmp 24) (.lit (.int .i64 1048576)),none⟩, ⟨some 21,.mov false (.tmp 25),none⟩]
def r12_3 : MCode := .region 3 q12_3_0 false [0, 2, 4, 9, 10, 21]
theorem x12_3 : exec run esc l base r12_3 e σ = (stepOps run esc base q12_3_0 e σ).bind (Zk [0, 2, 4, 9, 10, 21] base) := rfl
def q12_4_0 : List MOper := [⟨some 6,.mov true (.lit (.slice true [])),none⟩, ⟨some 7,.mov false (.lit (.int .i64 2)),none⟩]
def r12_4 : MCode := .region 4 q12_4_0 false [6, 7]
theorem x12_4 : exec run esc l base r12_4 e σ = (stepOps run esc base q12_4_0 e σ).bind (Zk [6, 7] base) := rfl
def q12_5_0 : List MOper := [⟨some 27,.mov false (.tmp 10),none⟩, ⟨some 28,.bin .neq (.tmp 27) (.lit (.int .i64 0)),none⟩, ⟨some 26,.mov false (.tmp 28),none⟩]
def r12_5 : MCode := .region 5 q12_5_0 false [0, 2, 4, 9, 10, 26]
theorem x12_5 : exec run esc l base r12_5 e σ = (stepOps run esc base q12_5_0 e σ).bind (Zk [0, 2, 4, 9, 10, 26] base) := rfl
def q12_6_0 : List MOper := [⟨some 29,.mov false (.tmp 10),none⟩, ⟨some 6,.mov true (.lit (.slice true [])),none⟩, ⟨some 7,.mov false (.tmp 29),none⟩]
def r12_6 : MCode := .region 6 q12_6_0 false [6, 7]
theorem x12_6 : exec run esc l base r12_6 e σ = (stepOps run esc base q12_6_0 e σ).bind (Zk [6, 7] base) := rfl
def q12_7_0 : List MOper := [⟨some 31,.mov false (.tmp 9),none⟩, ⟨some 30,.mov false (.tmp 31),none⟩]
def r12_7 : MCode := .region 7 q12_7_0 false [0, 2, 4, 30]
theorem x12_7 : exec run esc l base r12_7 e σ = (stepOps run esc base q12_7_0 e σ).bind (Zk [0, 2, 4, 30] base) := rfl
def q12_8_0 : List MOper := [⟨some 6,.mov true (.lit (.slice true [])),none⟩, ⟨some 7,.mov false (.lit (.int .i64 101)),none⟩]
def r12_8 : MCode := .region 8 q12_8_0 false [6, 7]
theorem x12_8 : exec run esc l base r12_8 e σ = (stepOps run esc base q12_8_0 e σ).bind (Zk [6, 7] base) := rfl
def q12_9_0 : List MOper := [⟨some 33,.mov false (.tmp 0),none⟩, ⟨some 34,.fieldAddr 0 (.tmp 4),none⟩, ⟨some 35,.load false false 1 (.tmp 34),none⟩, ⟨some 36,.call (.lit (.fn 20 [])) [(.tmp 33), (.tmp 35)],none⟩, ⟨some 32,.mov false (.tmp 36),none⟩, ⟨some 37,.extract 0 (.tmp 32),none⟩]
def q12_9_1 : List MOper := [⟨some 38,.extract 1 (.tmp 32),none⟩, ⟨some 11,.alloc [(.int .i64 0), (.int .i64 0), (.int .i64 0), (.slice true [])],none⟩, ⟨none,.store 4 (.tmp 11) (.tmp 37),none⟩, ⟨some 12,.mov false (.tmp 38),none⟩]
def r12_9 : MCode := .region 9 (q12_9_0 ++ q12_9_1) false [0, 2, 4, 11, 12]
theorem x12_9 : exec run esc l base r12_9 e σ = (stepOps run esc base q12_9_0 e σ).bind fun x => (stepOps run esc base q12_9_1 x.1 x.2).bind (Zk [0, 2, 4, 11, 12] base) := reg2
def q12_10_0 : List MOper := [⟨some 39,.mov false (.tmp 12),none⟩, ⟨some 40,.un .not (.tmp 39),none⟩, ⟨some 41,.mov false (.tmp 40),none⟩, ⟨some 42,.fieldAddr 1 (.tmp 11),some (41, false)⟩, ⟨some 43,.load false false 1 (.tmp 42),some (41, false)⟩, ⟨some 44,.fieldAddr 1 (.tmp 4),some (41, false)⟩]
def q12_10_1 : List MOper := [⟨some 45,.load false false 1 (.tmp 44),some (41, false)⟩, ⟨some 46,.bin .neq (.tmp 43) (.tmp 45),some (41, false)⟩, ⟨some 47,.pick (.tmp 41) (.lit (.bool true)) (.tmp 46),none⟩]
def r12_10 : MCode := .region 10 (q12_10_0 ++ q12_10_1) false [0, 2, 4, 11, 47]
theorem x12_10 : exec run esc l base r12_10 e σ = (stepOps run esc base q12_10_0 e σ).bind fun x => (stepOps run esc base q12_10_1 x.1 x.2).bind (Zk [0, 2, 4, 11, 47] base) := reg2
def q12_11_0 : List MOper := [⟨some 48,.fieldAddr 0 (.tmp 4),none⟩, ⟨some 49,.load false false 1 (.tmp 48),none⟩, ⟨some 50,.fieldAddr 1 (.tmp 4),none⟩, ⟨some 51,.load false false 1 (.tmp 50),none⟩, ⟨some 52,.build [(.int .i64 0), (.int .i64 0), (.int .i64 0), (.slice true [])] [(0, 1, (.tmp 49)), (1, 1, (.tmp 51))],none⟩, ⟨none,.store 4 (.tmp 11) (.tmp 52),none⟩]
def r12_11 : MCode := .region 11 q12_11_0 false [0, 2, 4, 11]
theorem x12_11 : exec run esc l base r12_11 e σ = (stepOps run esc base q12_11_0 e σ).bind (Zk [0, 2, 4, 11] base) := rfl
def q12_12_0 : List MOper := [⟨some 53,.fieldAddr 3 (.tmp 11),none⟩, ⟨some 54,.load false false 1 (.tmp 53),none⟩, ⟨some 55,.len false (.tmp 54),none⟩, ⟨some 13,.mov false (.tmp 55),none⟩]
def r12_12 : MCode := .region 12 q12_12_0 false [0, 2, 4, 11, 13]
theorem x12_12 : exec run esc l base r12_12 e σ = (stepOps run esc base q12_12_0 e σ).bind (Zk [0, 2, 4, 11, 13] base) := rfl
def q12_13_0 : List MOper := [⟨some 56,.load false true 5 (.tmp 4),none⟩, ⟨some 57,.callc (.lit (.fn 32 [])) [(.tmp 56)],none⟩, ⟨some 58,.fieldAddr 3 (.tmp 11),none⟩, ⟨some 59,.load false false 1 (.tmp 58),none⟩, ⟨some 60,.mov false (.tmp 13),none⟩, ⟨some 61,.mov false (.tmp 13),none⟩]
def q12_13_1 : List MOper := [⟨some 62,.slice 3 (.tmp 59) none (some (.tmp 60)) (some (.tmp 61)),none⟩, ⟨some 63,.fieldAddr 2 (.tmp 4),none⟩, ⟨some 64,.load false false 1 (.tmp 63),none⟩, ⟨some 65,.fieldAddr 4 (.tmp 4),none⟩, ⟨some 66,.load false false 1 (.tmp 65),none⟩, ⟨some 67,.len false (.tmp 66),none⟩]
def q12_13_2 : List MOper := [⟨some 68,.mov false (.tmp 2),none⟩, ⟨some 69,.build [(.int .i64 0), (.int .i64 0), (.int .i64 0)] [(0, 1, (.tmp 64)), (1, 1, (.tmp 67)), (2, 1, (.tmp 68))],none⟩, ⟨some 70,.buildSlice 3 [(.tmp 69)],none⟩, ⟨some 71,.append false 3 24 (.tmp 62) (.tmp 70),none⟩, ⟨some 72,.fieldAddr 2 (.tmp 11),none⟩, ⟨none,.store 1 (.tmp 72) (.tmp 57),none⟩]
def q12_13_3 : List MOper := [⟨some 73,.fieldAddr 3 (.tmp 11),none⟩, ⟨none,.store 1 (.tmp 73) (.tmp 71),none⟩]
def r12_13 : MCode := .region 13 (q12_13_0 ++ (q12_13_1 ++ (q12_13_2 ++ q12_13_3))) true [0, 11, 13]
theorem x12_13 : exec run esc l base r12_13 e σ = (stepOps run esc base q12_13_0 e σ).bind fun x => (stepOps run esc base q12_13_1 x.1 x.2).bind fun x => (stepOps run esc base q12_13_2 x.1 x.2).bind fun x => (stepOps run esc base q12_13_3 x.1 x.2).bind (Zk [0, 11, 13] base) := by simp only [r12_13, regN, regA, Option.bind_assoc]
def q12_14_0 : List MOper := [⟨some 74,.mov false (.tmp 13),none⟩, ⟨some 75,.bin .eql (.tmp 74) (.lit (.int .i64 3)),none⟩]
def r12_14 : MCode := .region 14 q12_14_0 false [0, 11, 75]
theorem x12_14 : exec run esc l base r12_14 e σ = (stepOps run esc base q12_14_0 e σ).bind (Zk [0, 11, 75] base) := rfl
def q12_15_0 : List MOper := [⟨some 76,.fieldAddr 3 (.tmp 11),none⟩, ⟨some 77,.load false false 1 (.tmp 76),none⟩, ⟨some 78,.slice 3 (.tmp 77) (some (.lit (.int .i64 1))) none none,none⟩, ⟨some 79,.fieldAddr 3 (.tmp 11),none⟩, ⟨none,.store 1 (.tmp 79) (.tmp 78),none⟩]
def r12_15 : MCode := .region 15 q12_15_0 false [0, 11]
theorem x12_15 : exec run esc l base r12_15 e σ = (stepOps run esc base q12_15_0 e σ).bind (Zk [0, 11] base) := rfl
def q12_16_0 : List MOper := [⟨some 80,.mov false (.tmp 0),none⟩, ⟨some 81,.load false true 4 (.tmp 11),none⟩, ⟨some 82,.call (.lit (.fn 33 [])) [(.tmp 80), (.tmp 81)],none⟩, ⟨some 6,.mov true (.tmp 82),none⟩, ⟨some 7,.mov false (.lit (.int .i64 0)),none⟩]
def r12_16 : MCode := .region 16 q12_16_0 false [6, 7]
theorem x12_16 : exec run esc l base r12_16 e σ = (stepOps run esc base q12_16_0 e σ).bind (Zk [6, 7] base) := rfl
def m12 : MFunc := ⟨(.seq r12_0 (.seq r12_1 (.seq (.block 0 (.seq (.seq r12_2 (.cond (.tmp 21) .skip r12_3)) (.cond (.tmp 21) (.seq r12_4 .ret) (.seq r12_5 (.cond (.tmp 26) (.seq r12_6 .ret) (.seq r12_7 (.cond (.tmp 30) (.seq r12_8 .ret) .skip))))))) (.seq r12_9 (.seq (.seq r12_10 (.cond (.tmp 47) r12_11 .skip)) (.seq r12_12 (.seq r12_13 (.seq (.seq r12_14 (.cond (.tmp 75) r12_15 .skip)) (.seq r12_16 .ret))))))))), [.tmp 6, .tmp 7], false, false⟩
def q13_0_0 : List MOper := [⟨some 4,.box 5 (.tmp 1),none⟩, ⟨some 6,.mov true (.lit (.slice true [])),none⟩, ⟨some 7,.mov false (.lit (.int .i64 0)),none⟩]
def r13_0 : MCode := .region 0 q13_0_0 false [0, 2, 4]
theorem x13_0 : exec run esc l base r13_0 e σ = (stepOps run esc base q13_0_0 e σ).bind (Zk [0, 2, 4] base) := rfl
def q13_1_0 : List MOper := [⟨some 14,.mov false (.tmp 2),none⟩, ⟨some 15,.bin .lss (.tmp 14) (.lit (.int .i64 (-1))),none⟩, ⟨some 16,.mov false (.tmp 15),none⟩, ⟨some 17,.mov false (.tmp 2),some (16, false)⟩, ⟨some 18,.bin .gtr (.tmp 17) (.lit (.int .i64 1048576)),some (16, false)⟩, ⟨some 19,.pick (.tmp 16) (.lit (.bool true)) (.tmp 18),none⟩]
def r13_1 : MCode := .region 1 q13_1_0 false [0, 2, 4, 19]
theorem x13_1 : exec run esc l base r13_1 e σ = (stepOps run esc base q13_1_0 e σ).bind (Zk [0, 2, 4, 19] base) := rfl
def q13_2_0 : List MOper := [⟨some 6,.mov true (.lit (.slice true [])),none⟩, ⟨some 7,.mov false (.lit (.int .i64 2)),none⟩]
def r13_2 : MCode := .region 2 q13_2_0 false [6, 7]
theorem x13_2 : exec run esc l base r13_2 e σ = (stepOps run esc base q13_2_0 e σ).bind (Zk [6, 7] base) := rfl
def q13_3_0 : List MOper := [⟨some 21,.mov false (.tmp 0),none⟩, ⟨some 22,.load false true 5 (.tmp 4),none⟩, ⟨some 23,.call (.lit (.fn 34 [])) [(.tmp 21), (.tmp 22)],none⟩, ⟨some 20,.mov false (.tmp 23),none⟩, ⟨some 24,.extract 0 (.tmp 20),none⟩, ⟨some 25,.extract 1 (.tmp 20),none⟩]
def q13_3_1 : List MOper := [⟨some 26,.extract 2 (.tmp 20),none⟩, ⟨some 8,.mov false (.tmp 24),none⟩, ⟨some 9,.mov false (.tmp 25),none⟩, ⟨some 10,.mov false (.tmp 26),none⟩]
def r13_3 : MCode := .region 3 (q13_3_0 ++ q13_3_1) false [0, 2, 4, 9, 10]
theorem x13_3 : exec run esc l base r13_3 e σ = (stepOps run esc base q13_3_0 e σ).bind fun x => (stepOps run esc base q13_3_1 x.1 x.2).bind (Zk [0, 2, 4, 9, 10] base) := reg2
def q13_4_0 : List MOper := [⟨some 27,.mov false (.tmp 10),none⟩, ⟨some 28,.bin .neq (.tmp 27) (.lit (.int .i64 0)),none⟩]
def r13_4 : MCode := .region 4 q13_4_0 false [0, 2, 4, 9, 10, 28]
theorem x13_4 : exec run esc l base r13_4 e σ = (stepOps run esc base q13_4_0 e σ).bind (Zk [0, 2, 4, 9, 10, 28] base) := rfl
def q13_5_0 : List MOper := [⟨some 29,.mov false (.tmp 10),none⟩, ⟨some 6,.mov true (.lit (.slice true [])),none⟩, ⟨some 7,.mov false (.tmp 29),none⟩]
def r13_5 : MCode := .region 5 q13_5_0 false [6, 7]
theorem x13_5 : exec run esc l base r13_5 e σ = (stepOps run esc base q13_5_0 e σ).bind (Zk [6, 7] base) := rfl
def q13_6_0 : List MOper := [⟨some 30,.mov false (.tmp 9),none⟩]
def r13_6 : MCode := .region 6 q13_6_0 false [0, 2, 4, 30]
theorem x13_6 : exec run esc l base r13_6 e σ = (stepOps run esc base q13_6_0 e σ).bind (Zk [0, 2, 4, 30] base) := rfl
def q13_7_0 : List MOper := [⟨some 6,.mov true (.lit (.slice true [])),none⟩, ⟨some 7,.mov false (.lit (.int .i64 101)),none⟩]
def r13_7 : MCode := .region 7 q13_7_0 false [6, 7]
theorem x13_7 : exec run esc l base r13_7 e σ = (stepOps run esc base q13_7_0 e σ).bind (Zk [6, 7] base) := rfl
def q13_8_0 : List MOper := [⟨some 32,.mov false (.tmp 0),none⟩, ⟨some 33,.fieldAddr 0 (.tmp 4),none⟩, ⟨some 34,.load false false 1 (.tmp 33),none⟩, ⟨some 35,.call (.lit (.fn 35 [])) [(.tmp 32), (.tmp 34)],none⟩, ⟨some 31,.mov false (.tmp 35),none⟩, ⟨some 36,.extract 0 (.tmp 31),none⟩]
def q13_8_1 : List MOper := [⟨some 37,.extract 1 (.tmp 31),none⟩, ⟨some 11,.alloc [(.int .i64 0), (.int .i64 0), (.int .i64 0), (.slice true [])],none⟩, ⟨none,.store 4 (.tmp 11) (.tmp 36),none⟩, ⟨some 12,.mov false (.tmp 37),none⟩]
def r13_8 : MCode := .region 8 (q13_8_0 ++ q13_8_1) false [0, 2, 4, 11, 12]
theorem x13_8 : exec run esc l base r13_8 e σ = (stepOps run esc base q13_8_0 e σ).bind fun x => (stepOps run esc base q13_8_1 x.1 x.2).bind (Zk [0, 2, 4, 11, 12] base) := reg2
def q13_9_0 : List MOper := [⟨some 38,.fieldAddr 0 (.tmp 4),none⟩, ⟨some 39,.load false false 1 (.tmp 38),none⟩, ⟨some 40,.fieldAddr 1 (.tmp 4),none⟩, ⟨some 41,.load false false 1 (.tmp 40),none⟩, ⟨some 42,.load false true 5 (.tmp 4),none⟩, ⟨some 43,.callc (.lit (.fn 36 [])) [(.tmp 42)],none⟩]
def q13_9_1 : List MOper := [⟨some 44,.build [(.int .i64 0), (.int .i64 0), (.int .i64 0), (.slice true [])] [(0, 1, (.tmp 39)), (1, 1, (.tmp 41)), (2, 1, (.tmp 43))],none⟩, ⟨some 13,.alloc [(.int .i64 0), (.int .i64 0), (.int .i64 0), (.slice true [])],none⟩, ⟨none,.store 4 (.tmp 13) (.tmp 44),none⟩]
def r13_9 : MCode := .region 9 (q13_9_0 ++ q13_9_1) true [0, 2, 4, 11, 12, 13]
theorem x13_9 : exec run esc l base r13_9 e σ = (stepOps run esc base q13_9_0 e σ).bind fun x => (stepOps run esc base q13_9_1 x.1 x.2).bind (Zk [0, 2, 4, 11, 12, 13] base) := reg2
def q13_10_0 : List MOper := [⟨some 45,.mov false (.tmp 12),none⟩, ⟨some 46,.mov false (.tmp 45),none⟩, ⟨some 47,.fieldAddr 1 (.tmp 11),some (46, true)⟩, ⟨some 48,.load false false 1 (.tmp 47),some (46, true)⟩, ⟨some 49,.fieldAddr 1 (.tmp 4),some (46, true)⟩, ⟨some 50,.load false false 1 (.tmp 49),some (46, true)⟩]
def q13_10_1 : List MOper := [⟨some 51,.bin .eql (.tmp 48) (.tmp 50),some (46, true)⟩, ⟨some 52,.pick (.tmp 46) (.tmp 51) (.lit (.bool false)),none⟩]
def r13_10 : MCode := .region 10 (q13_10_0 ++ q13_10_1) false [0, 2, 4, 11, 13, 52]
theorem x13_10 : exec run esc l base r13_10 e σ = (stepOps run esc base q13_10_0 e σ).bind fun x => (stepOps run esc base q13_10_1 x.1 x.2).bind (Zk [0, 2, 4, 11, 13, 52] base) := reg2
def q13_11_0 : List MOper := [⟨some 53,.fieldAddr 3 (.tmp 13),none⟩, ⟨some 54,.load true false 1 (.tmp 53),none⟩, ⟨some 55,.fieldAddr 3 (.tmp 11),none⟩, ⟨some 56,.load false false 1 (.tmp 55),none⟩, ⟨some 57,.append false 3 24 (.tmp 54) (.tmp 56),none⟩, ⟨some 58,.fieldAddr 3 (.tmp 13),none⟩]
def q13_11_1 : List MOper := [⟨none,.store 1 (.tmp 58) (.tmp 57),none⟩]
def r13_11 : MCode := .region 11 (q13_11_0 ++ q13_11_1) false [0, 2, 4, 13]
theorem x13_11 : exec run esc l base r13_11 e σ = (stepOps run esc base q13_11_0 e σ).bind fun x => (stepOps run esc base q13_11_1 x.1 x.2).bind (Zk [0, 2, 4, 13] base) := reg2
def q13_12_0 : List MOper := [⟨some 59,.fieldAddr 3 (.tmp 13),none⟩, ⟨some 60,.load true false 1 (.tmp 59),none⟩, ⟨some 61,.fieldAddr 2 (.tmp 4),none⟩, ⟨some 62,.load false false 1 (.tmp 61),none⟩, ⟨some 63,.fieldAddr 4 (.tmp 4),none⟩, ⟨some 64,.load false false 1 (.tmp 63),none⟩]
def q13_12_1 : List MOper := [⟨some 65,.len false (.tmp 64),none⟩, ⟨some 66,.mov false (.tmp 2),none⟩, ⟨some 67,.build [(.int .i64 0), (.int .i64 0), (.int .i64 0)] [(0, 1, (.tmp 62)), (1, 1, (.tmp 65)), (2, 1, (.tmp 66))],none⟩, ⟨some 68,.buildSlice 3 [(.tmp 67)],none⟩, ⟨some 69,.append false 3 24 (.tmp 60) (.tmp 68),none⟩, ⟨some 70,.fieldAddr 3 (.tmp 13),none⟩]
def q13_12_2 : List MOper := [⟨none,.store 1 (.tmp 70) (.tmp 69),none⟩]
def r13_12 : MCode := .region 12 (q13_12_0 ++ (q13_12_1 ++ q13_12_2)) false [0, 13]
theorem x13_12 : exec run esc l base r13_12 e σ = (stepOps run esc base q13_12_0 e σ).bind fun x => (stepOps run esc base q13_12_1 x.1 x.2).bind fun x => (stepOps run esc base q13_12_2 x.1 x.2).bind (Zk [0, 13] base) := by simp only [r13_12, regN, regA, Option.bind_assoc]
def q13_13_0 : List MOper := [⟨some 71,.fieldAddr 3 (.tmp 13),none⟩, ⟨some 72,.load false false 1 (.tmp 71),none⟩, ⟨some 73,.len false (.tmp 72),none⟩, ⟨some 74,.bin .gtr (.tmp 73) (.lit (.int .i64 3)),none⟩]
def r13_13 : MCode := .region 13 q13_13_0 false [0, 13, 74]
theorem x13_13 : exec run esc l base r13_13 e σ = (stepOps run esc base q13_13_0 e σ).bind (Zk [0, 13, 74] base) := rfl
def q13_14_0 : List MOper := [⟨some 75,.fieldAddr 3 (.tmp 13),none⟩, ⟨some 76,.load false false 1 (.tmp 75),none⟩, ⟨some 77,.slice 3 (.tmp 76) (some (.lit (.int .i64 1))) none none,none⟩, ⟨some 78,.fieldAddr 3 (.tmp 13),none⟩, ⟨none,.store 1 (.tmp 78) (.tmp 77),none⟩]
def r13_14 : MCode := .region 14 q13_14_0 false [0, 13]
theorem x13_14 : exec run esc l base r13_14 e σ = (stepOps run esc base q13_14_0 e σ).bind (Zk [0, 13] base) := rfl
def q13_15_0 : List MOper := [⟨some 79,.mov false (.tmp 0),none⟩, ⟨some 80,.load false true 4 (.tmp 13),none⟩, ⟨some 81,.call (.lit (.fn 37 [])) [(.tmp 79), (.tmp 80)],none⟩, ⟨some 6,.mov true (.tmp 81),none⟩, ⟨some 7,.mov false (.lit (.int .i64 0)),none⟩]
def r13_15 : MCode := .region 15 q13_15_0 false [6, 7]
theorem x13_15 : exec run esc l base r13_15 e σ = (stepOps run esc base q13_15_0 e σ).bind (Zk [6, 7] base) := rfl
def m13 : MFunc := ⟨(.seq r13_0 (.seq (.seq r13_1 (.cond (.tmp 19) (.seq r13_2 .ret) .skip)) (.seq r13_3 (.seq (.seq r13_4 (.cond (.tmp 28) (.seq r13_5 .ret) .skip)) (.seq (.seq r13_6 (.cond (.tmp 30) (.seq r13_7 .ret) .skip)) (.seq r13_8 (.seq r13_9 (.seq (.seq r13_10 (.cond (.tmp 52) r13_11 .skip)) (.seq r13_12 (.seq (.seq r13_13 (.cond (.tmp 74) r13_14 .skip)) (.seq r13_15 .ret))))))))))), [.tmp 6, .tmp 7], false, false⟩
def q14_0_0 : List MOper := [⟨some 4,.mov false (.lit (.bool false)),none⟩]
def r14_0 : MCode := .region 0 q14_0_0 false [0, 1]
theorem x14_0 : exec run esc l base r14_0 e σ = (stepOps run esc base q14_0_0 e σ).bind (Zk [0, 1] base) := rfl
def q14_1_0 : List MOper := [⟨some 6,.mov false (.tmp 0),none⟩, ⟨some 7,.len false (.tmp 6),none⟩, ⟨some 8,.mov false (.tmp 1),none⟩, ⟨some 9,.len false (.tmp 8),none⟩, ⟨some 10,.bin .neq (.tmp 7) (.tmp 9),none⟩]
def r14_1 : MCode := .region 1 q14_1_0 false [0, 1, 10]
theorem x14_1 : exec run esc l base r14_1 e σ = (stepOps run esc base q14_1_0 e σ).bind (Zk [0, 1, 10] base) := rfl
def q14_2_0 : List MOper := [⟨some 4,.mov false (.lit (.bool false)),none⟩]
def r14_2 : MCode := .region 2 q14_2_0 false [4]
theorem x14_2 : exec run esc l base r14_2 e σ = (stepOps run esc base q14_2_0 e σ).bind (Zk [4] base) := rfl
def q14_3_0 : List MOper := [⟨some 5,.mov false (.lit (.int .i64 0)),none⟩]
def r14_3 : MCode := .region 3 q14_3_0 false [0, 1, 5]
theorem x14_3 : exec run esc l base r14_3 e σ = (stepOps run esc base q14_3_0 e σ).bind (Zk [0, 1, 5] base) := rfl
def q14_4_0 : List MOper := [⟨some 11,.mov false (.tmp 5),none⟩, ⟨some 12,.mov false (.tmp 0),none⟩, ⟨some 13,.len false (.tmp 12),none⟩, ⟨some 14,.bin .lss (.tmp 11) (.tmp 13),none⟩]
def r14_4 : MCode := .region 4 q14_4_0 false [0, 1, 5, 14]
theorem x14_4 : exec run esc l base r14_4 e σ = (stepOps run esc base q14_4_0 e σ).bind (Zk [0, 1, 5, 14] base) := rfl
def q14_6_0 : List MOper := [⟨some 17,.mov false (.tmp 0),none⟩, ⟨some 18,.mov false (.tmp 5),none⟩, ⟨some 19,.index 4 (.tmp 17) (.tmp 18),none⟩, ⟨some 20,.load false true 4 (.tmp 19),none⟩, ⟨some 21,.mov false (.tmp 1),none⟩, ⟨some 22,.mov false (.tmp 5),none⟩]
def q14_6_1 : List MOper := [⟨some 23,.index 4 (.tmp 21) (.tmp 22),none⟩, ⟨some 24,.load false true 4 (.tmp 23),none⟩, ⟨some 25,.callr (.lit (.fn 22 [])) [(.tmp 20), (.tmp 24)],none⟩, ⟨some 26,.un .not (.tmp 25),none⟩]
def r14_6 : MCode := .region 6 (q14_6_0 ++ q14_6_1) true [0, 1, 5, 26]
theorem x14_6 : exec run esc l base r14_6 e σ = (stepOps run esc base q14_6_0 e σ).bind fun x => (stepOps run esc base q14_6_1 x.1 x.2).bind (Zk [0, 1, 5, 26] base) := reg2
def q14_7_0 : List MOper := [⟨some 4,.mov false (.lit (.bool false)),none⟩]
def r14_7 : MCode := .region 7 q14_7_0 false [4]
theorem x14_7 : exec run esc l base r14_7 e σ = (stepOps run esc base q14_7_0 e σ).bind (Zk [4] base) := rfl
def q14_5_0 : List MOper := [⟨some 15,.mov false (.tmp 5),none⟩, ⟨some 16,.bin .add (.tmp 15) (.lit (.int .i64 1)),none⟩, ⟨some 5,.mov false (.tmp 16),none⟩]
def r14_5 : MCode := .region 5 q14_5_0 false [0, 1, 5]
theorem x14_5 : exec run esc l base r14_5 e σ = (stepOps run esc base q14_5_0 e σ).bind (Zk [0, 1, 5] base) := rfl
def l14_0 : MCode := (.seq (.seq r14_4 (.cond (.tmp 14) .skip (.exit 0))) (.seq (.block 1 (.seq r14_6 (.cond (.tmp 26) (.seq r14_7 .ret) .skip))) r14_5))
def q14_8_0 : List MOper := [⟨some 4,.mov false (.lit (.bool true)),none⟩]
def r14_8 : MCode := .region 8 q14_8_0 false [4]
theorem x14_8 : exec run esc l base r14_8 e σ = (stepOps run esc base q14_8_0 e σ).bind (Zk [4] base) := rfl
def m14 : MFunc := ⟨(.seq r14_0 (.seq (.seq r14_1 (.cond (.tmp 10) (.seq r14_2 .ret) .skip)) (.seq (.seq r14_3 (.block 0 (.loop l14_0))) (.seq r14_8 .ret)))), [.tmp 4], false, false⟩
def q15_0_0 : List MOper := [⟨some 1,.box 5 (.tmp 0),none⟩, ⟨some 2,.mov false (.lit (.bool false)),none⟩]
def r15_0 : MCode := .region 0 q15_0_0 false [1]
theorem x15_0 : exec run esc l base r15_0 e σ = (stepOps run esc base q15_0_0 e σ).bind (Zk [1] base) := rfl
def q15_1_0 : List MOper := [⟨some 4,.fieldAddr 0 (.tmp 1),none⟩, ⟨some 5,.load false false 1 (.tmp 4),none⟩, ⟨some 6,.bin .lss (.tmp 5) (.lit (.int .i64 1)),none⟩, ⟨some 7,.mov false (.tmp 6),none⟩, ⟨some 8,.fieldAddr 0 (.tmp 1),some (7, false)⟩, ⟨some 9,.load false false 1 (.tmp 8),some (7, false)⟩]
def q15_1_1 : List MOper := [⟨some 10,.bin .gtr (.tmp 9) (.lit (.int .i64 8)),some (7, false)⟩, ⟨some 11,.pick (.tmp 7) (.lit (.bool true)) (.tmp 10),none⟩, ⟨some 12,.mov false (.tmp 11),none⟩, ⟨some 13,.fieldAddr 1 (.tmp 1),some (12, false)⟩, ⟨some 14,.load false false 1 (.tmp 13),some (12, false)⟩, ⟨some 15,.bin .lss (.tmp 14) (.lit (.int .i64 0)),some (12, false)⟩]
def q15_1_2 : List MOper := [⟨some 16,.pick (.tmp 12) (.lit (.bool true)) (.tmp 15),none⟩, ⟨some 17,.mov false (.tmp 16),none⟩, ⟨some 18,.fieldAddr 1 (.tmp 1),some (17, false)⟩, ⟨some 19,.load false false 1 (.tmp 18),some (17, false)⟩, ⟨some 20,.bin .gtr (.tmp 19) (.lit (.int .i64 100)),some (17, false)⟩, ⟨some 21,.pick (.tmp 17) (.lit (.bool true)) (.tmp 20),none⟩]
def q15_1_3 : List MOper := [⟨some 22,.mov false (.tmp 21),none⟩, ⟨some 23,.fieldAddr 2 (.tmp 1),some (22, false)⟩, ⟨some 24,.load false false 1 (.tmp 23),some (22, false)⟩, ⟨some 25,.bin .lss (.tmp 24) (.lit (.int .i64 0)),some (22, false)⟩, ⟨some 26,.pick (.tmp 22) (.lit (.bool true)) (.tmp 25),none⟩, ⟨some 27,.mov false (.tmp 26),none⟩]
def q15_1_4 : List MOper := [⟨some 28,.fieldAddr 2 (.tmp 1),some (27, false)⟩, ⟨some 29,.load false false 1 (.tmp 28),some (27, false)⟩, ⟨some 30,.bin .gtr (.tmp 29) (.lit (.int .i64 1048576)),some (27, false)⟩, ⟨some 31,.pick (.tmp 27) (.lit (.bool true)) (.tmp 30),none⟩, ⟨some 32,.mov false (.tmp 31),none⟩, ⟨some 33,.fieldAddr 4 (.tmp 1),some (32, false)⟩]
def q15_1_5 : List MOper := [⟨some 34,.load false false 1 (.tmp 33),some (32, false)⟩, ⟨some 35,.len false (.tmp 34),some (32, false)⟩, ⟨some 36,.bin .lss (.tmp 35) (.lit (.int .i64 1)),some (32, false)⟩, ⟨some 37,.pick (.tmp 32) (.lit (.bool true)) (.tmp 36),none⟩, ⟨some 38,.mov false (.tmp 37),none⟩, ⟨some 39,.fieldAddr 4 (.tmp 1),some (38, false)⟩]
def q15_1_6 : List MOper := [⟨some 40,.load false false 1 (.tmp 39),some (38, false)⟩, ⟨some 41,.len false (.tmp 40),some (38, false)⟩, ⟨some 42,.bin .gtr (.tmp 41) (.lit (.int .i64 4)),some (38, false)⟩, ⟨some 43,.pick (.tmp 38) (.lit (.bool true)) (.tmp 42),none⟩, ⟨some 44,.mov false (.tmp 43),none⟩, ⟨some 45,.fieldAddr 2 (.tmp 1),some (44, false)⟩]
def q15_1_7 : List MOper := [⟨some 46,.load false false 1 (.tmp 45),some (44, false)⟩, ⟨some 47,.fieldAddr 4 (.tmp 1),some (44, false)⟩, ⟨some 48,.load false false 1 (.tmp 47),some (44, false)⟩, ⟨some 49,.len false (.tmp 48),some (44, false)⟩, ⟨some 50,.bin .add (.tmp 46) (.tmp 49),some (44, false)⟩, ⟨some 51,.bin .gtr (.tmp 50) (.lit (.int .i64 1048576)),some (44, false)⟩]
def q15_1_8 : List MOper := [⟨some 52,.pick (.tmp 44) (.lit (.bool true)) (.tmp 51),none⟩]
def r15_1 : MCode := .region 1 (q15_1_0 ++ (q15_1_1 ++ (q15_1_2 ++ (q15_1_3 ++ (q15_1_4 ++ (q15_1_5 ++ (q15_1_6 ++ (q15_1_7 ++ q15_1_8)))))))) false [1, 52]
theorem x15_1 : exec run esc l base r15_1 e σ = (stepOps run esc base q15_1_0 e σ).bind fun x => (stepOps run esc base q15_1_1 x.1 x.2).bind fun x => (stepOps run esc base q15_1_2 x.1 x.2).bind fun x => (stepOps run esc base q15_1_3 x.1 x.2).bind fun x => (stepOps run esc base q15_1_4 x.1 x.2).bind fun x => (stepOps run esc base q15_1_5 x.1 x.2).bind fun x => (stepOps run esc base q15_1_6 x.1 x.2).bind fun x => (stepOps run esc base q15_1_7 x.1 x.2).bind fun x => (stepOps run esc base q15_1_8 x.1 x.2).bind (Zk [1, 52] base) := by simp only [r15_1, regN, regA, Option.bind_assoc]
def q15_2_0 : List MOper := [⟨some 2,.mov false (.lit (.bool false)),none⟩]
def r15_2 : MCode := .region 2 q15_2_0 false [2]
theorem x15_2 : exec run esc l base r15_2 e σ = (stepOps run esc base q15_2_0 e σ).bind (Zk [2] base) := rfl
def q15_3_0 : List MOper := [⟨some 3,.mov false (.lit (.int .i64 0)),none⟩]
def r15_3 : MCode := .region 3 q15_3_0 false [1, 3]
theorem x15_3 : exec run esc l base r15_3 e σ = (stepOps run esc base q15_3_0 e σ).bind (Zk [1, 3] base) := rfl
def q15_4_0 : List MOper := [⟨some 53,.mov false (.tmp 3),none⟩, ⟨some 54,.fieldAddr 4 (.tmp 1),none⟩, ⟨some 55,.load false false 1 (.tmp 54),none⟩, ⟨some 56,.len false (.tmp 55),none⟩, ⟨some 57,.bin .lss (.tmp 53) (.tmp 56),none⟩]
def r15_4 : MCode := .region 4 q15_4_0 false [1, 3, 57]
theorem x15_4 : exec run esc l base r15_4 e σ = (stepOps run esc base q15_4_0 e σ).bind (Zk [1, 3, 57] base) := rfl
def q15_6_0 : List MOper := [⟨some 60,.fieldAddr 4 (.tmp 1),none⟩, ⟨some 61,.load false false 1 (.tmp 60),none⟩, ⟨some 62,.mov false (.tmp 3),none⟩, ⟨some 63,.index 2 (.tmp 61) (.tmp 62),none⟩, ⟨some 64,.fieldAddr 0 (.tmp 63),none⟩, ⟨some 65,.load false false 1 (.tmp 64),none⟩]
def q15_6_1 : List MOper := [⟨some 66,.len true (.tmp 65),none⟩, ⟨some 67,.bin .gtr (.tmp 66) (.lit (.int .i64 16)),none⟩, ⟨some 68,.mov false (.tmp 67),none⟩, ⟨some 69,.fieldAddr 4 (.tmp 1),some (68, false)⟩, ⟨some 70,.load false false 1 (.tmp 69),some (68, false)⟩, ⟨some 71,.mov false (.tmp 3),some (68, false)⟩]
def q15_6_2 : List MOper := [⟨some 72,.index 2 (.tmp 70) (.tmp 71),some (68, false)⟩, ⟨some 73,.fieldAddr 1 (.tmp 72),some (68, false)⟩, ⟨some 74,.load false false 1 (.tmp 73),some (68, false)⟩, ⟨some 75,.len true (.tmp 74),some (68, false)⟩, ⟨some 76,.bin .gtr (.tmp 75) (.lit (.int .i64 16)),some (68, false)⟩, ⟨some 77,.pick (.tmp 68) (.lit (.bool true)) (.tmp 76),none⟩]
def r15_6 : MCode := .region 6 (q15_6_0 ++ (q15_6_1 ++ q15_6_2)) false [1, 3, 77]
theorem x15_6 : exec run esc l base r15_6 e σ = (stepOps run esc base q15_6_0 e σ).bind fun x => (stepOps run esc base q15_6_1 x.1 x.2).bind fun x => (stepOps run esc base q15_6_2 x.1 x.2).bind (Zk [1, 3, 77] base) := by simp only [r15_6, regN, regA, Option.bind_assoc]
def q15_7_0 : List MOper := [⟨some 2,.mov false (.lit (.bool false)),none⟩]
def r15_7 : MCode := .region 7 q15_7_0 false [2]
theorem x15_7 : exec run esc l base r15_7 e σ = (stepOps run esc base q15_7_0 e σ).bind (Zk [2] base) := rfl
def q15_5_0 : List MOper := [⟨some 58,.mov false (.tmp 3),none⟩, ⟨some 59,.bin .add (.tmp 58) (.lit (.int .i64 1)),none⟩, ⟨some 3,.mov false (.tmp 59),none⟩]
def r15_5 : MCode := .region 5 q15_5_0 false [1, 3]
theorem x15_5 : exec run esc l base r15_5 e σ = (stepOps run esc base q15_5_0 e σ).bind (Zk [1, 3] base) := rfl
def l15_0 : MCode := (.seq (.seq r15_4 (.cond (.tmp 57) .skip (.exit 0))) (.seq (.block 1 (.seq r15_6 (.cond (.tmp 77) (.seq r15_7 .ret) .skip))) r15_5))
def q15_8_0 : List MOper := [⟨some 2,.mov false (.lit (.bool true)),none⟩]
def r15_8 : MCode := .region 8 q15_8_0 false [2]
theorem x15_8 : exec run esc l base r15_8 e σ = (stepOps run esc base q15_8_0 e σ).bind (Zk [2] base) := rfl
def m15 : MFunc := ⟨(.seq r15_0 (.seq (.seq r15_1 (.cond (.tmp 52) (.seq r15_2 .ret) .skip)) (.seq (.seq r15_3 (.block 0 (.loop l15_0))) (.seq r15_8 .ret)))), [.tmp 2], false, false⟩
def q16_0_0 : List MOper := [⟨some 4,.mov true (.lit (.slice true [])),none⟩]
def r16_0 : MCode := .region 0 q16_0_0 false [0, 1]
theorem x16_0 : exec run esc l base r16_0 e σ = (stepOps run esc base q16_0_0 e σ).bind (Zk [0, 1] base) := rfl
def q16_1_0 : List MOper := [⟨some 8,.mov false (.tmp 0),none⟩, ⟨some 9,.mov false (.tmp 1),none⟩, ⟨some 10,.call (.lit (.fn 20 [])) [(.tmp 8), (.tmp 9)],none⟩, ⟨some 7,.mov false (.tmp 10),none⟩, ⟨some 11,.extract 0 (.tmp 7),none⟩, ⟨some 12,.extract 1 (.tmp 7),none⟩]
def q16_1_1 : List MOper := [⟨some 5,.alloc [(.int .i64 0), (.int .i64 0), (.int .i64 0), (.slice true [])],none⟩, ⟨none,.store 4 (.tmp 5) (.tmp 11),none⟩, ⟨some 6,.mov false (.tmp 12),none⟩]
def r16_1 : MCode := .region 1 (q16_1_0 ++ q16_1_1) false [0, 5, 6]
theorem x16_1 : exec run esc l base r16_1 e σ = (stepOps run esc base q16_1_0 e σ).bind fun x => (stepOps run esc base q16_1_1 x.1 x.2).bind (Zk [0, 5, 6] base) := reg2
def q16_2_0 : List MOper := [⟨some 13,.mov false (.tmp 6),none⟩, ⟨some 14,.un .not (.tmp 13),none⟩]
def r16_2 : MCode := .region 2 q16_2_0 false [0, 5, 14]
theorem x16_2 : exec run esc l base r16_2 e σ = (stepOps run esc base q16_2_0 e σ).bind (Zk [0, 5, 14] base) := rfl
def q16_3_0 : List MOper := [⟨some 15,.mov true (.tmp 0),none⟩, ⟨some 4,.mov true (.tmp 15),none⟩]
def r16_3 : MCode := .region 3 q16_3_0 false [4]
theorem x16_3 : exec run esc l base r16_3 e σ = (stepOps run esc base q16_3_0 e σ).bind (Zk [4] base) := rfl
def q16_4_0 : List MOper := [⟨some 16,.fieldAddr 3 (.tmp 5),none⟩, ⟨none,.store 1 (.tmp 16) (.lit (.slice true [])),none⟩]
def r16_4 : MCode := .region 4 q16_4_0 false [0, 5]
theorem x16_4 : exec run esc l base r16_4 e σ = (stepOps run esc base q16_4_0 e σ).bind (Zk [0, 5] base) := rfl
def q16_5_0 : List MOper := [⟨some 17,.mov false (.tmp 0),none⟩, ⟨some 18,.load false true 4 (.tmp 5),none⟩, ⟨some 19,.call (.lit (.fn 33 [])) [(.tmp 17), (.tmp 18)],none⟩, ⟨some 4,.mov true (.tmp 19),none⟩]
def r16_5 : MCode := .region 5 q16_5_0 false [4]
theorem x16_5 : exec run esc l base r16_5 e σ = (stepOps run esc base q16_5_0 e σ).bind (Zk [4] base) := rfl
def m16 : MFunc := ⟨(.seq r16_0 (.seq r16_1 (.seq (.seq r16_2 (.cond (.tmp 14) (.seq r16_3 .ret) .skip)) (.seq r16_4 (.seq r16_5 .ret))))), [.tmp 4], false, false⟩
def q17_0_0 : List MOper := [⟨some 3,.box 5 (.tmp 1),none⟩, ⟨some 4,.mov false (.lit (.int .i64 0)),none⟩, ⟨some 5,.mov false (.lit (.bool false)),none⟩, ⟨some 6,.mov false (.lit (.int .i64 0)),none⟩]
def r17_0 : MCode := .region 0 q17_0_0 false [0, 3]
theorem x17_0 : exec run esc l base r17_0 e σ = (stepOps run esc base q17_0_0 e σ).bind (Zk [0, 3] base) := rfl
def q17_1_0 : List MOper := [⟨some 11,.mov false (.tmp 0),none⟩, ⟨some 12,.call (.lit (.fn 19 [])) [(.tmp 11)],none⟩, ⟨some 13,.un .not (.tmp 12),none⟩, ⟨some 14,.mov false (.tmp 13),none⟩, ⟨some 15,.load false true 5 (.tmp 3),some (14, false)⟩, ⟨some 16,.call (.lit (.fn 38 [])) [(.tmp 15)],some (14, false)⟩]
def q17_1_1 : List MOper := [⟨some 17,.un .not (.tmp 16),some (14, false)⟩, ⟨some 18,.pick (.tmp 14) (.lit (.bool true)) (.tmp 17),none⟩]
def r17_1 : MCode := .region 1 (q17_1_0 ++ q17_1_1) false [0, 3, 18]
theorem x17_1 : exec run esc l base r17_1 e σ = (stepOps run esc base q17_1_0 e σ).bind fun x => (stepOps run esc base q17_1_1 x.1 x.2).bind (Zk [0, 3, 18] base) := reg2
def q17_2_0 : List MOper := [⟨some 4,.mov false (.lit (.int .i64 0)),none⟩, ⟨some 5,.mov false (.lit (.bool false)),none⟩, ⟨some 6,.mov false (.lit (.int .i64 2)),none⟩]
def r17_2 : MCode := .region 2 q17_2_0 false [4, 5, 6]
theorem x17_2 : exec run esc l base r17_2 e σ = (stepOps run esc base q17_2_0 e σ).bind (Zk [4, 5, 6] base) := rfl
def q17_3_0 : List MOper := [⟨some 20,.mov false (.tmp 0),none⟩, ⟨some 21,.fieldAddr 0 (.tmp 3),none⟩, ⟨some 22,.load false false 1 (.tmp 21),none⟩, ⟨some 23,.call (.lit (.fn 20 [])) [(.tmp 20), (.tmp 22)],none⟩, ⟨some 19,.mov false (.tmp 23),none⟩, ⟨some 24,.extract 0 (.tmp 19),none⟩]
def q17_3_1 : List MOper := [⟨some 25,.extract 1 (.tmp 19),none⟩, ⟨some 7,.alloc [(.int .i64 0), (.int .i64 0), (.int .i64 0), (.slice true [])],none⟩, ⟨none,.store 4 (.tmp 7) (.tmp 24),none⟩, ⟨some 8,.mov false (.tmp 25),none⟩]
def r17_3 : MCode := .region 3 (q17_3_0 ++ q17_3_1) false [3, 7, 8]
theorem x17_3 : exec run esc l base r17_3 e σ = (stepOps run esc base q17_3_0 e σ).bind fun x => (stepOps run esc base q17_3_1 x.1 x.2).bind (Zk [3, 7, 8] base) := reg2
def q17_4_0 : List MOper := [⟨some 26,.fieldAddr 2 (.tmp 7),none⟩, ⟨some 27,.load false false 1 (.tmp 26),none⟩, ⟨some 9,.mov false (.tmp 27),none⟩]
def r17_4 : MCode := .region 4 q17_4_0 false [3, 7, 8, 9]
theorem x17_4 : exec run esc l base r17_4 e σ = (stepOps run esc base q17_4_0 e σ).bind (Zk [3, 7, 8, 9] base) := rfl
def q17_5_0 : List MOper := [⟨some 29,.mov false (.tmp 8),none⟩, ⟨some 30,.mov false (.tmp 29),none⟩, ⟨some 31,.fieldAddr 1 (.tmp 3),some (30, true)⟩, ⟨some 32,.load false false 1 (.tmp 31),some (30, true)⟩, ⟨some 33,.fieldAddr 1 (.tmp 7),some (30, true)⟩, ⟨some 34,.load false false 1 (.tmp 33),some (30, true)⟩]
def q17_5_1 : List MOper := [⟨some 35,.bin .lss (.tmp 32) (.tmp 34),some (30, true)⟩, ⟨some 36,.pick (.tmp 30) (.tmp 35) (.lit (.bool false)),none⟩, ⟨some 28,.mov false (.tmp 36),none⟩]
def r17_5 : MCode := .region 5 (q17_5_0 ++ q17_5_1) false [3, 7, 8, 9, 28]
theorem x17_5 : exec run esc l base r17_5 e σ = (stepOps run esc base q17_5_0 e σ).bind fun x => (stepOps run esc base q17_5_1 x.1 x.2).bind (Zk [3, 7, 8, 9, 28] base) := reg2
def q17_6_0 : List MOper := [⟨some 38,.mov false (.tmp 8),none⟩, ⟨some 39,.mov false (.tmp 38),none⟩, ⟨some 40,.fieldAddr 1 (.tmp 3),some (39, true)⟩, ⟨some 41,.load false false 1 (.tmp 40),some (39, true)⟩, ⟨some 42,.fieldAddr 1 (.tmp 7),some (39, true)⟩, ⟨some 43,.load false false 1 (.tmp 42),some (39, true)⟩]
def q17_6_1 : List MOper := [⟨some 44,.bin .eql (.tmp 41) (.tmp 43),some (39, true)⟩, ⟨some 45,.pick (.tmp 39) (.tmp 44) (.lit (.bool false)),none⟩, ⟨some 37,.mov false (.tmp 45),none⟩]
def r17_6 : MCode := .region 6 (q17_6_0 ++ q17_6_1) false [3, 7, 9, 37]
theorem x17_6 : exec run esc l base r17_6 e σ = (stepOps run esc base q17_6_0 e σ).bind fun x => (stepOps run esc base q17_6_1 x.1 x.2).bind (Zk [3, 7, 9, 37] base) := reg2
def q17_7_0 : List MOper := [⟨some 46,.mov false (.lit (.bool false)),none⟩]
def r17_7 : MCode := .region 7 q17_7_0 false [3, 9, 46]
theorem x17_7 : exec run esc l base r17_7 e σ = (stepOps run esc base q17_7_0 e σ).bind (Zk [3, 9, 46] base) := rfl
def q17_8_0 : List MOper := [⟨some 4,.mov false (.lit (.int .i64 0)),none⟩, ⟨some 5,.mov false (.lit (.bool false)),none⟩, ⟨some 6,.mov false (.lit (.int .i64 100)),none⟩]
def r17_8 : MCode := .region 8 q17_8_0 false [4, 5, 6]
theorem x17_8 : exec run esc l base r17_8 e σ = (stepOps run esc base q17_8_0 e σ).bind (Zk [4, 5, 6] base) := rfl
def q17_9_0 : List MOper := [⟨some 47,.fieldAddr 3 (.tmp 7),none⟩, ⟨some 48,.load false false 1 (.tmp 47),none⟩, ⟨some 49,.mkfn 40 [(.tmp 3)],none⟩, ⟨some 50,.call (.lit (.fn 39 [])) [(.tmp 48), (.tmp 49)],none⟩, ⟨some 10,.mov false (.tmp 50),none⟩]
def r17_9 : MCode := .region 9 q17_9_0 false [3, 7, 9, 10]
theorem x17_9 : exec run esc l base r17_9 e σ = (stepOps run esc base q17_9_0 e σ).bind (Zk [3, 7, 9, 10] base) := rfl
def q17_10_0 : List MOper := [⟨some 51,.mov false (.tmp 10),none⟩, ⟨some 52,.fieldAddr 3 (.tmp 7),none⟩, ⟨some 53,.load false false 1 (.tmp 52),none⟩, ⟨some 54,.len false (.tmp 53),none⟩, ⟨some 55,.bin .lss (.tmp 51) (.tmp 54),none⟩]
def r17_10 : MCode := .region 10 q17_10_0 false [3, 7, 9, 10, 55]
theorem x17_10 : exec run esc l base r17_10 e σ = (stepOps run esc base q17_10_0 e σ).bind (Zk [3, 7, 9, 10, 55] base) := rfl
def q17_11_0 : List MOper := [⟨some 56,.fieldAddr 3 (.tmp 7),none⟩, ⟨some 57,.load false false 1 (.tmp 56),none⟩, ⟨some 58,.mov false (.tmp 10),none⟩, ⟨some 59,.index 3 (.tmp 57) (.tmp 58),none⟩, ⟨some 60,.fieldAddr 2 (.tmp 59),none⟩, ⟨some 61,.load false false 1 (.tmp 60),none⟩]
def q17_11_1 : List MOper := [⟨some 4,.mov false (.tmp 61),none⟩, ⟨some 5,.mov false (.lit (.bool true)),none⟩, ⟨some 6,.mov false (.lit (.int .i64 0)),none⟩]
def r17_11 : MCode := .region 11 (q17_11_0 ++ q17_11_1) false [4, 5, 6]
theorem x17_11 : exec run esc l base r17_11 e σ = (stepOps run esc base q17_11_0 e σ).bind fun x => (stepOps run esc base q17_11_1 x.1 x.2).bind (Zk [4, 5, 6] base) := reg2
def q17_12_0 : List MOper := [⟨some 9,.mov false (.lit (.int .i64 0)),none⟩]
def r17_12 : MCode := .region 12 q17_12_0 false [3, 9]
theorem x17_12 : exec run esc l base r17_12 e σ = (stepOps run esc base q17_12_0 e σ).bind (Zk [3, 9] base) := rfl
def q17_13_0 : List MOper := [⟨some 62,.fieldAddr 2 (.tmp 3),none⟩, ⟨some 63,.load false false 1 (.tmp 62),none⟩, ⟨some 64,.mov false (.tmp 9),none⟩, ⟨some 65,.bin .eql (.tmp 63) (.tmp 64),none⟩]
def r17_13 : MCode := .region 13 q17_13_0 false [3, 9, 65]
theorem x17_13 : exec run esc l base r17_13 e σ = (stepOps run esc base q17_13_0 e σ).bind (Zk [3, 9, 65] base) := rfl
def q17_14_0 : List MOper := [⟨some 4,.mov false (.lit (.int .i64 (-1))),none⟩, ⟨some 5,.mov false (.lit (.bool false)),none⟩, ⟨some 6,.mov false (.lit (.int .i64 0)),none⟩]
def r17_14 : MCode := .region 14 q17_14_0 false [4, 5, 6]
theorem x17_14 : exec run esc l base r17_14 e σ = (stepOps run esc base q17_14_0 e σ).bind (Zk [4, 5, 6] base) := rfl
def q17_15_0 : List MOper := [⟨some 66,.fieldAddr 2 (.tmp 3),none⟩, ⟨some 67,.load false false 1 (.tmp 66),none⟩, ⟨some 68,.mov false (.tmp 9),none⟩, ⟨some 69,.bin .neq (.tmp 67) (.tmp 68),none⟩]
def r17_15 : MCode := .region 15 q17_15_0 false [69]
theorem x17_15 : exec run esc l base r17_15 e σ = (stepOps run esc base q17_15_0 e σ).bind (Zk [69] base) := rfl
def q17_16_0 : List MOper := [⟨some 4,.mov false (.lit (.int .i64 0)),none⟩, ⟨some 5,.mov false (.lit (.bool false)),none⟩, ⟨some 6,.mov false (.lit (.int .i64 101)),none⟩]
def r17_16 : MCode := .region 16 q17_16_0 false [4, 5, 6]
theorem x17_16 : exec run esc l base r17_16 e σ = (stepOps run esc base q17_16_0 e σ).bind (Zk [4, 5, 6] base) := rfl
def q17_17_0 : List MOper := [⟨some 4,.mov false (.lit (.int .i64 (-1))),none⟩, ⟨some 5,.mov false (.lit (.bool false)),none⟩, ⟨some 6,.mov false (.lit (.int .i64 0)),none⟩]
def r17_17 : MCode := .region 17 q17_17_0 false [4, 5, 6]
theorem x17_17 : exec run esc l base r17_17 e σ = (stepOps run esc base q17_17_0 e σ).bind (Zk [4, 5, 6] base) := rfl
def m17 : MFunc := ⟨(.seq r17_0 (.seq (.seq r17_1 (.cond (.tmp 18) (.seq r17_2 .ret) .skip)) (.seq r17_3 (.seq r17_4 (.seq (.block 0 (.seq (.block 4 (.seq (.block 3 (.seq (.block 2 (.seq (.block 1 (.seq (.seq (.seq r17_5 (.cond (.tmp 28) (.exit 1) .skip)) (.seq (.seq r17_6 (.cond (.tmp 37) (.exit 2) .skip)) (.seq r17_7 (.cond (.tmp 46) (.exit 4) .skip)))) (.exit 3))) (.seq (.seq r17_8 .ret) (.exit 0)))) (.seq (.seq r17_9 (.seq r17_10 (.cond (.tmp 55) (.seq r17_11 .ret) .skip))) (.exit 0)))) r17_12)) (.seq (.seq r17_13 (.cond (.tmp 65) (.seq r17_14 .ret) .skip)) (.exit 0)))) (.seq (.seq r17_15 (.cond (.tmp 69) (.seq r17_16 .ret) .skip)) (.seq r17_17 .ret))))))), [.tmp 4, .tmp 5, .tmp 6], false, false⟩
def q18_0_0 : List MOper := [⟨some 6,.box 5 (.tmp 2),none⟩, ⟨some 8,.mov false (.lit (.bool false)),none⟩]
def r18_0 : MCode := .region 0 q18_0_0 false [0, 1, 3, 6]
theorem x18_0 : exec run esc l base r18_0 e σ = (stepOps run esc base q18_0_0 e σ).bind (Zk [0, 1, 3, 6] base) := rfl
def q18_1_0 : List MOper := [⟨some 9,.mov false (.lit (.int .i64 0)),none⟩]
def r18_1 : MCode := .region 1 q18_1_0 false [0, 1, 3, 6, 9]
theorem x18_1 : exec run esc l base r18_1 e σ = (stepOps run esc base q18_1_0 e σ).bind (Zk [0, 1, 3, 6, 9] base) := rfl
def q18_2_0 : List MOper := [⟨some 12,.mov false (.tmp 0),none⟩, ⟨some 13,.len false (.tmp 12),none⟩, ⟨some 14,.bin .sub (.tmp 13) (.lit (.int .i64 1)),none⟩, ⟨some 10,.mov false (.tmp 14),none⟩]
def r18_2 : MCode := .region 2 q18_2_0 false [0, 1, 3, 6, 9, 10]
theorem x18_2 : exec run esc l base r18_2 e σ = (stepOps run esc base q18_2_0 e σ).bind (Zk [0, 1, 3, 6, 9, 10] base) := rfl
def q18_3_0 : List MOper := [⟨some 15,.mov false (.tmp 10),none⟩, ⟨some 16,.bin .geq (.tmp 15) (.lit (.int .i64 0)),none⟩]
def r18_3 : MCode := .region 3 q18_3_0 false [0, 1, 3, 6, 9, 10, 16]
theorem x18_3 : exec run esc l base r18_3 e σ = (stepOps run esc base q18_3_0 e σ).bind (Zk [0, 1, 3, 6, 9, 10, 16] base) := rfl
def q18_5_0 : List MOper := [⟨some 19,.mov false (.tmp 0),none⟩, ⟨some 20,.mov false (.tmp 10),none⟩, ⟨some 21,.index 5 (.tmp 19) (.tmp 20),none⟩, ⟨some 22,.load false true 5 (.tmp 21),none⟩, ⟨some 11,.alloc [(.int .i64 0), (.int .i64 0), (.int .i64 0), (.bool false), (.slice true [])],none⟩, ⟨none,.store 5 (.tmp 11) (.tmp 22),none⟩]
def r18_5 : MCode := .region 5 q18_5_0 false [0, 1, 3, 6, 9, 10, 11]
theorem x18_5 : exec run esc l base r18_5 e σ = (stepOps run esc base q18_5_0 e σ).bind (Zk [0, 1, 3, 6, 9, 10, 11] base) := rfl
def q18_6_0 : List MOper := [⟨some 23,.fieldAddr 0 (.tmp 11),none⟩, ⟨some 24,.load false false 1 (.tmp 23),none⟩, ⟨some 25,.fieldAddr 0 (.tmp 6),none⟩, ⟨some 26,.load false false 1 (.tmp 25),none⟩, ⟨some 27,.bin .neq (.tmp 24) (.tmp 26),none⟩]
def r18_6 : MCode := .region 6 q18_6_0 false [0, 1, 3, 6, 9, 10, 11, 27]
theorem x18_6 : exec run esc l base r18_6 e σ = (stepOps run esc base q18_6_0 e σ).bind (Zk [0, 1, 3, 6, 9, 10, 11, 27] base) := rfl
def q18_7_0 : List MOper := [⟨some 28,.mov false (.tmp 9),none⟩, ⟨some 29,.bin .add (.tmp 28) (.lit (.int .i64 1)),none⟩, ⟨some 9,.mov false (.tmp 29),none⟩]
def r18_7 : MCode := .region 7 q18_7_0 false [0, 1, 3, 6, 9, 10, 11]
theorem x18_7 : exec run esc l base r18_7 e σ = (stepOps run esc base q18_7_0 e σ).bind (Zk [0, 1, 3, 6, 9, 10, 11] base) := rfl
def q18_8_0 : List MOper := [⟨some 30,.mov false (.tmp 9),none⟩, ⟨some 31,.bin .gtr (.tmp 30) (.lit (.int .i64 3)),none⟩, ⟨some 32,.mov false (.tmp 31),none⟩, ⟨some 33,.fieldAddr 1 (.tmp 11),some (32, false)⟩, ⟨some 34,.load false false 1 (.tmp 33),some (32, false)⟩, ⟨some 35,.fieldAddr 1 (.tmp 6),some (32, false)⟩]
def q18_8_1 : List MOper := [⟨some 36,.load false false 1 (.tmp 35),some (32, false)⟩, ⟨some 37,.bin .neq (.tmp 34) (.tmp 36),some (32, false)⟩, ⟨some 38,.pick (.tmp 32) (.lit (.bool true)) (.tmp 37),none⟩]
def r18_8 : MCode := .region 8 (q18_8_0 ++ q18_8_1) false [0, 1, 3, 6, 9, 10, 11, 38]
theorem x18_8 : exec run esc l base r18_8 e σ = (stepOps run esc base q18_8_0 e σ).bind fun x => (stepOps run esc base q18_8_1 x.1 x.2).bind (Zk [0, 1, 3, 6, 9, 10, 11, 38] base) := reg2
def q18_9_0 : List MOper := [⟨some 8,.mov false (.lit (.bool false)),none⟩]
def r18_9 : MCode := .region 9 q18_9_0 false [8]
theorem x18_9 : exec run esc l base r18_9 e σ = (stepOps run esc base q18_9_0 e σ).bind (Zk [8] base) := rfl
def q18_10_0 : List MOper := [⟨some 39,.fieldAddr 2 (.tmp 11),none⟩, ⟨some 40,.load false false 1 (.tmp 39),none⟩, ⟨some 41,.fieldAddr 2 (.tmp 6),none⟩, ⟨some 42,.load false false 1 (.tmp 41),none⟩, ⟨some 43,.bin .eql (.tmp 40) (.tmp 42),none⟩, ⟨some 44,.mov false (.tmp 43),none⟩]
def q18_10_1 : List MOper := [⟨some 45,.fieldAddr 4 (.tmp 11),some (44, true)⟩, ⟨some 46,.load false false 1 (.tmp 45),some (44, true)⟩, ⟨some 47,.len false (.tmp 46),some (44, true)⟩, ⟨some 48,.fieldAddr 4 (.tmp 6),some (44, true)⟩, ⟨some 49,.load false false 1 (.tmp 48),some (44, true)⟩, ⟨some 50,.len false (.tmp 49),some (44, true)⟩]
def q18_10_2 : List MOper := [⟨some 51,.bin .eql (.tmp 47) (.tmp 50),some (44, true)⟩, ⟨some 52,.pick (.tmp 44) (.tmp 51) (.lit (.bool false)),none⟩]
def r18_10 : MCode := .region 10 (q18_10_0 ++ (q18_10_1 ++ q18_10_2)) false [0, 1, 3, 6, 9, 10, 52]
theorem x18_10 : exec run esc l base r18_10 e σ = (stepOps run esc base q18_10_0 e σ).bind fun x => (stepOps run esc base q18_10_1 x.1 x.2).bind fun x => (stepOps run esc base q18_10_2 x.1 x.2).bind (Zk [0, 1, 3, 6, 9, 10, 52] base) := by simp only [r18_10, regN, regA, Option.bind_assoc]
def q18_11_0 : List MOper := [⟨some 53,.mov false (.tmp 1),none⟩, ⟨some 54,.mov false (.tmp 10),none⟩, ⟨some 55,.index 1 (.tmp 53) (.tmp 54),none⟩, ⟨some 56,.load false false 1 (.tmp 55),none⟩, ⟨some 57,.mov false (.tmp 3),none⟩, ⟨some 58,.bin .eql (.tmp 56) (.tmp 57),none⟩]
def q18_11_1 : List MOper := [⟨some 8,.mov false (.tmp 58),none⟩]
def r18_11 : MCode := .region 11 (q18_11_0 ++ q18_11_1) false [8]
theorem x18_11 : exec run esc l base r18_11 e σ = (stepOps run esc base q18_11_0 e σ).bind fun x => (stepOps run esc base q18_11_1 x.1 x.2).bind (Zk [8] base) := reg2
def q18_4_0 : List MOper := [⟨some 17,.mov false (.tmp 10),none⟩, ⟨some 18,.bin .sub (.tmp 17) (.lit (.int .i64 1)),none⟩, ⟨some 10,.mov false (.tmp 18),none⟩]
def r18_4 : MCode := .region 4 q18_4_0 false [0, 1, 3, 6, 9, 10]
theorem x18_4 : exec run esc l base r18_4 e σ = (stepOps run esc base q18_4_0 e σ).bind (Zk [0, 1, 3, 6, 9, 10] base) := rfl
def l18_0 : MCode := (.seq (.seq r18_3 (.cond (.tmp 16) .skip (.exit 0))) (.seq (.block 1 (.seq r18_5 (.seq (.seq r18_6 (.cond (.tmp 27) (.exit 1) .skip)) (.seq r18_7 (.seq (.seq r18_8 (.cond (.tmp 38) (.seq r18_9 .ret) .skip)) (.seq r18_10 (.cond (.tmp 52) (.seq r18_11 .ret) .skip))))))) r18_4))
def q18_12_0 : List MOper := [⟨some 8,.mov false (.lit (.bool false)),none⟩]
def r18_12 : MCode := .region 12 q18_12_0 false [8]
theorem x18_12 : exec run esc l base r18_12 e σ = (stepOps run esc base q18_12_0 e σ).bind (Zk [8] base) := rfl
def m18 : MFunc := ⟨(.seq r18_0 (.seq r18_1 (.seq (.seq r18_2 (.block 0 (.loop l18_0))) (.seq r18_12 .ret)))), [.tmp 8], false, false⟩
def q19_0_0 : List MOper := [⟨some 2,.mov false (.lit (.bool false)),none⟩]
def r19_0 : MCode := .region 0 q19_0_0 false [0]
theorem x19_0 : exec run esc l base r19_0 e σ = (stepOps run esc base q19_0_0 e σ).bind (Zk [0] base) := rfl
def q19_1_0 : List MOper := [⟨some 3,.mov false (.lit (.int .i64 0)),none⟩]
def r19_1 : MCode := .region 1 q19_1_0 false [0, 3]
theorem x19_1 : exec run esc l base r19_1 e σ = (stepOps run esc base q19_1_0 e σ).bind (Zk [0, 3] base) := rfl
def q19_2_0 : List MOper := [⟨some 6,.mov false (.tmp 0),none⟩, ⟨some 7,.len false (.tmp 6),none⟩, ⟨some 8,.mov false (.lit (.int .i64 0)),none⟩]
def r19_2 : MCode := .region 2 q19_2_0 false [3, 6, 7, 8]
theorem x19_2 : exec run esc l base r19_2 e σ = (stepOps run esc base q19_2_0 e σ).bind (Zk [3, 6, 7, 8] base) := rfl
def q19_3_0 : List MOper := [⟨some 9,.bin .lss (.tmp 8) (.tmp 7),none⟩]
def r19_3 : MCode := .region 3 q19_3_0 false [3, 6, 7, 8, 9]
theorem x19_3 : exec run esc l base r19_3 e σ = (stepOps run esc base q19_3_0 e σ).bind (Zk [3, 6, 7, 8, 9] base) := rfl
def q19_4_0 : List MOper := [⟨some 10,.index 4 (.tmp 6) (.tmp 8),none⟩, ⟨some 11,.load false true 4 (.tmp 10),none⟩, ⟨some 5,.alloc [(.int .i64 0), (.int .i64 0), (.int .i64 0), (.slice true [])],none⟩, ⟨none,.store 4 (.tmp 5) (.tmp 11),none⟩]
def r19_4 : MCode := .region 4 q19_4_0 false [3, 5, 6, 7, 8]
theorem x19_4 : exec run esc l base r19_4 e σ = (stepOps run esc base q19_4_0 e σ).bind (Zk [3, 5, 6, 7, 8] base) := rfl
def q19_5_0 : List MOper := [⟨some 12,.fieldAddr 0 (.tmp 5),none⟩, ⟨some 13,.load false false 1 (.tmp 12),none⟩, ⟨some 14,.mov false (.tmp 3),none⟩, ⟨some 15,.bin .leq (.tmp 13) (.tmp 14),none⟩, ⟨some 16,.mov false (.tmp 15),none⟩, ⟨some 17,.load false true 4 (.tmp 5),some (16, false)⟩]
def q19_5_1 : List MOper := [⟨some 18,.call (.lit (.fn 41 [])) [(.tmp 17)],some (16, false)⟩, ⟨some 19,.un .not (.tmp 18),some (16, false)⟩, ⟨some 20,.pick (.tmp 16) (.lit (.bool true)) (.tmp 19),none⟩]
def r19_5 : MCode := .region 5 (q19_5_0 ++ q19_5_1) false [5, 6, 7, 8, 20]
theorem x19_5 : exec run esc l base r19_5 e σ = (stepOps run esc base q19_5_0 e σ).bind fun x => (stepOps run esc base q19_5_1 x.1 x.2).bind (Zk [5, 6, 7, 8, 20] base) := reg2
def q19_6_0 : List MOper := [⟨some 2,.mov false (.lit (.bool false)),none⟩]
def r19_6 : MCode := .region 6 q19_6_0 false [2]
theorem x19_6 : exec run esc l base r19_6 e σ = (stepOps run esc base q19_6_0 e σ).bind (Zk [2] base) := rfl
def q19_7_0 : List MOper := [⟨some 21,.fieldAddr 0 (.tmp 5),none⟩, ⟨some 22,.load false false 1 (.tmp 21),none⟩, ⟨some 3,.mov false (.tmp 22),none⟩]
def r19_7 : MCode := .region 7 q19_7_0 false [3, 6, 7, 8]
theorem x19_7 : exec run esc l base r19_7 e σ = (stepOps run esc base q19_7_0 e σ).bind (Zk [3, 6, 7, 8] base) := rfl
def q19_8_0 : List MOper := [⟨some 23,.bin .add (.tmp 8) (.lit (.int .i64 1)),none⟩, ⟨some 8,.mov false (.tmp 23),none⟩]
def r19_8 : MCode := .region 8 q19_8_0 false [3, 6, 7, 8]
theorem x19_8 : exec run esc l base r19_8 e σ = (stepOps run esc base q19_8_0 e σ).bind (Zk [3, 6, 7, 8] base) := rfl
def l19_0 : MCode := (.seq r19_3 (.seq (.cond (.tmp 9) .skip (.exit 0)) (.seq (.block 1 (.seq r19_4 (.seq (.seq r19_5 (.cond (.tmp 20) (.seq r19_6 .ret) .skip)) r19_7))) r19_8)))
def q19_9_0 : List MOper := [⟨some 2,.mov false (.lit (.bool true)),none⟩]
def r19_9 : MCode := .region 9 q19_9_0 false [2]
theorem x19_9 : exec run esc l base r19_9 e σ = (stepOps run esc base q19_9_0 e σ).bind (Zk [2] base) := rfl
def m19 : MFunc := ⟨(.seq r19_0 (.seq r19_1 (.seq (.seq r19_2 (.block 0 (.loop l19_0))) (.seq r19_9 .ret)))), [.tmp 2], false, false⟩
def q20_0_0 : List MOper := [⟨some 3,.box 1 (.tmp 1),none⟩, ⟨some 4,.alloc [(.int .i64 0), (.int .i64 0), (.int .i64 0), (.slice true [])],none⟩, ⟨some 5,.mov false (.lit (.bool false)),none⟩]
def r20_0 : MCode := .region 0 q20_0_0 false [0, 3, 4]
theorem x20_0 : exec run esc l base r20_0 e σ = (stepOps run esc base q20_0_0 e σ).bind (Zk [0, 3, 4] base) := rfl
def q20_1_0 : List MOper := [⟨some 7,.mov false (.tmp 0),none⟩, ⟨some 8,.mkfn 43 [(.tmp 3)],none⟩, ⟨some 9,.call (.lit (.fn 42 [])) [(.tmp 7), (.tmp 8)],none⟩, ⟨some 6,.mov false (.tmp 9),none⟩]
def r20_1 : MCode := .region 1 q20_1_0 false [0, 4, 6]
theorem x20_1 : exec run esc l base r20_1 e σ = (stepOps run esc base q20_1_0 e σ).bind (Zk [0, 4, 6] base) := rfl
def q20_2_0 : List MOper := [⟨some 10,.mov false (.tmp 6),none⟩, ⟨some 11,.mov false (.tmp 0),none⟩, ⟨some 12,.len false (.tmp 11),none⟩, ⟨some 13,.bin .eql (.tmp 10) (.tmp 12),none⟩]
def r20_2 : MCode := .region 2 q20_2_0 false [0, 4, 6, 13]
theorem x20_2 : exec run esc l base r20_2 e σ = (stepOps run esc base q20_2_0 e σ).bind (Zk [0, 4, 6, 13] base) := rfl
def q20_3_0 : List MOper := [⟨some 14,.load false true 4 (.tmp 4),none⟩, ⟨none,.store 4 (.tmp 4) (.tmp 14),none⟩, ⟨some 5,.mov false (.lit (.bool false)),none⟩]
def r20_3 : MCode := .region 3 q20_3_0 false [4, 5]
theorem x20_3 : exec run esc l base r20_3 e σ = (stepOps run esc base q20_3_0 e σ).bind (Zk [4, 5] base) := rfl
def q20_4_0 : List MOper := [⟨some 15,.mov false (.tmp 0),none⟩, ⟨some 16,.mov false (.tmp 6),none⟩, ⟨some 17,.index 4 (.tmp 15) (.tmp 16),none⟩, ⟨some 18,.load false true 4 (.tmp 17),none⟩, ⟨none,.store 4 (.tmp 4) (.tmp 18),none⟩, ⟨some 5,.mov false (.lit (.bool true)),none⟩]
def r20_4 : MCode := .region 4 q20_4_0 false [4, 5]
theorem x20_4 : exec run esc l base r20_4 e σ = (stepOps run esc base q20_4_0 e σ).bind (Zk [4, 5] base) := rfl
def m20 : MFunc := ⟨(.seq r20_0 (.seq r20_1 (.seq (.seq r20_2 (.cond (.tmp 13) (.seq r20_3 .ret) .skip)) (.seq r20_4 .ret)))), [.cell 4 true 4, .tmp 5], false, false⟩
def q21_0_0 : List MOper := [⟨some 4,.mov false (.lit (.bool false)),none⟩]
def r21_0 : MCode := .region 0 q21_0_0 false [0, 1]
theorem x21_0 : exec run esc l base r21_0 e σ = (stepOps run esc base q21_0_0 e σ).bind (Zk [0, 1] base) := rfl
def q21_1_0 : List MOper := [⟨some 5,.mov false (.tmp 0),none⟩, ⟨some 6,.mov false (.tmp 1),none⟩, ⟨some 7,.call (.lit (.fn 44 [])) [(.tmp 5), (.tmp 6), (.lit (.fn 45 []))],none⟩, ⟨some 4,.mov false (.tmp 7),none⟩]
def r21_1 : MCode := .region 1 q21_1_0 false [4]
theorem x21_1 : exec run esc l base r21_1 e σ = (stepOps run esc base q21_1_0 e σ).bind (Zk [4] base) := rfl
def m21 : MFunc := ⟨(.seq r21_0 (.seq r21_1 .ret)), [.tmp 4], false, false⟩
def q22_0_0 : List MOper := [⟨some 2,.box 4 (.tmp 0),none⟩, ⟨some 3,.box 4 (.tmp 1),none⟩, ⟨some 4,.mov false (.lit (.bool false)),none⟩]
def r22_0 : MCode := .region 0 q22_0_0 false [2, 3]
theorem x22_0 : exec run esc l base r22_0 e σ = (stepOps run esc base q22_0_0 e σ).bind (Zk [2, 3] base) := rfl
def q22_1_0 : List MOper := [⟨some 6,.fieldAddr 0 (.tmp 2),none⟩, ⟨some 7,.load false false 1 (.tmp 6),none⟩, ⟨some 8,.fieldAddr 0 (.tmp 3),none⟩, ⟨some 9,.load false false 1 (.tmp 8),none⟩, ⟨some 10,.bin .neq (.tmp 7) (.tmp 9),none⟩, ⟨some 11,.mov false (.tmp 10),none⟩]
def q22_1_1 : List MOper := [⟨some 12,.fieldAddr 1 (.tmp 2),some (11, false)⟩, ⟨some 13,.load false false 1 (.tmp 12),some (11, false)⟩, ⟨some 14,.fieldAddr 1 (.tmp 3),some (11, false)⟩, ⟨some 15,.load false false 1 (.tmp 14),some (11, false)⟩, ⟨some 16,.bin .neq (.tmp 13) (.tmp 15),some (11, false)⟩, ⟨some 17,.pick (.tmp 11) (.lit (.bool true)) (.tmp 16),none⟩]
def q22_1_2 : List MOper := [⟨some 18,.mov false (.tmp 17),none⟩, ⟨some 19,.fieldAddr 2 (.tmp 2),some (18, false)⟩, ⟨some 20,.load false false 1 (.tmp 19),some (18, false)⟩, ⟨some 21,.fieldAddr 2 (.tmp 3),some (18, false)⟩, ⟨some 22,.load false false 1 (.tmp 21),some (18, false)⟩, ⟨some 23,.bin .neq (.tmp 20) (.tmp 22),some (18, false)⟩]
def q22_1_3 : List MOper := [⟨some 24,.pick (.tmp 18) (.lit (.bool true)) (.tmp 23),none⟩, ⟨some 25,.mov false (.tmp 24),none⟩, ⟨some 26,.fieldAddr 3 (.tmp 2),some (25, false)⟩, ⟨some 27,.load false false 1 (.tmp 26),some (25, false)⟩, ⟨some 28,.len false (.tmp 27),some (25, false)⟩, ⟨some 29,.fieldAddr 3 (.tmp 3),some (25, false)⟩]
def q22_1_4 : List MOper := [⟨some 30,.load false false 1 (.tmp 29),some (25, false)⟩, ⟨some 31,.len false (.tmp 30),some (25, false)⟩, ⟨some 32,.bin .neq (.tmp 28) (.tmp 31),some (25, false)⟩, ⟨some 33,.pick (.tmp 25) (.lit (.bool true)) (.tmp 32),none⟩]
def r22_1 : MCode := .region 1 (q22_1_0 ++ (q22_1_1 ++ (q22_1_2 ++ (q22_1_3 ++ q22_1_4)))) false [2, 3, 33]
theorem x22_1 : exec run esc l base r22_1 e σ = (stepOps run esc base q22_1_0 e σ).bind fun x => (stepOps run esc base q22_1_1 x.1 x.2).bind fun x => (stepOps run esc base q22_1_2 x.1 x.2).bind fun x => (stepOps run esc base q22_1_3 x.1 x.2).bind fun x => (stepOps run esc base q22_1_4 x.1 x.2).bind (Zk [2, 3, 33] base) := by simp only [r22_1, regN, regA, Option.bind_assoc]
def q22_2_0 : List MOper := [⟨some 4,.mov false (.lit (.bool false)),none⟩]
def r22_2 : MCode := .region 2 q22_2_0 false [4]
theorem x22_2 : exec run esc l base r22_2 e σ = (stepOps run esc base q22_2_0 e σ).bind (Zk [4] base) := rfl
def q22_3_0 : List MOper := [⟨some 5,.mov false (.lit (.int .i64 0)),none⟩]
def r22_3 : MCode := .region 3 q22_3_0 false [2, 3, 5]
theorem x22_3 : exec run esc l base r22_3 e σ = (stepOps run esc base q22_3_0 e σ).bind (Zk [2, 3, 5] base) := rfl
def q22_4_0 : List MOper := [⟨some 34,.mov false (.tmp 5),none⟩, ⟨some 35,.fieldAddr 3 (.tmp 2),none⟩, ⟨some 36,.load false false 1 (.tmp 35),none⟩, ⟨some 37,.len false (.tmp 36),none⟩, ⟨some 38,.bin .lss (.tmp 34) (.tmp 37),none⟩]
def r22_4 : MCode := .region 4 q22_4_0 false [2, 3, 5, 38]
theorem x22_4 : exec run esc l base r22_4 e σ = (stepOps run esc base q22_4_0 e σ).bind (Zk [2, 3, 5, 38] base) := rfl
def q22_6_0 : List MOper := [⟨some 41,.fieldAddr 3 (.tmp 2),none⟩, ⟨some 42,.load false false 1 (.tmp 41),none⟩, ⟨some 43,.mov false (.tmp 5),none⟩, ⟨some 44,.index 3 (.tmp 42) (.tmp 43),none⟩, ⟨some 45,.load false true 3 (.tmp 44),none⟩, ⟨some 46,.fieldAddr 3 (.tmp 3),none⟩]
def q22_6_1 : List MOper := [⟨some 47,.load false false 1 (.tmp 46),none⟩, ⟨some 48,.mov false (.tmp 5),none⟩, ⟨some 49,.index 3 (.tmp 47) (.tmp 48),none⟩, ⟨some 50,.load false true 3 (.tmp 49),none⟩, ⟨some 51,.eqs true [0, 0, 0] (.tmp 45) (.tmp 50),none⟩]
def r22_6 : MCode := .region 6 (q22_6_0 ++ q22_6_1) true [2, 3, 5, 51]
theorem x22_6 : exec run esc l base r22_6 e σ = (stepOps run esc base q22_6_0 e σ).bind fun x => (stepOps run esc base q22_6_1 x.1 x.2).bind (Zk [2, 3, 5, 51] base) := reg2
def q22_7_0 : List MOper := [⟨some 4,.mov false (.lit (.bool false)),none⟩]
def r22_7 : MCode := .region 7 q22_7_0 false [4]
theorem x22_7 : exec run esc l base r22_7 e σ = (stepOps run esc base q22_7_0 e σ).bind (Zk [4] base) := rfl
def q22_5_0 : List MOper := [⟨some 39,.mov false (.tmp 5),none⟩, ⟨some 40,.bin .add (.tmp 39) (.lit (.int .i64 1)),none⟩, ⟨some 5,.mov false (.tmp 40),none⟩]
def r22_5 : MCode := .region 5 q22_5_0 false [2, 3, 5]
theorem x22_5 : exec run esc l base r22_5 e σ = (stepOps run esc base q22_5_0 e σ).bind (Zk [2, 3, 5] base) := rfl
def l22_0 : MCode := (.seq (.seq r22_4 (.cond (.tmp 38) .skip (.exit 0))) (.seq (.block 1 (.seq r22_6 (.cond (.tmp 51) (.seq r22_7 .ret) .skip))) r22_5))
def q22_8_0 : List MOper := [⟨some 4,.mov false (.lit (.bool true)),none⟩]
def r22_8 : MCode := .region 8 q22_8_0 false [4]
theorem x22_8 : exec run esc l base r22_8 e σ = (stepOps run esc base q22_8_0 e σ).bind (Zk [4] base) := rfl
def m22 : MFunc := ⟨(.seq r22_0 (.seq (.seq r22_1 (.cond (.tmp 33) (.seq r22_2 .ret) .skip)) (.seq (.seq r22_3 (.block 0 (.loop l22_0))) (.seq r22_8 .ret)))), [.tmp 4], false, false⟩
def q23_0_0 : List MOper := [⟨some 2,.mov false (.lit (.bool false)),none⟩]
def r23_0 : MCode := .region 0 q23_0_0 false [0]
theorem x23_0 : exec run esc l base r23_0 e σ = (stepOps run esc base q23_0_0 e σ).bind (Zk [0] base) := rfl
def q23_1_0 : List MOper := [⟨some 4,.mov false (.tmp 0),none⟩, ⟨some 5,.len false (.tmp 4),none⟩, ⟨some 6,.bin .gtr (.tmp 5) (.lit (.int .i64 200)),none⟩]
def r23_1 : MCode := .region 1 q23_1_0 false [0, 6]
theorem x23_1 : exec run esc l base r23_1 e σ = (stepOps run esc base q23_1_0 e σ).bind (Zk [0, 6] base) := rfl
def q23_2_0 : List MOper := [⟨some 2,.mov false (.lit (.bool true)),none⟩]
def r23_2 : MCode := .region 2 q23_2_0 false [2]
theorem x23_2 : exec run esc l base r23_2 e σ = (stepOps run esc base q23_2_0 e σ).bind (Zk [2] base) := rfl
def q23_3_0 : List MOper := [⟨some 3,.mov false (.lit (.int .i64 0)),none⟩]
def r23_3 : MCode := .region 3 q23_3_0 false [0, 3]
theorem x23_3 : exec run esc l base r23_3 e σ = (stepOps run esc base q23_3_0 e σ).bind (Zk [0, 3] base) := rfl
def q23_4_0 : List MOper := [⟨some 7,.mov false (.tmp 3),none⟩, ⟨some 8,.mov false (.tmp 0),none⟩, ⟨some 9,.len false (.tmp 8),none⟩, ⟨some 10,.bin .lss (.tmp 7) (.tmp 9),none⟩]
def r23_4 : MCode := .region 4 q23_4_0 false [0, 3, 10]
theorem x23_4 : exec run esc l base r23_4 e σ = (stepOps run esc base q23_4_0 e σ).bind (Zk [0, 3, 10] base) := rfl
def q23_6_0 : List MOper := [⟨some 13,.mov false (.tmp 0),none⟩, ⟨some 14,.mov false (.tmp 3),none⟩, ⟨some 15,.index 18 (.tmp 13) (.tmp 14),none⟩, ⟨some 16,.load false true 18 (.tmp 15),none⟩, ⟨some 17,.call (.lit (.fn 46 [])) [(.tmp 16)],none⟩]
def r23_6 : MCode := .region 6 q23_6_0 false [0, 3, 17]
theorem x23_6 : exec run esc l base r23_6 e σ = (stepOps run esc base q23_6_0 e σ).bind (Zk [0, 3, 17] base) := rfl
def q23_7_0 : List MOper := [⟨some 2,.mov false (.lit (.bool true)),none⟩]
def r23_7 : MCode := .region 7 q23_7_0 false [2]
theorem x23_7 : exec run esc l base r23_7 e σ = (stepOps run esc base q23_7_0 e σ).bind (Zk [2] base) := rfl
def q23_5_0 : List MOper := [⟨some 11,.mov false (.tmp 3),none⟩, ⟨some 12,.bin .add (.tmp 11) (.lit (.int .i64 1)),none⟩, ⟨some 3,.mov false (.tmp 12),none⟩]
def r23_5 : MCode := .region 5 q23_5_0 false [0, 3]
theorem x23_5 : exec run esc l base r23_5 e σ = (stepOps run esc base q23_5_0 e σ).bind (Zk [0, 3] base) := rfl
def l23_0 : MCode := (.seq (.seq r23_4 (.cond (.tmp 10) .skip (.exit 0))) (.seq (.block 1 (.seq r23_6 (.cond (.tmp 17) (.seq r23_7 .ret) .skip))) r23_5))
def q23_8_0 : List MOper := [⟨some 2,.mov false (.lit (.bool false)),none⟩]
def r23_8 : MCode := .region 8 q23_8_0 false [2]
theorem x23_8 : exec run esc l base r23_8 e σ = (stepOps run esc base q23_8_0 e σ).bind (Zk [2] base) := rfl
def m23 : MFunc := ⟨(.seq r23_0 (.seq (.seq r23_1 (.cond (.tmp 6) (.seq r23_2 .ret) .skip)) (.seq (.seq r23_3 (.block 0 (.loop l23_0))) (.seq r23_8 .ret)))), [.tmp 2], false, false⟩
def q24_0_0 : List MOper := [⟨some 0,.mov false (.lit (.bool false)),none⟩]
def r24_0 : MCode := .region 0 q24_0_0 false []
theorem x24_0 : exec run esc l base r24_0 e σ = (stepOps run esc base q24_0_0 e σ).bind (Zk [] base) := rfl
def q24_1_0 : List MOper := [⟨some 4,.call (.lit (.fn 47 [])) [(.lit (.str [97]))],none⟩, ⟨some 5,.call (.lit (.fn 47 [])) [(.lit (.str [98]))],none⟩, ⟨some 6,.append false 2 32 (.tmp 4) (.tmp 5),none⟩, ⟨some 1,.mov true (.tmp 6),none⟩]
def r24_1 : MCode := .region 1 q24_1_0 false [1]
theorem x24_1 : exec run esc l base r24_1 e σ = (stepOps run esc base q24_1_0 e σ).bind (Zk [1] base) := rfl
def q24_2_0 : List MOper := [⟨some 8,.mov false (.tmp 1),none⟩, ⟨some 9,.build [(.int .i64 0), (.int .i64 0), (.int .i64 0), (.bool false), (.slice true [])] [(0, 1, (.lit (.int .i64 1))), (3, 1, (.lit (.bool true))), (4, 1, (.tmp 8))],none⟩, ⟨some 10,.build [(.int .i8 0), (.int .i64 0), (.int .i64 0), (.int .i64 0), (.bool false), (.slice true []), (.bool false), (.int .i64 0), (.int .i64 0), (.int .i64 0), (.int .i64 0), (.int .i64 0), (.str []), (.str []), (.int .i64 0), (.int .i64 0), (.int .i64 0), (.slice true [])] [(1, 5, (.tmp 9))],none⟩, ⟨some 11,.call (.lit (.fn 47 [])) [(.lit (.str [99]))],none⟩, ⟨some 12,.build [(.int .i64 0), (.int .i64 0), (.int .i64 0), (.bool false), (.slice true [])] [(0, 1, (.lit (.int .i64 2))), (4, 1, (.tmp 11))],none⟩, ⟨some 13,.build [(.int .i8 0), (.int .i64 0), (.int .i64 0), (.int .i64 0), (.bool false), (.slice true []), (.bool false), (.int .i64 0), (.int .i64 0), (.int .i64 0), (.int .i64 0), (.int .i64 0), (.str []), (.str []), (.int .i64 0), (.int .i64 0), (.int .i64 0), (.slice true [])] [(1, 5, (.tmp 12))],none⟩]
def q24_2_1 : List MOper := [⟨some 14,.build [(.int .i64 0), (.int .i64 0), (.int .i64 0), (.bool false), (.slice true [])] [(0, 1, (.lit (.int .i64 1)))],none⟩, ⟨some 15,.build [(.int .i8 0), (.int .i64 0), (.int .i64 0), (.int .i64 0), (.bool false), (.slice true []), (.bool false), (.int .i64 0), (.int .i64 0), (.int .i64 0), (.int .i64 0), (.int .i64 0), (.str []), (.str []), (.int .i64 0), (.int .i64 0), (.int .i64 0), (.slice true [])] [(0, 1, (.lit (.int .i8 1))), (1, 5, (.tmp 14)), (6, 1, (.lit (.bool true)))],none⟩, ⟨some 16,.buildSlice 18 [(.tmp 10), (.tmp 13), (.tmp 15)],none⟩, ⟨some 17,.call (.lit (.fn 25 [])) [(.tmp 16)],none⟩, ⟨some 7,.mov false (.tmp 17),none⟩, ⟨some 18,.extract 0 (.tmp 7),none⟩]
def q24_2_2 : List MOper := [⟨some 19,.extract 1 (.tmp 7),none⟩, ⟨some 2,.alloc [(.int .i64 0), (.int .i64 0), (.slice true []), (.slice true []), (.slice true [])],none⟩, ⟨none,.store 5 (.tmp 2) (.tmp 18),none⟩, ⟨some 3,.mov false (.tmp 19),none⟩]
def r24_2 : MCode := .region 2 (q24_2_0 ++ (q24_2_1 ++ q24_2_2)) false [2, 3]
theorem x24_2 : exec run esc l base r24_2 e σ = (stepOps run esc base q24_2_0 e σ).bind fun x => (stepOps run esc base q24_2_1 x.1 x.2).bind fun x => (stepOps run esc base q24_2_2 x.1 x.2).bind (Zk [2, 3] base) := by simp only [r24_2, regN, regA, Option.bind_assoc]
def q24_3_0 : List MOper := [⟨some 20,.mov false (.tmp 3),none⟩, ⟨some 21,.bin .eql (.tmp 20) (.lit (.int .i64 0)),none⟩, ⟨some 22,.mov false (.tmp 21),none⟩, ⟨some 23,.fieldAddr 1 (.tmp 2),some (22, true)⟩, ⟨some 24,.load false false 1 (.tmp 23),some (22, true)⟩, ⟨some 25,.bin .eql (.tmp 24) (.lit (.int .i64 4)),some (22, true)⟩]
def q24_3_1 : List MOper := [⟨some 26,.pick (.tmp 22) (.tmp 25) (.lit (.bool false)),none⟩, ⟨some 27,.mov false (.tmp 26),none⟩, ⟨some 28,.fieldAddr 2 (.tmp 2),some (27, true)⟩, ⟨some 29,.load false false 1 (.tmp 28),some (27, true)⟩, ⟨some 30,.len false (.tmp 29),some (27, true)⟩, ⟨some 31,.bin .eql (.tmp 30) (.lit (.int .i64 3)),some (27, true)⟩]
def q24_3_2 : List MOper := [⟨some 32,.pick (.tmp 27) (.tmp 31) (.lit (.bool false)),none⟩, ⟨some 33,.mov false (.tmp 32),none⟩, ⟨some 34,.fieldAddr 2 (.tmp 2),some (33, true)⟩, ⟨some 35,.load false false 1 (.tmp 34),some (33, true)⟩, ⟨some 36,.index 5 (.tmp 35) (.lit (.int .i64 0)),some (33, true)⟩, ⟨some 37,.fieldAddr 3 (.tmp 36),some (33, true)⟩]
def q24_3_3 : List MOper := [⟨some 38,.load false false 1 (.tmp 37),some (33, true)⟩, ⟨some 39,.bin .eql (.tmp 38) (.lit (.str [99])),some (33, true)⟩, ⟨some 40,.pick (.tmp 33) (.tmp 39) (.lit (.bool false)),none⟩, ⟨some 41,.mov false (.tmp 40),none⟩, ⟨some 42,.fieldAddr 2 (.tmp 2),some (41, true)⟩, ⟨some 43,.load false false 1 (.tmp 42),some (41, true)⟩]
def q24_3_4 : List MOper := [⟨some 44,.index 5 (.tmp 43) (.lit (.int .i64 1)),some (41, true)⟩, ⟨some 45,.fieldAddr 0 (.tmp 44),some (41, true)⟩, ⟨some 46,.load false false 1 (.tmp 45),some (41, true)⟩, ⟨some 47,.bin .eql (.tmp 46) (.lit (.int .i64 1)),some (41, true)⟩, ⟨some 48,.pick (.tmp 41) (.tmp 47) (.lit (.bool false)),none⟩, ⟨some 49,.mov false (.tmp 48),none⟩]
def q24_3_5 : List MOper := [⟨some 50,.fieldAddr 2 (.tmp 2),some (49, true)⟩, ⟨some 51,.load false false 1 (.tmp 50),some (49, true)⟩, ⟨some 52,.index 5 (.tmp 51) (.lit (.int .i64 2)),some (49, true)⟩, ⟨some 53,.fieldAddr 3 (.tmp 52),some (49, true)⟩, ⟨some 54,.load false false 1 (.tmp 53),some (49, true)⟩, ⟨some 55,.bin .eql (.tmp 54) (.lit (.str [98])),some (49, true)⟩]
def q24_3_6 : List MOper := [⟨some 56,.pick (.tmp 49) (.tmp 55) (.lit (.bool false)),none⟩, ⟨some 57,.mov false (.tmp 56),none⟩, ⟨some 58,.fieldAddr 3 (.tmp 2),some (57, true)⟩, ⟨some 59,.load false false 1 (.tmp 58),some (57, true)⟩, ⟨some 60,.len false (.tmp 59),some (57, true)⟩, ⟨some 61,.bin .eql (.tmp 60) (.lit (.int .i64 0)),some (57, true)⟩]
def q24_3_7 : List MOper := [⟨some 62,.pick (.tmp 57) (.tmp 61) (.lit (.bool false)),none⟩, ⟨some 0,.mov false (.tmp 62),none⟩]
def r24_3 : MCode := .region 3 (q24_3_0 ++ (q24_3_1 ++ (q24_3_2 ++ (q24_3_3 ++ (q24_3_4 ++ (q24_3_5 ++ (q24_3_6 ++ q24_3_7))))))) false [0]
theorem x24_3 : exec run esc l base r24_3 e σ = (stepOps run esc base q24_3_0 e σ).bind fun x => (stepOps run esc base q24_3_1 x.1 x.2).bind fun x => (stepOps run esc base q24_3_2 x.1 x.2).bind fun x => (stepOps run esc base q24_3_3 x.1 x.2).bind fun x => (stepOps run esc base q24_3_4 x.1 x.2).bind fun x => (stepOps run esc base q24_3_5 x.1 x.2).bind fun x => (stepOps run esc base q24_3_6 x.1 x.2).bind fun x => (stepOps run esc base q24_3_7 x.1 x.2).bind (Zk [0] base) := by simp only [r24_3, regN, regA, Option.bind_assoc]
def m24 : MFunc := ⟨(.seq r24_0 (.seq r24_1 (.seq r24_2 (.seq r24_3 .ret)))), [.tmp 0], false, false⟩
def q25_0_0 : List MOper := [⟨some 2,.alloc [(.int .i64 0), (.int .i64 0), (.slice true []), (.slice true []), (.slice true [])],none⟩, ⟨some 3,.mov false (.lit (.int .i64 0)),none⟩]
def r25_0 : MCode := .region 0 q25_0_0 false [0, 2]
theorem x25_0 : exec run esc l base r25_0 e σ = (stepOps run esc base q25_0_0 e σ).bind (Zk [0, 2] base) := rfl
def q25_1_0 : List MOper := [⟨some 9,.build [(.int .i64 0), (.int .i64 0), (.slice true []), (.slice true []), (.slice true [])] [],none⟩, ⟨some 10,.box 5 (.tmp 9),none⟩, ⟨some 4,.mov false (.tmp 10),none⟩]
def r25_1 : MCode := .region 1 q25_1_0 false [0, 2, 4]
theorem x25_1 : exec run esc l base r25_1 e σ = (stepOps run esc base q25_1_0 e σ).bind (Zk [0, 2, 4] base) := rfl
def q25_2_0 : List MOper := [⟨some 5,.mov false (.lit (.fn 48 [])),none⟩]
def r25_2 : MCode := .region 2 q25_2_0 false [0, 2, 4, 5]
theorem x25_2 : exec run esc l base r25_2 e σ = (stepOps run esc base q25_2_0 e σ).bind (Zk [0, 2, 4, 5] base) := rfl
def q25_3_0 : List MOper := [⟨some 11,.mov false (.tmp 0),none⟩, ⟨some 12,.len false (.tmp 11),none⟩, ⟨some 13,.mov false (.lit (.int .i64 0)),none⟩]
def r25_3 : MCode := .region 3 q25_3_0 false [2, 4, 5, 11, 12, 13]
theorem x25_3 : exec run esc l base r25_3 e σ = (stepOps run esc base q25_3_0 e σ).bind (Zk [2, 4, 5, 11, 12, 13] base) := rfl
def q25_4_0 : List MOper := [⟨some 14,.bin .lss (.tmp 13) (.tmp 12),none⟩]
def r25_4 : MCode := .region 4 q25_4_0 false [2, 4, 5, 11, 12, 13, 14]
theorem x25_4 : exec run esc l base r25_4 e σ = (stepOps run esc base q25_4_0 e σ).bind (Zk [2, 4, 5, 11, 12, 13, 14] base) := rfl
def q25_5_0 : List MOper := [⟨some 15,.index 18 (.tmp 11) (.tmp 13),none⟩, ⟨some 16,.load false true 18 (.tmp 15),none⟩, ⟨some 7,.alloc [(.int .i8 0), (.int .i64 0), (.int .i64 0), (.int .i64 0), (.bool false), (.slice true []), (.bool false), (.int .i64 0), (.int .i64 0), (.int .i64 0), (.int .i64 0), (.int .i64 0), (.str []), (.str []), (.int .i64 0), (.int .i64 0), (.int .i64 0), (.slice true [])],none⟩, ⟨none,.store 18 (.tmp 7) (.tmp 16),none⟩]
def r25_5 : MCode := .region 5 q25_5_0 false [2, 4, 5, 7, 11, 12, 13]
theorem x25_5 : exec run esc l base r25_5 e σ = (stepOps run esc base q25_5_0 e σ).bind (Zk [2, 4, 5, 7, 11, 12, 13] base) := rfl
def q25_6_0 : List MOper := [⟨some 17,.mov false (.tmp 5),none⟩, ⟨some 18,.mov false (.tmp 4),none⟩, ⟨some 19,.load false true 18 (.tmp 7),none⟩, ⟨some 20,.call (.tmp 17) [(.tmp 18), (.tmp 19)],none⟩, ⟨some 8,.mov false (.tmp 20),none⟩]
def r25_6 : MCode := .region 6 q25_6_0 false [2, 4, 5, 8, 11, 12, 13]
theorem x25_6 : exec run esc l base r25_6 e σ = (stepOps run esc base q25_6_0 e σ).bind (Zk [2, 4, 5, 8, 11, 12, 13] base) := rfl
def q25_7_0 : List MOper := [⟨some 21,.mov false (.tmp 8),none⟩, ⟨some 22,.bin .neq (.tmp 21) (.lit (.int .i64 0)),none⟩]
def r25_7 : MCode := .region 7 q25_7_0 false [2, 4, 5, 8, 11, 12, 13, 22]
theorem x25_7 : exec run esc l base r25_7 e σ = (stepOps run esc base q25_7_0 e σ).bind (Zk [2, 4, 5, 8, 11, 12, 13, 22] base) := rfl
def q25_8_0 : List MOper := [⟨some 23,.build [(.int .i64 0), (.int .i64 0), (.slice true []), (.slice true []), (.slice true [])] [],none⟩, ⟨some 24,.mov false (.tmp 8),none⟩, ⟨none,.store 5 (.tmp 2) (.tmp 23),none⟩, ⟨some 3,.mov false (.tmp 24),none⟩]
def r25_8 : MCode := .region 8 q25_8_0 false [2, 3]
theorem x25_8 : exec run esc l base r25_8 e σ = (stepOps run esc base q25_8_0 e σ).bind (Zk [2, 3] base) := rfl
def q25_9_0 : List MOper := [⟨some 25,.bin .add (.tmp 13) (.lit (.int .i64 1)),none⟩, ⟨some 13,.mov false (.tmp 25),none⟩]
def r25_9 : MCode := .region 9 q25_9_0 false [2, 4, 5, 11, 12, 13]
theorem x25_9 : exec run esc l base r25_9 e σ = (stepOps run esc base q25_9_0 e σ).bind (Zk [2, 4, 5, 11, 12, 13] base) := rfl
def l25_0 : MCode := (.seq r25_4 (.seq (.cond (.tmp 14) .skip (.exit 0)) (.seq (.block 1 (.seq r25_5 (.seq r25_6 (.seq r25_7 (.cond (.tmp 22) (.seq r25_8 .ret) .skip))))) r25_9)))
def q25_10_0 : List MOper := [⟨some 26,.mov false (.tmp 4),none⟩, ⟨some 27,.nilCheck (.tmp 26),none⟩, ⟨some 28,.fieldAddr 0 (.tmp 27),none⟩, ⟨some 29,.load false true 5 (.tmp 28),none⟩, ⟨none,.store 5 (.tmp 2) (.tmp 29),none⟩, ⟨some 3,.mov false (.lit (.int .i64 0)),none⟩]
def r25_10 : MCode := .region 10 q25_10_0 false [2, 3]
theorem x25_10 : exec run esc l base r25_10 e σ = (stepOps run esc base q25_10_0 e σ).bind (Zk [2, 3] base) := rfl
def m25 : MFunc := ⟨(.seq r25_0 (.seq r25_1 (.seq r25_2 (.seq (.seq r25_3 (.block 0 (.loop l25_0))) (.seq r25_10 .ret))))), [.cell 2 true 5, .tmp 3], false, false⟩
def q26_0_0 : List MOper := [⟨some 2,.box 5 (.tmp 0),none⟩, ⟨some 4,.mov true (.lit (.slice true [])),none⟩]
def r26_0 : MCode := .region 0 q26_0_0 false [1, 2]
theorem x26_0 : exec run esc l base r26_0 e σ = (stepOps run esc base q26_0_0 e σ).bind (Zk [1, 2] base) := rfl
def q26_1_0 : List MOper := [⟨some 5,.mov true (.lit (.slice true [])),none⟩]
def r26_1 : MCode := .region 1 q26_1_0 false [1, 2, 5]
theorem x26_1 : exec run esc l base r26_1 e σ = (stepOps run esc base q26_1_0 e σ).bind (Zk [1, 2, 5] base) := rfl
def q26_2_0 : List MOper := [⟨some 6,.mov false (.lit (.int .i64 0)),none⟩]
def r26_2 : MCode := .region 2 q26_2_0 false [1, 2, 5, 6]
theorem x26_2 : exec run esc l base r26_2 e σ = (stepOps run esc base q26_2_0 e σ).bind (Zk [1, 2, 5, 6] base) := rfl
def q26_3_0 : List MOper := [⟨some 8,.mov false (.tmp 6),none⟩, ⟨some 9,.fieldAddr 4 (.tmp 2),none⟩, ⟨some 10,.load false false 1 (.tmp 9),none⟩, ⟨some 11,.len false (.tmp 10),none⟩, ⟨some 12,.bin .lss (.tmp 8) (.tmp 11),none⟩]
def r26_3 : MCode := .region 3 q26_3_0 false [1, 2, 5, 6, 12]
theorem x26_3 : exec run esc l base r26_3 e σ = (stepOps run esc base q26_3_0 e σ).bind (Zk [1, 2, 5, 6, 12] base) := rfl
def q26_5_0 : List MOper := [⟨some 15,.mov false (.tmp 1),none⟩, ⟨some 16,.mov false (.tmp 6),none⟩, ⟨some 17,.bin .add (.tmp 15) (.tmp 16),none⟩, ⟨some 18,.fieldAddr 0 (.tmp 2),none⟩, ⟨some 19,.load false false 1 (.tmp 18),none⟩, ⟨some 20,.fieldAddr 2 (.tmp 2),none⟩]
def q26_5_1 : List MOper := [⟨some 21,.load false false 1 (.tmp 20),none⟩, ⟨some 22,.mov false (.tmp 6),none⟩, ⟨some 23,.bin .add (.tmp 21) (.tmp 22),none⟩, ⟨some 24,.fieldAddr 4 (.tmp 2),none⟩, ⟨some 25,.load false false 1 (.tmp 24),none⟩, ⟨some 26,.mov false (.tmp 6),none⟩]
def q26_5_2 : List MOper := [⟨some 27,.index 2 (.tmp 25) (.tmp 26),none⟩, ⟨some 28,.fieldAddr 0 (.tmp 27),none⟩, ⟨some 29,.load false false 1 (.tmp 28),none⟩, ⟨some 30,.fieldAddr 4 (.tmp 2),none⟩, ⟨some 31,.load false false 1 (.tmp 30),none⟩, ⟨some 32,.mov false (.tmp 6),none⟩]
def q26_5_3 : List MOper := [⟨some 33,.index 2 (.tmp 31) (.tmp 32),none⟩, ⟨some 34,.fieldAddr 1 (.tmp 33),none⟩, ⟨some 35,.load false false 1 (.tmp 34),none⟩, ⟨some 36,.build [(.int .i64 0), (.int .i64 0), (.int .i64 0), (.str []), (.str [])] [(0, 1, (.tmp 17)), (1, 1, (.tmp 19)), (2, 1, (.tmp 23)), (3, 1, (.tmp 29)), (4, 1, (.tmp 35))],none⟩, ⟨some 7,.alloc [(.int .i64 0), (.int .i64 0), (.int .i64 0), (.str []), (.str [])],none⟩, ⟨none,.store 5 (.tmp 7) (.tmp 36),none⟩]
def r26_5 : MCode := .region 5 (q26_5_0 ++ (q26_5_1 ++ (q26_5_2 ++ q26_5_3))) true [1, 2, 5, 6, 7]
theorem x26_5 : exec run esc l base r26_5 e σ = (stepOps run esc base q26_5_0 e σ).bind fun x => (stepOps run esc base q26_5_1 x.1 x.2).bind fun x => (stepOps run esc base q26_5_2 x.1 x.2).bind fun x => (stepOps run esc base q26_5_3 x.1 x.2).bind (Zk [1, 2, 5, 6, 7] base) := by simp only [r26_5, regN, regA, Option.bind_assoc]
def q26_6_0 : List MOper := [⟨some 37,.mov false (.tmp 1),none⟩, ⟨some 38,.bin .eql (.tmp 37) (.lit (.int .i64 (-1))),none⟩]
def r26_6 : MCode := .region 6 q26_6_0 false [1, 2, 5, 6, 7, 38]
theorem x26_6 : exec run esc l base r26_6 e σ = (stepOps run esc base q26_6_0 e σ).bind (Zk [1, 2, 5, 6, 7, 38] base) := rfl
def q26_7_0 : List MOper := [⟨some 39,.fieldAddr 0 (.tmp 7),none⟩, ⟨none,.store 1 (.tmp 39) (.lit (.int .i64 (-1))),none⟩]
def r26_7 : MCode := .region 7 q26_7_0 false [1, 2, 5, 6, 7]
theorem x26_7 : exec run esc l base r26_7 e σ = (stepOps run esc base q26_7_0 e σ).bind (Zk [1, 2, 5, 6, 7] base) := rfl
def q26_8_0 : List MOper := [⟨some 40,.mov true (.tmp 5),none⟩, ⟨some 41,.load false true 5 (.tmp 7),none⟩, ⟨some 42,.buildSlice 5 [(.tmp 41)],none⟩, ⟨some 43,.append false 5 56 (.tmp 40) (.tmp 42),none⟩, ⟨some 5,.mov true (.tmp 43),none⟩]
def r26_8 : MCode := .region 8 q26_8_0 false [1, 2, 5, 6]
theorem x26_8 : exec run esc l base r26_8 e σ = (stepOps run esc base q26_8_0 e σ).bind (Zk [1, 2, 5, 6] base) := rfl
def q26_4_0 : List MOper := [⟨some 13,.mov false (.tmp 6),none⟩, ⟨some 14,.bin .add (.tmp 13) (.lit (.int .i64 1)),none⟩, ⟨some 6,.mov false (.tmp 14),none⟩]
def r26_4 : MCode := .region 4 q26_4_0 false [1, 2, 5, 6]
theorem x26_4 : exec run esc l base r26_4 e σ = (stepOps run esc base q26_4_0 e σ).bind (Zk [1, 2, 5, 6] base) := rfl
def l26_0 : MCode := (.seq (.seq r26_3 (.cond (.tmp 12) .skip (.exit 0))) (.seq (.block 1 (.seq r26_5 (.seq (.seq r26_6 (.cond (.tmp 38) r26_7 .skip)) r26_8))) r26_4))
def q26_9_0 : List MOper := [⟨some 44,.mov true (.tmp 5),none⟩, ⟨some 4,.mov true (.tmp 44),none⟩]
def r26_9 : MCode := .region 9 q26_9_0 false [4]
theorem x26_9 : exec run esc l base r26_9 e σ = (stepOps run esc base q26_9_0 e σ).bind (Zk [4] base) := rfl
def m26 : MFunc := ⟨(.seq r26_0 (.seq r26_1 (.seq (.seq r26_2 (.block 0 (.loop l26_0))) (.seq r26_9 .ret)))), [.tmp 4], false, false⟩
def q27_0_0 : List MOper := [⟨some 4,.mov false (.lit (.bool false)),none⟩]
def r27_0 : MCode := .region 0 q27_0_0 false [0, 1]
theorem x27_0 : exec run esc l base r27_0 e σ = (stepOps run esc base q27_0_0 e σ).bind (Zk [0, 1] base) := rfl
def q27_1_0 : List MOper := [⟨some 6,.mov false (.tmp 0),none⟩, ⟨some 7,.len false (.tmp 6),none⟩, ⟨some 8,.mov false (.tmp 1),none⟩, ⟨some 9,.len false (.tmp 8),none⟩, ⟨some 10,.bin .neq (.tmp 7) (.tmp 9),none⟩]
def r27_1 : MCode := .region 1 q27_1_0 false [0, 1, 10]
theorem x27_1 : exec run esc l base r27_1 e σ = (stepOps run esc base q27_1_0 e σ).bind (Zk [0, 1, 10] base) := rfl
def q27_2_0 : List MOper := [⟨some 4,.mov false (.lit (.bool false)),none⟩]
def r27_2 : MCode := .region 2 q27_2_0 false [4]
theorem x27_2 : exec run esc l base r27_2 e σ = (stepOps run esc base q27_2_0 e σ).bind (Zk [4] base) := rfl
def q27_3_0 : List MOper := [⟨some 5,.mov false (.lit (.int .i64 0)),none⟩]
def r27_3 : MCode := .region 3 q27_3_0 false [0, 1, 5]
theorem x27_3 : exec run esc l base r27_3 e σ = (stepOps run esc base q27_3_0 e σ).bind (Zk [0, 1, 5] base) := rfl
def q27_4_0 : List MOper := [⟨some 11,.mov false (.tmp 5),none⟩, ⟨some 12,.mov false (.tmp 0),none⟩, ⟨some 13,.len false (.tmp 12),none⟩, ⟨some 14,.bin .lss (.tmp 11) (.tmp 13),none⟩]
def r27_4 : MCode := .region 4 q27_4_0 false [0, 1, 5, 14]
theorem x27_4 : exec run esc l base r27_4 e σ = (stepOps run esc base q27_4_0 e σ).bind (Zk [0, 1, 5, 14] base) := rfl
def q27_6_0 : List MOper := [⟨some 17,.mov false (.tmp 0),none⟩, ⟨some 18,.mov false (.tmp 5),none⟩, ⟨some 19,.index 5 (.tmp 17) (.tmp 18),none⟩, ⟨some 20,.load false true 5 (.tmp 19),none⟩, ⟨some 21,.mov false (.tmp 1),none⟩, ⟨some 22,.mov false (.tmp 5),none⟩]
def q27_6_1 : List MOper := [⟨some 23,.index 5 (.tmp 21) (.tmp 22),none⟩, ⟨some 24,.load false true 5 (.tmp 23),none⟩, ⟨some 25,.eqs true [0, 0, 0, 2, 2] (.tmp 20) (.tmp 24),none⟩]
def r27_6 : MCode := .region 6 (q27_6_0 ++ q27_6_1) true [0, 1, 5, 25]
theorem x27_6 : exec run esc l base r27_6 e σ = (stepOps run esc base q27_6_0 e σ).bind fun x => (stepOps run esc base q27_6_1 x.1 x.2).bind (Zk [0, 1, 5, 25] base) := reg2
def q27_7_0 : List MOper := [⟨some 4,.mov false (.lit (.bool false)),none⟩]
def r27_7 : MCode := .region 7 q27_7_0 false [4]
theorem x27_7 : exec run esc l base r27_7 e σ = (stepOps run esc base q27_7_0 e σ).bind (Zk [4] base) := rfl
def q27_5_0 : List MOper := [⟨some 15,.mov false (.tmp 5),none⟩, ⟨some 16,.bin .add (.tmp 15) (.lit (.int .i64 1)),none⟩, ⟨some 5,.mov false (.tmp 16),none⟩]
def r27_5 : MCode := .region 5 q27_5_0 false [0, 1, 5]
theorem x27_5 : exec run esc l base r27_5 e σ = (stepOps run esc base q27_5_0 e σ).bind (Zk [0, 1, 5] base) := rfl
def l27_0 : MCode := (.seq (.seq r27_4 (.cond (.tmp 14) .skip (.exit 0))) (.seq (.block 1 (.seq r27_6 (.cond (.tmp 25) (.seq r27_7 .ret) .skip))) r27_5))
def q27_8_0 : List MOper := [⟨some 4,.mov false (.lit (.bool true)),none⟩]
def r27_8 : MCode := .region 8 q27_8_0 false [4]
theorem x27_8 : exec run esc l base r27_8 e σ = (stepOps run esc base q27_8_0 e σ).bind (Zk [4] base) := rfl
def m27 : MFunc := ⟨(.seq r27_0 (.seq (.seq r27_1 (.cond (.tmp 10) (.seq r27_2 .ret) .skip)) (.seq (.seq r27_3 (.block 0 (.loop l27_0))) (.seq r27_8 .ret)))), [.tmp 4], false, false⟩
def q28_0_0 : List MOper := [⟨some 2,.box 5 (.tmp 0),none⟩, ⟨some 3,.box 5 (.tmp 1),none⟩, ⟨some 4,.mov false (.lit (.bool false)),none⟩]
def r28_0 : MCode := .region 0 q28_0_0 false [2, 3]
theorem x28_0 : exec run esc l base r28_0 e σ = (stepOps run esc base q28_0_0 e σ).bind (Zk [2, 3] base) := rfl
def q28_1_0 : List MOper := [⟨some 5,.fieldAddr 0 (.tmp 2),none⟩, ⟨some 6,.load false false 1 (.tmp 5),none⟩, ⟨some 7,.fieldAddr 0 (.tmp 3),none⟩, ⟨some 8,.load false false 1 (.tmp 7),none⟩, ⟨some 9,.bin .neq (.tmp 6) (.tmp 8),none⟩, ⟨some 10,.mov false (.tmp 9),none⟩]
def q28_1_1 : List MOper := [⟨some 11,.fieldAddr 1 (.tmp 2),some (10, false)⟩, ⟨some 12,.load false false 1 (.tmp 11),some (10, false)⟩, ⟨some 13,.fieldAddr 1 (.tmp 3),some (10, false)⟩, ⟨some 14,.load false false 1 (.tmp 13),some (10, false)⟩, ⟨some 15,.bin .neq (.tmp 12) (.tmp 14),some (10, false)⟩, ⟨some 16,.pick (.tmp 10) (.lit (.bool true)) (.tmp 15),none⟩]
def q28_1_2 : List MOper := [⟨some 17,.mov false (.tmp 16),none⟩, ⟨some 18,.fieldAddr 2 (.tmp 2),some (17, false)⟩, ⟨some 19,.load false false 1 (.tmp 18),some (17, false)⟩, ⟨some 20,.fieldAddr 2 (.tmp 3),some (17, false)⟩, ⟨some 21,.load false false 1 (.tmp 20),some (17, false)⟩, ⟨some 22,.call (.lit (.fn 27 [])) [(.tmp 19), (.tmp 21)],some (17, false)⟩]
def q28_1_3 : List MOper := [⟨some 23,.un .not (.tmp 22),some (17, false)⟩, ⟨some 24,.pick (.tmp 17) (.lit (.bool true)) (.tmp 23),none⟩, ⟨some 25,.mov false (.tmp 24),none⟩, ⟨some 26,.fieldAddr 3 (.tmp 2),some (25, false)⟩, ⟨some 27,.load false false 1 (.tmp 26),some (25, false)⟩, ⟨some 28,.fieldAddr 3 (.tmp 3),some (25, false)⟩]
def q28_1_4 : List MOper := [⟨some 29,.load false false 1 (.tmp 28),some (25, false)⟩, ⟨some 30,.call (.lit (.fn 30 [])) [(.tmp 27), (.tmp 29)],some (25, false)⟩, ⟨some 31,.un .not (.tmp 30),some (25, false)⟩, ⟨some 32,.pick (.tmp 25) (.lit (.bool true)) (.tmp 31),none⟩]
def r28_1 : MCode := .region 1 (q28_1_0 ++ (q28_1_1 ++ (q28_1_2 ++ (q28_1_3 ++ q28_1_4)))) false [2, 3, 32]
theorem x28_1 : exec run esc l base r28_1 e σ = (stepOps run esc base q28_1_0 e σ).bind fun x => (stepOps run esc base q28_1_1 x.1 x.2).bind fun x => (stepOps run esc base q28_1_2 x.1 x.2).bind fun x => (stepOps run esc base q28_1_3 x.1 x.2).bind fun x => (stepOps run esc base q28_1_4 x.1 x.2).bind (Zk [2, 3, 32] base) := by simp only [r28_1, regN, regA, Option.bind_assoc]
def q28_2_0 : List MOper := [⟨some 4,.mov false (.lit (.bool false)),none⟩]
def r28_2 : MCode := .region 2 q28_2_0 false [4]
theorem x28_2 : exec run esc l base r28_2 e σ = (stepOps run esc base q28_2_0 e σ).bind (Zk [4] base) := rfl
def q28_3_0 : List MOper := [⟨some 33,.fieldAddr 4 (.tmp 2),none⟩, ⟨some 34,.load false false 1 (.tmp 33),none⟩, ⟨some 35,.fieldAddr 4 (.tmp 3),none⟩, ⟨some 36,.load false false 1 (.tmp 35),none⟩, ⟨some 37,.call (.lit (.fn 14 [])) [(.tmp 34), (.tmp 36)],none⟩, ⟨some 4,.mov false (.tmp 37),none⟩]
def r28_3 : MCode := .region 3 q28_3_0 false [4]
theorem x28_3 : exec run esc l base r28_3 e σ = (stepOps run esc base q28_3_0 e σ).bind (Zk [4] base) := rfl
def m28 : MFunc := ⟨(.seq r28_0 (.seq (.seq r28_1 (.cond (.tmp 32) (.seq r28_2 .ret) .skip)) (.seq r28_3 .ret))), [.tmp 4], false, false⟩
def q29_0_0 : List MOper := [⟨some 1,.box 5 (.tmp 0),none⟩, ⟨some 2,.mov true (.lit (.slice true [])),none⟩, ⟨some 3,.mov false (.lit (.int .i64 0)),none⟩]
def r29_0 : MCode := .region 0 q29_0_0 false [1, 2]
theorem x29_0 : exec run esc l base r29_0 e σ = (stepOps run esc base q29_0_0 e σ).bind (Zk [1, 2] base) := rfl
def q29_1_0 : List MOper := [⟨some 12,.load false true 5 (.tmp 1),none⟩, ⟨some 13,.call (.lit (.fn 49 [])) [(.tmp 12)],none⟩, ⟨some 14,.un .not (.tmp 13),none⟩]
def r29_1 : MCode := .region 1 q29_1_0 false [1, 2, 14]
theorem x29_1 : exec run esc l base r29_1 e σ = (stepOps run esc base q29_1_0 e σ).bind (Zk [1, 2, 14] base) := rfl
def q29_2_0 : List MOper := [⟨some 2,.mov true (.lit (.slice true [])),none⟩, ⟨some 3,.mov false (.lit (.int .i64 2)),none⟩]
def r29_2 : MCode := .region 2 q29_2_0 false [2, 3]
theorem x29_2 : exec run esc l base r29_2 e σ = (stepOps run esc base q29_2_0 e σ).bind (Zk [2, 3] base) := rfl
def q29_3_0 : List MOper := [⟨some 15,.fieldAddr 2 (.tmp 1),none⟩, ⟨some 16,.load false false 1 (.tmp 15),none⟩, ⟨some 17,.len false (.tmp 16),none⟩, ⟨some 18,.mov false (.lit (.int .i64 0)),none⟩]
def r29_3 : MCode := .region 3 q29_3_0 false [1, 2, 16, 17, 18]
theorem x29_3 : exec run esc l base r29_3 e σ = (stepOps run esc base q29_3_0 e σ).bind (Zk [1, 2, 16, 17, 18] base) := rfl
def q29_4_0 : List MOper := [⟨some 19,.bin .lss (.tmp 18) (.tmp 17),none⟩]
def r29_4 : MCode := .region 4 q29_4_0 false [1, 2, 16, 17, 18, 19]
theorem x29_4 : exec run esc l base r29_4 e σ = (stepOps run esc base q29_4_0 e σ).bind (Zk [1, 2, 16, 17, 18, 19] base) := rfl
def q29_5_0 : List MOper := [⟨some 20,.index 5 (.tmp 16) (.tmp 18),none⟩, ⟨some 21,.load false true 5 (.tmp 20),none⟩, ⟨some 5,.alloc [(.int .i64 0), (.int .i64 0), (.int .i64 0), (.str []), (.str [])],none⟩, ⟨none,.store 5 (.tmp 5) (.tmp 21),none⟩]
def r29_5 : MCode := .region 5 q29_5_0 false [1, 2, 5, 16, 17, 18]
theorem x29_5 : exec run esc l base r29_5 e σ = (stepOps run esc base q29_5_0 e σ).bind (Zk [1, 2, 5, 16, 17, 18] base) := rfl
def q29_6_0 : List MOper := [⟨some 22,.fieldAddr 0 (.tmp 5),none⟩, ⟨none,.store 1 (.tmp 22) (.lit (.int .i64 0)),none⟩]
def r29_6 : MCode := .region 6 q29_6_0 false [1, 2, 5, 16, 17, 18]
theorem x29_6 : exec run esc l base r29_6 e σ = (stepOps run esc base q29_6_0 e σ).bind (Zk [1, 2, 5, 16, 17, 18] base) := rfl
def q29_7_0 : List MOper := [⟨some 23,.mov true (.tmp 2),none⟩, ⟨some 24,.load false true 5 (.tmp 5),none⟩, ⟨some 25,.build [(.int .i8 0), (.int .i64 0), (.int .i64 0), (.int .i64 0), (.bool false), (.slice true []), (.bool false), (.int .i64 0), (.int .i64 0), (.int .i64 0), (.int .i64 0), (.int .i64 0), (.str []), (.str []), (.int .i64 0), (.int .i64 0), (.int .i64 0), (.slice true [])] [(0, 1, (.lit (.int .i8 5))), (9, 5, (.tmp 24))],none⟩, ⟨some 26,.buildSlice 18 [(.tmp 25)],none⟩, ⟨some 27,.append false 18 192 (.tmp 23) (.tmp 26),none⟩, ⟨some 2,.mov true (.tmp 27),none⟩]
def r29_7 : MCode := .region 7 q29_7_0 false [1, 2, 16, 17, 18]
theorem x29_7 : exec run esc l base r29_7 e σ = (stepOps run esc base q29_7_0 e σ).bind (Zk [1, 2, 16, 17, 18] base) := rfl
def q29_8_0 : List MOper := [⟨some 28,.bin .add (.tmp 18) (.lit (.int .i64 1)),none⟩, ⟨some 18,.mov false (.tmp 28),none⟩]
def r29_8 : MCode := .region 8 q29_8_0 false [1, 2, 16, 17, 18]
theorem x29_8 : exec run esc l base r29_8 e σ = (stepOps run esc base q29_8_0 e σ).bind (Zk [1, 2, 16, 17, 18] base) := rfl
def l29_0 : MCode := (.seq r29_4 (.seq (.cond (.tmp 19) .skip (.exit 0)) (.seq (.block 1 (.seq r29_5 (.seq r29_6 r29_7))) r29_8)))
def q29_9_0 : List MOper := [⟨some 29,.fieldAddr 4 (.tmp 1),none⟩, ⟨some 30,.load false false 1 (.tmp 29),none⟩, ⟨some 31,.len false (.tmp 30),none⟩, ⟨some 32,.mov false (.lit (.int .i64 0)),none⟩]
def r29_9 : MCode := .region 9 q29_9_0 false [1, 2, 30, 31, 32]
theorem x29_9 : exec run esc l base r29_9 e σ = (stepOps run esc base q29_9_0 e σ).bind (Zk [1, 2, 30, 31, 32] base) := rfl
def q29_10_0 : List MOper := [⟨some 33,.bin .lss (.tmp 32) (.tmp 31),none⟩]
def r29_10 : MCode := .region 10 q29_10_0 false [1, 2, 30, 31, 32, 33]
theorem x29_10 : exec run esc l base r29_10 e σ = (stepOps run esc base q29_10_0 e σ).bind (Zk [1, 2, 30, 31, 32, 33] base) := rfl
def q29_11_0 : List MOper := [⟨some 34,.index 4 (.tmp 30) (.tmp 32),none⟩, ⟨some 35,.load false true 4 (.tmp 34),none⟩, ⟨some 7,.alloc [(.int .i64 0), (.int .i64 0), (.int .i64 0), (.slice true [])],none⟩, ⟨none,.store 4 (.tmp 7) (.tmp 35),none⟩]
def r29_11 : MCode := .region 11 q29_11_0 false [1, 2, 7, 30, 31, 32]
theorem x29_11 : exec run esc l base r29_11 e σ = (stepOps run esc base q29_11_0 e σ).bind (Zk [1, 2, 7, 30, 31, 32] base) := rfl
def q29_12_0 : List MOper := [⟨some 36,.mov true (.tmp 2),none⟩, ⟨some 37,.load false true 5 (.tmp 1),none⟩, ⟨some 38,.load false true 4 (.tmp 7),none⟩, ⟨some 39,.call (.lit (.fn 50 [])) [(.tmp 37), (.tmp 38)],none⟩, ⟨some 40,.build [(.int .i8 0), (.int .i64 0), (.int .i64 0), (.int .i64 0), (.bool false), (.slice true []), (.bool false), (.int .i64 0), (.int .i64 0), (.int .i64 0), (.int .i64 0), (.int .i64 0), (.str []), (.str []), (.int .i64 0), (.int .i64 0), (.int .i64 0), (.slice true [])] [(0, 1, (.lit (.int .i8 6))), (14, 4, (.tmp 39))],none⟩, ⟨some 41,.buildSlice 18 [(.tmp 40)],none⟩]
def q29_12_1 : List MOper := [⟨some 42,.append false 18 192 (.tmp 36) (.tmp 41),none⟩, ⟨some 2,.mov true (.tmp 42),none⟩]
def r29_12 : MCode := .region 12 (q29_12_0 ++ q29_12_1) false [1, 2, 30, 31, 32]
theorem x29_12 : exec run esc l base r29_12 e σ = (stepOps run esc base q29_12_0 e σ).bind fun x => (stepOps run esc base q29_12_1 x.1 x.2).bind (Zk [1, 2, 30, 31, 32] base) := reg2
def q29_13_0 : List MOper := [⟨some 43,.bin .add (.tmp 32) (.lit (.int .i64 1)),none⟩, ⟨some 32,.mov false (.tmp 43),none⟩]
def r29_13 : MCode := .region 13 q29_13_0 false [1, 2, 30, 31, 32]
theorem x29_13 : exec run esc l base r29_13 e σ = (stepOps run esc base q29_13_0 e σ).bind (Zk [1, 2, 30, 31, 32] base) := rfl
def l29_1 : MCode := (.seq r29_10 (.seq (.cond (.tmp 33) .skip (.exit 2)) (.seq (.block 3 (.seq r29_11 r29_12)) r29_13)))
def q29_14_0 : List MOper := [⟨some 44,.fieldAddr 3 (.tmp 1),none⟩, ⟨some 45,.load false false 1 (.tmp 44),none⟩, ⟨some 46,.len false (.tmp 45),none⟩, ⟨some 47,.mov false (.lit (.int .i64 0)),none⟩]
def r29_14 : MCode := .region 14 q29_14_0 false [2, 45, 46, 47]
theorem x29_14 : exec run esc l base r29_14 e σ = (stepOps run esc base q29_14_0 e σ).bind (Zk [2, 45, 46, 47] base) := rfl
def q29_15_0 : List MOper := [⟨some 48,.bin .lss (.tmp 47) (.tmp 46),none⟩]
def r29_15 : MCode := .region 15 q29_15_0 false [2, 45, 46, 47, 48]
theorem x29_15 : exec run esc l base r29_15 e σ = (stepOps run esc base q29_15_0 e σ).bind (Zk [2, 45, 46, 47, 48] base) := rfl
def q29_16_0 : List MOper := [⟨some 49,.index 3 (.tmp 45) (.tmp 47),none⟩, ⟨some 50,.load false true 3 (.tmp 49),none⟩, ⟨some 9,.alloc [(.int .i64 0), (.int .i64 0), (.slice true [])],none⟩, ⟨none,.store 3 (.tmp 9) (.tmp 50),none⟩]
def r29_16 : MCode := .region 16 q29_16_0 false [2, 9, 45, 46, 47]
theorem x29_16 : exec run esc l base r29_16 e σ = (stepOps run esc base q29_16_0 e σ).bind (Zk [2, 9, 45, 46, 47] base) := rfl
def q29_17_0 : List MOper := [⟨some 51,.fieldAddr 2 (.tmp 9),none⟩, ⟨some 52,.load false false 1 (.tmp 51),none⟩, ⟨some 53,.len false (.tmp 52),none⟩, ⟨some 54,.mov false (.lit (.int .i64 0)),none⟩]
def r29_17 : MCode := .region 17 q29_17_0 false [2, 45, 46, 47, 52, 53, 54]
theorem x29_17 : exec run esc l base r29_17 e σ = (stepOps run esc base q29_17_0 e σ).bind (Zk [2, 45, 46, 47, 52, 53, 54] base) := rfl
def q29_18_0 : List MOper := [⟨some 55,.bin .lss (.tmp 54) (.tmp 53),none⟩]
def r29_18 : MCode := .region 18 q29_18_0 false [2, 45, 46, 47, 52, 53, 54, 55]
theorem x29_18 : exec run esc l base r29_18 e σ = (stepOps run esc base q29_18_0 e σ).bind (Zk [2, 45, 46, 47, 52, 53, 54, 55] base) := rfl
def q29_19_0 : List MOper := [⟨some 56,.index 5 (.tmp 52) (.tmp 54),none⟩, ⟨some 57,.load false true 5 (.tmp 56),none⟩, ⟨some 11,.alloc [(.int .i64 0), (.int .i64 0), (.int .i64 0), (.bool false), (.slice true [])],none⟩, ⟨none,.store 5 (.tmp 11) (.tmp 57),none⟩]
def r29_19 : MCode := .region 19 q29_19_0 false [2, 11, 45, 46, 47, 52, 53, 54]
theorem x29_19 : exec run esc l base r29_19 e σ = (stepOps run esc base q29_19_0 e σ).bind (Zk [2, 11, 45, 46, 47, 52, 53, 54] base) := rfl
def q29_20_0 : List MOper := [⟨some 58,.mov true (.tmp 2),none⟩, ⟨some 59,.load false true 5 (.tmp 11),none⟩, ⟨some 60,.build [(.int .i8 0), (.int .i64 0), (.int .i64 0), (.int .i64 0), (.bool false), (.slice true []), (.bool false), (.int .i64 0), (.int .i64 0), (.int .i64 0), (.int .i64 0), (.int .i64 0), (.str []), (.str []), (.int .i64 0), (.int .i64 0), (.int .i64 0), (.slice true [])] [(0, 1, (.lit (.int .i8 0))), (1, 5, (.tmp 59))],none⟩, ⟨some 61,.buildSlice 18 [(.tmp 60)],none⟩, ⟨some 62,.append false 18 192 (.tmp 58) (.tmp 61),none⟩, ⟨some 2,.mov true (.tmp 62),none⟩]
def r29_20 : MCode := .region 20 q29_20_0 false [2, 45, 46, 47, 52, 53, 54]
theorem x29_20 : exec run esc l base r29_20 e σ = (stepOps run esc base q29_20_0 e σ).bind (Zk [2, 45, 46, 47, 52, 53, 54] base) := rfl
def q29_21_0 : List MOper := [⟨some 63,.bin .add (.tmp 54) (.lit (.int .i64 1)),none⟩, ⟨some 54,.mov false (.tmp 63),none⟩]
def r29_21 : MCode := .region 21 q29_21_0 false [2, 45, 46, 47, 52, 53, 54]
theorem x29_21 : exec run esc l base r29_21 e σ = (stepOps run esc base q29_21_0 e σ).bind (Zk [2, 45, 46, 47, 52, 53, 54] base) := rfl
def l29_2 : MCode := (.seq r29_18 (.seq (.cond (.tmp 55) .skip (.exit 6)) (.seq (.block 7 (.seq r29_19 r29_20)) r29_21)))
def q29_22_0 : List MOper := [⟨some 64,.bin .add (.tmp 47) (.lit (.int .i64 1)),none⟩, ⟨some 47,.mov false (.tmp 64),none⟩]
def r29_22 : MCode := .region 22 q29_22_0 false [2, 45, 46, 47]
theorem x29_22 : exec run esc l base r29_22 e σ = (stepOps run esc base q29_22_0 e σ).bind (Zk [2, 45, 46, 47] base) := rfl
def l29_3 : MCode := (.seq r29_15 (.seq (.cond (.tmp 48) .skip (.exit 4)) (.seq (.block 5 (.seq r29_16 (.seq r29_17 (.block 6 (.loop l29_2))))) r29_22)))
def q29_23_0 : List MOper := [⟨some 65,.mov true (.tmp 2),none⟩, ⟨some 2,.mov true (.tmp 65),none⟩, ⟨some 3,.mov false (.lit (.int .i64 0)),none⟩]
def r29_23 : MCode := .region 23 q29_23_0 false [2, 3]
theorem x29_23 : exec run esc l base r29_23 e σ = (stepOps run esc base q29_23_0 e σ).bind (Zk [2, 3] base) := rfl
def m29 : MFunc := ⟨(.seq r29_0 (.seq (.seq r29_1 (.cond (.tmp 14) (.seq r29_2 .ret) .skip)) (.seq (.seq r29_3 (.block 0 (.loop l29_0))) (.seq (.seq r29_9 (.block 2 (.loop l29_1))) (.seq (.seq r29_14 (.block 4 (.loop l29_3))) (.seq r29_23 .ret)))))), [.tmp 2, .tmp 3], false, false⟩
def q30_0_0 : List MOper := [⟨some 4,.mov false (.lit (.bool false)),none⟩]
def r30_0 : MCode := .region 0 q30_0_0 false [0, 1]
theorem x30_0 : exec run esc l base r30_0 e σ = (stepOps run esc base q30_0_0 e σ).bind (Zk [0, 1] base) := rfl
def q30_1_0 : List MOper := [⟨some 7,.mov false (.tmp 0),none⟩, ⟨some 8,.len false (.tmp 7),none⟩, ⟨some 9,.mov false (.tmp 1),none⟩, ⟨some 10,.len false (.tmp 9),none⟩, ⟨some 11,.bin .neq (.tmp 8) (.tmp 10),none⟩]
def r30_1 : MCode := .region 1 q30_1_0 false [0, 1, 11]
theorem x30_1 : exec run esc l base r30_1 e σ = (stepOps run esc base q30_1_0 e σ).bind (Zk [0, 1, 11] base) := rfl
def q30_2_0 : List MOper := [⟨some 4,.mov false (.lit (.bool false)),none⟩]
def r30_2 : MCode := .region 2 q30_2_0 false [4]
theorem x30_2 : exec run esc l base r30_2 e σ = (stepOps run esc base q30_2_0 e σ).bind (Zk [4] base) := rfl
def q30_3_0 : List MOper := [⟨some 5,.mov false (.lit (.int .i64 0)),none⟩]
def r30_3 : MCode := .region 3 q30_3_0 false [0, 1, 5]
theorem x30_3 : exec run esc l base r30_3 e σ = (stepOps run esc base q30_3_0 e σ).bind (Zk [0, 1, 5] base) := rfl
def q30_4_0 : List MOper := [⟨some 12,.mov false (.tmp 5),none⟩, ⟨some 13,.mov false (.tmp 0),none⟩, ⟨some 14,.len false (.tmp 13),none⟩, ⟨some 15,.bin .lss (.tmp 12) (.tmp 14),none⟩]
def r30_4 : MCode := .region 4 q30_4_0 false [0, 1, 5, 15]
theorem x30_4 : exec run esc l base r30_4 e σ = (stepOps run esc base q30_4_0 e σ).bind (Zk [0, 1, 5, 15] base) := rfl
def q30_6_0 : List MOper := [⟨some 18,.mov false (.tmp 0),none⟩, ⟨some 19,.mov false (.tmp 5),none⟩, ⟨some 20,.index 3 (.tmp 18) (.tmp 19),none⟩, ⟨some 21,.fieldAddr 0 (.tmp 20),none⟩, ⟨some 22,.load false false 1 (.tmp 21),none⟩, ⟨some 23,.mov false (.tmp 1),none⟩]
def q30_6_1 : List MOper := [⟨some 24,.mov false (.tmp 5),none⟩, ⟨some 25,.index 3 (.tmp 23) (.tmp 24),none⟩, ⟨some 26,.fieldAddr 0 (.tmp 25),none⟩, ⟨some 27,.load false false 1 (.tmp 26),none⟩, ⟨some 28,.bin .neq (.tmp 22) (.tmp 27),none⟩, ⟨some 29,.mov false (.tmp 28),none⟩]
def q30_6_2 : List MOper := [⟨some 30,.mov false (.tmp 0),some (29, false)⟩, ⟨some 31,.mov false (.tmp 5),some (29, false)⟩, ⟨some 32,.index 3 (.tmp 30) (.tmp 31),some (29, false)⟩, ⟨some 33,.fieldAddr 1 (.tmp 32),some (29, false)⟩, ⟨some 34,.load false false 1 (.tmp 33),some (29, false)⟩, ⟨some 35,.mov false (.tmp 1),some (29, false)⟩]
def q30_6_3 : List MOper := [⟨some 36,.mov false (.tmp 5),some (29, false)⟩, ⟨some 37,.index 3 (.tmp 35) (.tmp 36),some (29, false)⟩, ⟨some 38,.fieldAddr 1 (.tmp 37),some (29, false)⟩, ⟨some 39,.load false false 1 (.tmp 38),some (29, false)⟩, ⟨some 40,.bin .neq (.tmp 34) (.tmp 39),some (29, false)⟩, ⟨some 41,.pick (.tmp 29) (.lit (.bool true)) (.tmp 40),none⟩]
def q30_6_4 : List MOper := [⟨some 42,.mov false (.tmp 41),none⟩, ⟨some 43,.mov false (.tmp 0),some (42, false)⟩, ⟨some 44,.mov false (.tmp 5),some (42, false)⟩, ⟨some 45,.index 3 (.tmp 43) (.tmp 44),some (42, false)⟩, ⟨some 46,.fieldAddr 2 (.tmp 45),some (42, false)⟩, ⟨some 47,.load false false 1 (.tmp 46),some (42, false)⟩]
def q30_6_5 : List MOper := [⟨some 48,.len false (.tmp 47),some (42, false)⟩, ⟨some 49,.mov false (.tmp 1),some (42, false)⟩, ⟨some 50,.mov false (.tmp 5),some (42, false)⟩, ⟨some 51,.index 3 (.tmp 49) (.tmp 50),some (42, false)⟩, ⟨some 52,.fieldAddr 2 (.tmp 51),some (42, false)⟩, ⟨some 53,.load false false 1 (.tmp 52),some (42, false)⟩]
def q30_6_6 : List MOper := [⟨some 54,.len false (.tmp 53),some (42, false)⟩, ⟨some 55,.bin .neq (.tmp 48) (.tmp 54),some (42, false)⟩, ⟨some 56,.pick (.tmp 42) (.lit (.bool true)) (.tmp 55),none⟩]
def r30_6 : MCode := .region 6 (q30_6_0 ++ (q30_6_1 ++ (q30_6_2 ++ (q30_6_3 ++ (q30_6_4 ++ (q30_6_5 ++ q30_6_6)))))) true [0, 1, 5, 56]
theorem x30_6 : exec run esc l base r30_6 e σ = (stepOps run esc base q30_6_0 e σ).bind fun x => (stepOps run esc base q30_6_1 x.1 x.2).bind fun x => (stepOps run esc base q30_6_2 x.1 x.2).bind fun x => (stepOps run esc base q30_6_3 x.1 x.2).bind fun x => (stepOps run esc base q30_6_4 x.1 x.2).bind fun x => (stepOps run esc base q30_6_5 x.1 x.2).bind fun x => (stepOps run esc base q30_6_6 x.1 x.2).bind (Zk [0, 1, 5, 56] base) := by simp only [r30_6, regN, regA, Option.bind_assoc]
def q30_7_0 : List MOper := [⟨some 4,.mov false (.lit (.bool false)),none⟩]
def r30_7 : MCode := .region 7 q30_7_0 false [4]
theorem x30_7 : exec run esc l base r30_7 e σ = (stepOps run esc base q30_7_0 e σ).bind (Zk [4] base) := rfl
def q30_8_0 : List MOper := [⟨some 6,.mov false (.lit (.int .i64 0)),none⟩]
def r30_8 : MCode := .region 8 q30_8_0 false [0, 1, 5, 6]
theorem x30_8 : exec run esc l base r30_8 e σ = (stepOps run esc base q30_8_0 e σ).bind (Zk [0, 1, 5, 6] base) := rfl
def q30_9_0 : List MOper := [⟨some 57,.mov false (.tmp 6),none⟩, ⟨some 58,.mov false (.tmp 0),none⟩, ⟨some 59,.mov false (.tmp 5),none⟩, ⟨some 60,.index 3 (.tmp 58) (.tmp 59),none⟩, ⟨some 61,.fieldAddr 2 (.tmp 60),none⟩, ⟨some 62,.load false false 1 (.tmp 61),none⟩]
def q30_9_1 : List MOper := [⟨some 63,.len false (.tmp 62),none⟩, ⟨some 64,.bin .lss (.tmp 57) (.tmp 63),none⟩]
def r30_9 : MCode := .region 9 (q30_9_0 ++ q30_9_1) false [0, 1, 5, 6, 64]
theorem x30_9 : exec run esc l base r30_9 e σ = (stepOps run esc base q30_9_0 e σ).bind fun x => (stepOps run esc base q30_9_1 x.1 x.2).bind (Zk [0, 1, 5, 6, 64] base) := reg2
def q30_11_0 : List MOper := [⟨some 67,.mov false (.tmp 0),none⟩, ⟨some 68,.mov false (.tmp 5),none⟩, ⟨some 69,.index 3 (.tmp 67) (.tmp 68),none⟩, ⟨some 70,.fieldAddr 2 (.tmp 69),none⟩, ⟨some 71,.load false false 1 (.tmp 70),none⟩, ⟨some 72,.mov false (.tmp 6),none⟩]
def q30_11_1 : List MOper := [⟨some 73,.index 5 (.tmp 71) (.tmp 72),none⟩, ⟨some 74,.load false true 5 (.tmp 73),none⟩, ⟨some 75,.mov false (.tmp 1),none⟩, ⟨some 76,.mov false (.tmp 5),none⟩, ⟨some 77,.index 3 (.tmp 75) (.tmp 76),none⟩, ⟨some 78,.fieldAddr 2 (.tmp 77),none⟩]
def q30_11_2 : List MOper := [⟨some 79,.load false false 1 (.tmp 78),none⟩, ⟨some 80,.mov false (.tmp 6),none⟩, ⟨some 81,.index 5 (.tmp 79) (.tmp 80),none⟩, ⟨some 82,.load false true 5 (.tmp 81),none⟩, ⟨some 83,.callr (.lit (.fn 51 [])) [(.tmp 74), (.tmp 82)],none⟩, ⟨some 84,.un .not (.tmp 83),none⟩]
def r30_11 : MCode := .region 11 (q30_11_0 ++ (q30_11_1 ++ q30_11_2)) true [0, 1, 5, 6, 84]
theorem x30_11 : exec run esc l base r30_11 e σ = (stepOps run esc base q30_11_0 e σ).bind fun x => (stepOps run esc base q30_11_1 x.1 x.2).bind fun x => (stepOps run esc base q30_11_2 x.1 x.2).bind (Zk [0, 1, 5, 6, 84] base) := by simp only [r30_11, regN, regA, Option.bind_assoc]
def q30_12_0 : List MOper := [⟨some 4,.mov false (.lit (.bool false)),none⟩]
def r30_12 : MCode := .region 12 q30_12_0 false [4]
theorem x30_12 : exec run esc l base r30_12 e σ = (stepOps run esc base q30_12_0 e σ).bind (Zk [4] base) := rfl
def q30_10_0 : List MOper := [⟨some 65,.mov false (.tmp 6),none⟩, ⟨some 66,.bin .add (.tmp 65) (.lit (.int .i64 1)),none⟩, ⟨some 6,.mov false (.tmp 66),none⟩]
def r30_10 : MCode := .region 10 q30_10_0 false [0, 1, 5, 6]
theorem x30_10 : exec run esc l base r30_10 e σ = (stepOps run esc base q30_10_0 e σ).bind (Zk [0, 1, 5, 6] base) := rfl
def l30_0 : MCode := (.seq (.seq r30_9 (.cond (.tmp 64) .skip (.exit 2))) (.seq (.block 3 (.seq r30_11 (.cond (.tmp 84) (.seq r30_12 .ret) .skip))) r30_10))
def q30_5_0 : List MOper := [⟨some 16,.mov false (.tmp 5),none⟩, ⟨some 17,.bin .add (.tmp 16) (.lit (.int .i64 1)),none⟩, ⟨some 5,.mov false (.tmp 17),none⟩]
def r30_5 : MCode := .region 5 q30_5_0 false [0, 1, 5]
theorem x30_5 : exec run esc l base r30_5 e σ = (stepOps run esc base q30_5_0 e σ).bind (Zk [0, 1, 5] base) := rfl
def l30_1 : MCode := (.seq (.seq r30_4 (.cond (.tmp 15) .skip (.exit 0))) (.seq (.block 1 (.seq (.seq r30_6 (.cond (.tmp 56) (.seq r30_7 .ret) .skip)) (.seq r30_8 (.block 2 (.loop l30_0))))) r30_5))
def q30_13_0 : List MOper := [⟨some 4,.mov false (.lit (.bool true)),none⟩]
def r30_13 : MCode := .region 13 q30_13_0 false [4]
theorem x30_13 : exec run esc l base r30_13 e σ = (stepOps run esc base q30_13_0 e σ).bind (Zk [4] base) := rfl
def m30 : MFunc := ⟨(.seq r30_0 (.seq (.seq r30_1 (.cond (.tmp 11) (.seq r30_2 .ret) .skip)) (.seq (.seq r30_3 (.block 0 (.loop l30_1))) (.seq r30_13 .ret)))), [.tmp 4], false, false⟩
def q31_0_0 : List MOper := [⟨some 4,.mov false (.lit (.bool false)),none⟩]
def r31_0 : MCode := .region 0 q31_0_0 false [0, 1]
theorem x31_0 : exec run esc l base r31_0 e σ = (stepOps run esc base q31_0_0 e σ).bind (Zk [0, 1] base) := rfl
def q31_1_0 : List MOper := [⟨some 6,.mov false (.tmp 0),none⟩, ⟨some 7,.len false (.tmp 6),none⟩, ⟨some 8,.mov false (.tmp 1),none⟩, ⟨some 9,.len false (.tmp 8),none⟩, ⟨some 10,.bin .neq (.tmp 7) (.tmp 9),none⟩]
def r31_1 : MCode := .region 1 q31_1_0 false [0, 1, 10]
theorem x31_1 : exec run esc l base r31_1 e σ = (stepOps run esc base q31_1_0 e σ).bind (Zk [0, 1, 10] base) := rfl
def q31_2_0 : List MOper := [⟨some 4,.mov false (.lit (.bool false)),none⟩]
def r31_2 : MCode := .region 2 q31_2_0 false [4]
theorem x31_2 : exec run esc l base r31_2 e σ = (stepOps run esc base q31_2_0 e σ).bind (Zk [4] base) := rfl
def q31_3_0 : List MOper := [⟨some 5,.mov false (.lit (.int .i64 0)),none⟩]
def r31_3 : MCode := .region 3 q31_3_0 false [0, 1, 5]
theorem x31_3 : exec run esc l base r31_3 e σ = (stepOps run esc base q31_3_0 e σ).bind (Zk [0, 1, 5] base) := rfl
def q31_4_0 : List MOper := [⟨some 11,.mov false (.tmp 5),none⟩, ⟨some 12,.mov false (.tmp 0),none⟩, ⟨some 13,.len false (.tmp 12),none⟩, ⟨some 14,.bin .lss (.tmp 11) (.tmp 13),none⟩]
def r31_4 : MCode := .region 4 q31_4_0 false [0, 1, 5, 14]
theorem x31_4 : exec run esc l base r31_4 e σ = (stepOps run esc base q31_4_0 e σ).bind (Zk [0, 1, 5, 14] base) := rfl
def q31_6_0 : List MOper := [⟨some 17,.mov false (.tmp 0),none⟩, ⟨some 18,.mov false (.tmp 5),none⟩, ⟨some 19,.index 18 (.tmp 17) (.tmp 18),none⟩, ⟨some 20,.load false true 18 (.tmp 19),none⟩, ⟨some 21,.mov false (.tmp 1),none⟩, ⟨some 22,.mov false (.tmp 5),none⟩]
def q31_6_1 : List MOper := [⟨some 23,.index 18 (.tmp 21) (.tmp 22),none⟩, ⟨some 24,.load false true 18 (.tmp 23),none⟩, ⟨some 25,.callr (.lit (.fn 52 [])) [(.tmp 20), (.tmp 24)],none⟩, ⟨some 26,.un .not (.tmp 25),none⟩]
def r31_6 : MCode := .region 6 (q31_6_0 ++ q31_6_1) true [0, 1, 5, 26]
theorem x31_6 : exec run esc l base r31_6 e σ = (stepOps run esc base q31_6_0 e σ).bind fun x => (stepOps run esc base q31_6_1 x.1 x.2).bind (Zk [0, 1, 5, 26] base) := reg2
def q31_7_0 : List MOper := [⟨some 4,.mov false (.lit (.bool false)),none⟩]
def r31_7 : MCode := .region 7 q31_7_0 false [4]
theorem x31_7 : exec run esc l base r31_7 e σ = (stepOps run esc base q31_7_0 e σ).bind (Zk [4] base) := rfl
def q31_5_0 : List MOper := [⟨some 15,.mov false (.tmp 5),none⟩, ⟨some 16,.bin .add (.tmp 15) (.lit (.int .i64 1)),none⟩, ⟨some 5,.mov false (.tmp 16),none⟩]
def r31_5 : MCode := .region 5 q31_5_0 false [0, 1, 5]
theorem x31_5 : exec run esc l base r31_5 e σ = (stepOps run esc base q31_5_0 e σ).bind (Zk [0, 1, 5] base) := rfl
def l31_0 : MCode := (.seq (.seq r31_4 (.cond (.tmp 14) .skip (.exit 0))) (.seq (.block 1 (.seq r31_6 (.cond (.tmp 26) (.seq r31_7 .ret) .skip))) r31_5))
def q31_8_0 : List MOper := [⟨some 4,.mov false (.lit (.bool true)),none⟩]
def r31_8 : MCode := .region 8 q31_8_0 false [4]
theorem x31_8 : exec run esc l base r31_8 e σ = (stepOps run esc base q31_8_0 e σ).bind (Zk [4] base) := rfl
def m31 : MFunc := ⟨(.seq r31_0 (.seq (.seq r31_1 (.cond (.tmp 10) (.seq r31_2 .ret) .skip)) (.seq (.seq r31_3 (.block 0 (.loop l31_0))) (.seq r31_8 .ret)))), [.tmp 4], false, false⟩
def q32_0_0 : List MOper := [⟨some 1,.box 5 (.tmp 0),none⟩, ⟨some 2,.mov false (.lit (.int .i64 0)),none⟩]
def r32_0 : MCode := .region 0 q32_0_0 false [1]
theorem x32_0 : exec run esc l base r32_0 e σ = (stepOps run esc base q32_0_0 e σ).bind (Zk [1] base) := rfl
def q32_1_0 : List MOper := [⟨some 3,.fieldAddr 2 (.tmp 1),none⟩, ⟨some 4,.load false false 1 (.tmp 3),none⟩, ⟨some 5,.fieldAddr 4 (.tmp 1),none⟩, ⟨some 6,.load false false 1 (.tmp 5),none⟩, ⟨some 7,.len false (.tmp 6),none⟩, ⟨some 8,.bin .add (.tmp 4) (.tmp 7),none⟩]
def q32_1_1 : List MOper := [⟨some 2,.mov false (.tmp 8),none⟩]
def r32_1 : MCode := .region 1 (q32_1_0 ++ q32_1_1) false [2]
theorem x32_1 : exec run esc l base r32_1 e σ = (stepOps run esc base q32_1_0 e σ).bind fun x => (stepOps run esc base q32_1_1 x.1 x.2).bind (Zk [2] base) := reg2
def m32 : MFunc := ⟨(.seq r32_0 (.seq r32_1 .ret)), [.tmp 2], false, false⟩
def q33_0_0 : List MOper := [⟨some 3,.box 4 (.tmp 1),none⟩, ⟨some 4,.mov true (.lit (.slice true [])),none⟩]
def r33_0 : MCode := .region 0 q33_0_0 false [0, 3]
theorem x33_0 : exec run esc l base r33_0 e σ = (stepOps run esc base q33_0_0 e σ).bind (Zk [0, 3] base) := rfl
def q33_1_0 : List MOper := [⟨some 9,.mov false (.tmp 0),none⟩, ⟨some 10,.fieldAddr 0 (.tmp 3),none⟩, ⟨some 11,.load false false 1 (.tmp 10),none⟩, ⟨some 12,.call (.lit (.fn 53 [])) [(.tmp 9), (.tmp 11)],none⟩, ⟨some 8,.mov false (.tmp 12),none⟩, ⟨some 13,.extract 0 (.tmp 8),none⟩]
def q33_1_1 : List MOper := [⟨some 14,.extract 1 (.tmp 8),none⟩, ⟨some 5,.mov false (.tmp 13),none⟩, ⟨some 6,.mov false (.tmp 14),none⟩]
def r33_1 : MCode := .region 1 (q33_1_0 ++ q33_1_1) false [0, 3, 5, 6]
theorem x33_1 : exec run esc l base r33_1 e σ = (stepOps run esc base q33_1_0 e σ).bind fun x => (stepOps run esc base q33_1_1 x.1 x.2).bind (Zk [0, 3, 5, 6] base) := reg2
def q33_2_0 : List MOper := [⟨some 15,.mov false (.tmp 0),none⟩, ⟨some 16,.mov false (.tmp 5),none⟩, ⟨some 17,.slice 4 (.tmp 15) (some (.tmp 16)) none none,none⟩, ⟨some 7,.mov true (.tmp 17),none⟩]
def r33_2 : MCode := .region 2 q33_2_0 false [0, 3, 5, 6, 7]
theorem x33_2 : exec run esc l base r33_2 e σ = (stepOps run esc base q33_2_0 e σ).bind (Zk [0, 3, 5, 6, 7] base) := rfl
def q33_3_0 : List MOper := [⟨some 18,.mov false (.tmp 6),none⟩]
def r33_3 : MCode := .region 3 q33_3_0 false [0, 3, 5, 7, 18]
theorem x33_3 : exec run esc l base r33_3 e σ = (stepOps run esc base q33_3_0 e σ).bind (Zk [0, 3, 5, 7, 18] base) := rfl
def q33_4_0 : List MOper := [⟨some 19,.mov false (.tmp 7),none⟩, ⟨some 20,.slice 4 (.tmp 19) (some (.lit (.int .i64 1))) none none,none⟩, ⟨some 7,.mov true (.tmp 20),none⟩]
def r33_4 : MCode := .region 4 q33_4_0 false [0, 3, 5, 7]
theorem x33_4 : exec run esc l base r33_4 e σ = (stepOps run esc base q33_4_0 e σ).bind (Zk [0, 3, 5, 7] base) := rfl
def q33_5_0 : List MOper := [⟨some 21,.mov false (.tmp 0),none⟩, ⟨some 22,.mov false (.tmp 5),none⟩, ⟨some 23,.mov false (.tmp 5),none⟩, ⟨some 24,.slice 4 (.tmp 21) none (some (.tmp 22)) (some (.tmp 23)),none⟩, ⟨some 25,.load false true 4 (.tmp 3),none⟩, ⟨some 26,.buildSlice 4 [(.tmp 25)],none⟩]
def q33_5_1 : List MOper := [⟨some 27,.append false 4 48 (.tmp 24) (.tmp 26),none⟩, ⟨some 28,.mov false (.tmp 7),none⟩, ⟨some 29,.append false 4 48 (.tmp 27) (.tmp 28),none⟩, ⟨some 4,.mov true (.tmp 29),none⟩]
def r33_5 : MCode := .region 5 (q33_5_0 ++ q33_5_1) true [4]
theorem x33_5 : exec run esc l base r33_5 e σ = (stepOps run esc base q33_5_0 e σ).bind fun x => (stepOps run esc base q33_5_1 x.1 x.2).bind (Zk [4] base) := reg2
def m33 : MFunc := ⟨(.seq r33_0 (.seq r33_1 (.seq r33_2 (.seq (.seq r33_3 (.cond (.tmp 18) r33_4 .skip)) (.seq r33_5 .ret))))), [.tmp 4], false, false⟩
def q34_0_0 : List MOper := [⟨some 3,.box 5 (.tmp 1),none⟩, ⟨some 4,.mov false (.lit (.int .i64 0)),none⟩, ⟨some 5,.mov false (.lit (.bool false)),none⟩, ⟨some 6,.mov false (.lit (.int .i64 0)),none⟩]
def r34_0 : MCode := .region 0 q34_0_0 false [0, 3]
theorem x34_0 : exec run esc l base r34_0 e σ = (stepOps run esc base q34_0_0 e σ).bind (Zk [0, 3] base) := rfl
def q34_1_0 : List MOper := [⟨some 10,.mov false (.tmp 0),none⟩, ⟨some 11,.call (.lit (.fn 54 [])) [(.tmp 10)],none⟩, ⟨some 12,.un .not (.tmp 11),none⟩, ⟨some 13,.mov false (.tmp 12),none⟩, ⟨some 14,.load false true 5 (.tmp 3),some (13, false)⟩, ⟨some 15,.call (.lit (.fn 15 [])) [(.tmp 14)],some (13, false)⟩]
def q34_1_1 : List MOper := [⟨some 16,.un .not (.tmp 15),some (13, false)⟩, ⟨some 17,.pick (.tmp 13) (.lit (.bool true)) (.tmp 16),none⟩]
def r34_1 : MCode := .region 1 (q34_1_0 ++ q34_1_1) false [0, 3, 17]
theorem x34_1 : exec run esc l base r34_1 e σ = (stepOps run esc base q34_1_0 e σ).bind fun x => (stepOps run esc base q34_1_1 x.1 x.2).bind (Zk [0, 3, 17] base) := reg2
def q34_2_0 : List MOper := [⟨some 4,.mov false (.lit (.int .i64 0)),none⟩, ⟨some 5,.mov false (.lit (.bool false)),none⟩, ⟨some 6,.mov false (.lit (.int .i64 2)),none⟩]
def r34_2 : MCode := .region 2 q34_2_0 false [4, 5, 6]
theorem x34_2 : exec run esc l base r34_2 e σ = (stepOps run esc base q34_2_0 e σ).bind (Zk [4, 5, 6] base) := rfl
def q34_3_0 : List MOper := [⟨some 19,.mov false (.tmp 0),none⟩, ⟨some 20,.fieldAddr 0 (.tmp 3),none⟩, ⟨some 21,.load false false 1 (.tmp 20),none⟩, ⟨some 22,.call (.lit (.fn 35 [])) [(.tmp 19), (.tmp 21)],none⟩, ⟨some 18,.mov false (.tmp 22),none⟩, ⟨some 23,.extract 0 (.tmp 18),none⟩]
def q34_3_1 : List MOper := [⟨some 24,.extract 1 (.tmp 18),none⟩, ⟨some 7,.alloc [(.int .i64 0), (.int .i64 0), (.int .i64 0), (.slice true [])],none⟩, ⟨none,.store 4 (.tmp 7) (.tmp 23),none⟩, ⟨some 8,.mov false (.tmp 24),none⟩]
def r34_3 : MCode := .region 3 (q34_3_0 ++ q34_3_1) false [3, 7, 8]
theorem x34_3 : exec run esc l base r34_3 e σ = (stepOps run esc base q34_3_0 e σ).bind fun x => (stepOps run esc base q34_3_1 x.1 x.2).bind (Zk [3, 7, 8] base) := reg2
def q34_4_0 : List MOper := [⟨some 25,.mov false (.tmp 8),none⟩, ⟨some 26,.un .not (.tmp 25),none⟩, ⟨some 27,.mov false (.tmp 26),none⟩, ⟨some 28,.fieldAddr 1 (.tmp 3),some (27, false)⟩, ⟨some 29,.load false false 1 (.tmp 28),some (27, false)⟩, ⟨some 30,.fieldAddr 1 (.tmp 7),some (27, false)⟩]
def q34_4_1 : List MOper := [⟨some 31,.load false false 1 (.tmp 30),some (27, false)⟩, ⟨some 32,.bin .gtr (.tmp 29) (.tmp 31),some (27, false)⟩, ⟨some 33,.pick (.tmp 27) (.lit (.bool true)) (.tmp 32),none⟩]
def r34_4 : MCode := .region 4 (q34_4_0 ++ q34_4_1) false [3, 7, 33]
theorem x34_4 : exec run esc l base r34_4 e σ = (stepOps run esc base q34_4_0 e σ).bind fun x => (stepOps run esc base q34_4_1 x.1 x.2).bind (Zk [3, 7, 33] base) := reg2
def q34_5_0 : List MOper := [⟨some 34,.fieldAddr 2 (.tmp 3),none⟩, ⟨some 35,.load false false 1 (.tmp 34),none⟩, ⟨some 36,.bin .neq (.tmp 35) (.lit (.int .i64 0)),none⟩]
def r34_5 : MCode := .region 5 q34_5_0 false [36]
theorem x34_5 : exec run esc l base r34_5 e σ = (stepOps run esc base q34_5_0 e σ).bind (Zk [36] base) := rfl
def q34_6_0 : List MOper := [⟨some 4,.mov false (.lit (.int .i64 0)),none⟩, ⟨some 5,.mov false (.lit (.bool false)),none⟩, ⟨some 6,.mov false (.lit (.int .i64 101)),none⟩]
def r34_6 : MCode := .region 6 q34_6_0 false [4, 5, 6]
theorem x34_6 : exec run esc l base r34_6 e σ = (stepOps run esc base q34_6_0 e σ).bind (Zk [4, 5, 6] base) := rfl
def q34_7_0 : List MOper := [⟨some 4,.mov false (.lit (.int .i64 (-1))),none⟩, ⟨some 5,.mov false (.lit (.bool false)),none⟩, ⟨some 6,.mov false (.lit (.int .i64 0)),none⟩]
def r34_7 : MCode := .region 7 q34_7_0 false [4, 5, 6]
theorem x34_7 : exec run esc l base r34_7 e σ = (stepOps run esc base q34_7_0 e σ).bind (Zk [4, 5, 6] base) := rfl
def q34_8_0 : List MOper := [⟨some 37,.fieldAddr 1 (.tmp 3),none⟩, ⟨some 38,.load false false 1 (.tmp 37),none⟩, ⟨some 39,.fieldAddr 1 (.tmp 7),none⟩, ⟨some 40,.load false false 1 (.tmp 39),none⟩, ⟨some 41,.bin .lss (.tmp 38) (.tmp 40),none⟩]
def r34_8 : MCode := .region 8 q34_8_0 false [3, 7, 41]
theorem x34_8 : exec run esc l base r34_8 e σ = (stepOps run esc base q34_8_0 e σ).bind (Zk [3, 7, 41] base) := rfl
def q34_9_0 : List MOper := [⟨some 4,.mov false (.lit (.int .i64 0)),none⟩, ⟨some 5,.mov false (.lit (.bool false)),none⟩, ⟨some 6,.mov false (.lit (.int .i64 100)),none⟩]
def r34_9 : MCode := .region 9 q34_9_0 false [4, 5, 6]
theorem x34_9 : exec run esc l base r34_9 e σ = (stepOps run esc base q34_9_0 e σ).bind (Zk [4, 5, 6] base) := rfl
def q34_10_0 : List MOper := [⟨some 9,.mov false (.lit (.int .i64 0)),none⟩]
def r34_10 : MCode := .region 10 q34_10_0 false [3, 7, 9]
theorem x34_10 : exec run esc l base r34_10 e σ = (stepOps run esc base q34_10_0 e σ).bind (Zk [3, 7, 9] base) := rfl
def q34_11_0 : List MOper := [⟨some 42,.mov false (.tmp 9),none⟩, ⟨some 43,.fieldAddr 3 (.tmp 7),none⟩, ⟨some 44,.load false false 1 (.tmp 43),none⟩, ⟨some 45,.len false (.tmp 44),none⟩, ⟨some 46,.bin .lss (.tmp 42) (.tmp 45),none⟩]
def r34_11 : MCode := .region 11 q34_11_0 false [3, 7, 9, 46]
theorem x34_11 : exec run esc l base r34_11 e σ = (stepOps run esc base q34_11_0 e σ).bind (Zk [3, 7, 9, 46] base) := rfl
def q34_13_0 : List MOper := [⟨some 49,.fieldAddr 3 (.tmp 7),none⟩, ⟨some 50,.load false false 1 (.tmp 49),none⟩, ⟨some 51,.mov false (.tmp 9),none⟩, ⟨some 52,.index 3 (.tmp 50) (.tmp 51),none⟩, ⟨some 53,.fieldAddr 0 (.tmp 52),none⟩, ⟨some 54,.load false false 1 (.tmp 53),none⟩]
def q34_13_1 : List MOper := [⟨some 55,.fieldAddr 2 (.tmp 3),none⟩, ⟨some 56,.load false false 1 (.tmp 55),none⟩, ⟨some 57,.bin .eql (.tmp 54) (.tmp 56),none⟩, ⟨some 58,.mov false (.tmp 57),none⟩, ⟨some 59,.fieldAddr 3 (.tmp 7),some (58, true)⟩, ⟨some 60,.load false false 1 (.tmp 59),some (58, true)⟩]
def q34_13_2 : List MOper := [⟨some 61,.mov false (.tmp 9),some (58, true)⟩, ⟨some 62,.index 3 (.tmp 60) (.tmp 61),some (58, true)⟩, ⟨some 63,.fieldAddr 1 (.tmp 62),some (58, true)⟩, ⟨some 64,.load false false 1 (.tmp 63),some (58, true)⟩, ⟨some 65,.fieldAddr 4 (.tmp 3),some (58, true)⟩, ⟨some 66,.load false false 1 (.tmp 65),some (58, true)⟩]
def q34_13_3 : List MOper := [⟨some 67,.len false (.tmp 66),some (58, true)⟩, ⟨some 68,.bin .eql (.tmp 64) (.tmp 67),some (58, true)⟩, ⟨some 69,.pick (.tmp 58) (.tmp 68) (.lit (.bool false)),none⟩]
def r34_13 : MCode := .region 13 (q34_13_0 ++ (q34_13_1 ++ (q34_13_2 ++ q34_13_3))) true [3, 7, 9, 69]
theorem x34_13 : exec run esc l base r34_13 e σ = (stepOps run esc base q34_13_0 e σ).bind fun x => (stepOps run esc base q34_13_1 x.1 x.2).bind fun x => (stepOps run esc base q34_13_2 x.1 x.2).bind fun x => (stepOps run esc base q34_13_3 x.1 x.2).bind (Zk [3, 7, 9, 69] base) := by simp only [r34_13, regN, regA, Option.bind_assoc]
def q34_14_0 : List MOper := [⟨some 70,.fieldAddr 3 (.tmp 7),none⟩, ⟨some 71,.load false false 1 (.tmp 70),none⟩, ⟨some 72,.mov false (.tmp 9),none⟩, ⟨some 73,.index 3 (.tmp 71) (.tmp 72),none⟩, ⟨some 74,.fieldAddr 2 (.tmp 73),none⟩, ⟨some 75,.load false false 1 (.tmp 74),none⟩]
def q34_14_1 : List MOper := [⟨some 4,.mov false (.tmp 75),none⟩, ⟨some 5,.mov false (.lit (.bool true)),none⟩, ⟨some 6,.mov false (.lit (.int .i64 0)),none⟩]
def r34_14 : MCode := .region 14 (q34_14_0 ++ q34_14_1) false [4, 5, 6]
theorem x34_14 : exec run esc l base r34_14 e σ = (stepOps run esc base q34_14_0 e σ).bind fun x => (stepOps run esc base q34_14_1 x.1 x.2).bind (Zk [4, 5, 6] base) := reg2
def q34_12_0 : List MOper := [⟨some 47,.mov false (.tmp 9),none⟩, ⟨some 48,.bin .add (.tmp 47) (.lit (.int .i64 1)),none⟩, ⟨some 9,.mov false (.tmp 48),none⟩]
def r34_12 : MCode := .region 12 q34_12_0 false [3, 7, 9]
theorem x34_12 : exec run esc l base r34_12 e σ = (stepOps run esc base q34_12_0 e σ).bind (Zk [3, 7, 9] base) := rfl
def l34_0 : MCode := (.seq (.seq r34_11 (.cond (.tmp 46) .skip (.exit 0))) (.seq (.block 1 (.seq r34_13 (.cond (.tmp 69) (.seq r34_14 .ret) .skip))) r34_12))
def q34_15_0 : List MOper := [⟨some 76,.fieldAddr 2 (.tmp 3),none⟩, ⟨some 77,.load false false 1 (.tmp 76),none⟩, ⟨some 78,.fieldAddr 2 (.tmp 7),none⟩, ⟨some 79,.load false false 1 (.tmp 78),none⟩, ⟨some 80,.bin .neq (.tmp 77) (.tmp 79),none⟩]
def r34_15 : MCode := .region 15 q34_15_0 false [80]
theorem x34_15 : exec run esc l base r34_15 e σ = (stepOps run esc base q34_15_0 e σ).bind (Zk [80] base) := rfl
def q34_16_0 : List MOper := [⟨some 4,.mov false (.lit (.int .i64 0)),none⟩, ⟨some 5,.mov false (.lit (.bool false)),none⟩, ⟨some 6,.mov false (.lit (.int .i64 101)),none⟩]
def r34_16 : MCode := .region 16 q34_16_0 false [4, 5, 6]
theorem x34_16 : exec run esc l base r34_16 e σ = (stepOps run esc base q34_16_0 e σ).bind (Zk [4, 5, 6] base) := rfl
def q34_17_0 : List MOper := [⟨some 4,.mov false (.lit (.int .i64 (-1))),none⟩, ⟨some 5,.mov false (.lit (.bool false)),none⟩, ⟨some 6,.mov false (.lit (.int .i64 0)),none⟩]
def r34_17 : MCode := .region 17 q34_17_0 false [4, 5, 6]
theorem x34_17 : exec run esc l base r34_17 e σ = (stepOps run esc base q34_17_0 e σ).bind (Zk [4, 5, 6] base) := rfl
def m34 : MFunc := ⟨(.seq r34_0 (.seq (.seq r34_1 (.cond (.tmp 17) (.seq r34_2 .ret) .skip)) (.seq r34_3 (.seq (.seq r34_4 (.cond (.tmp 33) (.seq (.seq r34_5 (.cond (.tmp 36) (.seq r34_6 .ret) .skip)) (.seq r34_7 .ret)) .skip)) (.seq (.seq r34_8 (.cond (.tmp 41) (.seq r34_9 .ret) .skip)) (.seq (.seq r34_10 (.block 0 (.loop l34_0))) (.seq (.seq r34_15 (.cond (.tmp 80) (.seq r34_16 .ret) .skip)) (.seq r34_17 .ret)))))))), [.tmp 4, .tmp 5, .tmp 6], false, false⟩
def q35_0_0 : List MOper := [⟨some 4,.alloc [(.int .i64 0), (.int .i64 0), (.int .i64 0), (.slice true [])],none⟩, ⟨some 5,.mov false (.lit (.bool false)),none⟩]
def r35_0 : MCode := .region 0 q35_0_0 false [0, 1, 4]
theorem x35_0 : exec run esc l base r35_0 e σ = (stepOps run esc base q35_0_0 e σ).bind (Zk [0, 1, 4] base) := rfl
def q35_1_0 : List MOper := [⟨some 6,.mov false (.lit (.int .i64 0)),none⟩]
def r35_1 : MCode := .region 1 q35_1_0 false [0, 1, 4, 6]
theorem x35_1 : exec run esc l base r35_1 e σ = (stepOps run esc base q35_1_0 e σ).bind (Zk [0, 1, 4, 6] base) := rfl
def q35_2_0 : List MOper := [⟨some 7,.mov false (.tmp 6),none⟩, ⟨some 8,.mov false (.tmp 0),none⟩, ⟨some 9,.len false (.tmp 8),none⟩, ⟨some 10,.bin .lss (.tmp 7) (.tmp 9),none⟩]
def r35_2 : MCode := .region 2 q35_2_0 false [0, 1, 4, 6, 10]
theorem x35_2 : exec run esc l base r35_2 e σ = (stepOps run esc base q35_2_0 e σ).bind (Zk [0, 1, 4, 6, 10] base) := rfl
def q35_4_0 : List MOper := [⟨some 13,.mov false (.tmp 0),none⟩, ⟨some 14,.mov false (.tmp 6),none⟩, ⟨some 15,.index 4 (.tmp 13) (.tmp 14),none⟩, ⟨some 16,.fieldAddr 0 (.tmp 15),none⟩, ⟨some 17,.load false false 1 (.tmp 16),none⟩, ⟨some 18,.mov false (.tmp 1),none⟩]
def q35_4_1 : List MOper := [⟨some 19,.bin .eql (.tmp 17) (.tmp 18),none⟩]
def r35_4 : MCode := .region 4 (q35_4_0 ++ q35_4_1) false [0, 1, 4, 6, 19]
theorem x35_4 : exec run esc l base r35_4 e σ = (stepOps run esc base q35_4_0 e σ).bind fun x => (stepOps run esc base q35_4_1 x.1 x.2).bind (Zk [0, 1, 4, 6, 19] base) := reg2
def q35_5_0 : List MOper := [⟨some 20,.mov false (.tmp 0),none⟩, ⟨some 21,.mov false (.tmp 6),none⟩, ⟨some 22,.index 4 (.tmp 20) (.tmp 21),none⟩, ⟨some 23,.load false true 4 (.tmp 22),none⟩, ⟨none,.store 4 (.tmp 4) (.tmp 23),none⟩, ⟨some 5,.mov false (.lit (.bool true)),none⟩]
def r35_5 : MCode := .region 5 q35_5_0 false [4, 5]
theorem x35_5 : exec run esc l base r35_5 e σ = (stepOps run esc base q35_5_0 e σ).bind (Zk [4, 5] base) := rfl
def q35_3_0 : List MOper := [⟨some 11,.mov false (.tmp 6),none⟩, ⟨some 12,.bin .add (.tmp 11) (.lit (.int .i64 1)),none⟩, ⟨some 6,.mov false (.tmp 12),none⟩]
def r35_3 : MCode := .region 3 q35_3_0 false [0, 1, 4, 6]
theorem x35_3 : exec run esc l base r35_3 e σ = (stepOps run esc base q35_3_0 e σ).bind (Zk [0, 1, 4, 6] base) := rfl
def l35_0 : MCode := (.seq (.seq r35_2 (.cond (.tmp 10) .skip (.exit 0))) (.seq (.block 1 (.seq r35_4 (.cond (.tmp 19) (.seq r35_5 .ret) .skip))) r35_3))
def q35_6_0 : List MOper := [⟨some 24,.build [(.int .i64 0), (.int .i64 0), (.int .i64 0), (.slice true [])] [],none⟩, ⟨none,.store 4 (.tmp 4) (.tmp 24),none⟩, ⟨some 5,.mov false (.lit (.bool false)),none⟩]
def r35_6 : MCode := .region 6 q35_6_0 false [4, 5]
theorem x35_6 : exec run esc l base r35_6 e σ = (stepOps run esc base q35_6_0 e σ).bind (Zk [4, 5] base) := rfl
def m35 : MFunc := ⟨(.seq r35_0 (.seq (.seq r35_1 (.block 0 (.loop l35_0))) (.seq r35_6 .ret))), [.cell 4 true 4, .tmp 5], false, false⟩
def q36_0_0 : List MOper := [⟨some 1,.box 5 (.tmp 0),none⟩, ⟨some 2,.mov false (.lit (.int .i64 0)),none⟩]
def r36_0 : MCode := .region 0 q36_0_0 false [1]
theorem x36_0 : exec run esc l base r36_0 e σ = (stepOps run esc base q36_0_0 e σ).bind (Zk [1] base) := rfl
def q36_1_0 : List MOper := [⟨some 3,.fieldAddr 2 (.tmp 1),none⟩, ⟨some 4,.load false false 1 (.tmp 3),none⟩, ⟨some 5,.fieldAddr 4 (.tmp 1),none⟩, ⟨some 6,.load false false 1 (.tmp 5),none⟩, ⟨some 7,.len false (.tmp 6),none⟩, ⟨some 8,.bin .add (.tmp 4) (.tmp 7),none⟩]
def q36_1_1 : List MOper := [⟨some 2,.mov false (.tmp 8),none⟩]
def r36_1 : MCode := .region 1 (q36_1_0 ++ q36_1_1) false [2]
theorem x36_1 : exec run esc l base r36_1 e σ = (stepOps run esc base q36_1_0 e σ).bind fun x => (stepOps run esc base q36_1_1 x.1 x.2).bind (Zk [2] base) := reg2
def m36 : MFunc := ⟨(.seq r36_0 (.seq r36_1 .ret)), [.tmp 2], false, false⟩
def q37_0_0 : List MOper := [⟨some 3,.box 4 (.tmp 1),none⟩, ⟨some 4,.mov true (.lit (.slice true [])),none⟩]
def r37_0 : MCode := .region 0 q37_0_0 false [0, 3]
theorem x37_0 : exec run esc l base r37_0 e σ = (stepOps run esc base q37_0_0 e σ).bind (Zk [0, 3] base) := rfl
def q37_1_0 : List MOper := [⟨some 9,.mov false (.tmp 0),none⟩, ⟨some 10,.fieldAddr 0 (.tmp 3),none⟩, ⟨some 11,.load false false 1 (.tmp 10),none⟩, ⟨some 12,.call (.lit (.fn 55 [])) [(.tmp 9), (.tmp 11)],none⟩, ⟨some 8,.mov false (.tmp 12),none⟩, ⟨some 13,.extract 0 (.tmp 8),none⟩]
def q37_1_1 : List MOper := [⟨some 14,.extract 1 (.tmp 8),none⟩, ⟨some 5,.mov false (.tmp 13),none⟩, ⟨some 6,.mov false (.tmp 14),none⟩]
def r37_1 : MCode := .region 1 (q37_1_0 ++ q37_1_1) false [0, 3, 5, 6]
theorem x37_1 : exec run esc l base r37_1 e σ = (stepOps run esc base q37_1_0 e σ).bind fun x => (stepOps run esc base q37_1_1 x.1 x.2).bind (Zk [0, 3, 5, 6] base) := reg2
def q37_2_0 : List MOper := [⟨some 7,.mov true (.lit (.slice true [])),none⟩]
def r37_2 : MCode := .region 2 q37_2_0 false [0, 3, 5, 6, 7]
theorem x37_2 : exec run esc l base r37_2 e σ = (stepOps run esc base q37_2_0 e σ).bind (Zk [0, 3, 5, 6, 7] base) := rfl
def q37_3_0 : List MOper := [⟨some 15,.mov true (.tmp 7),none⟩, ⟨some 16,.mov false (.tmp 0),none⟩, ⟨some 17,.mov false (.tmp 5),none⟩, ⟨some 18,.slice 4 (.tmp 16) none (some (.tmp 17)) none,none⟩, ⟨some 19,.append false 4 48 (.tmp 15) (.tmp 18),none⟩, ⟨some 7,.mov true (.tmp 19),none⟩]
def r37_3 : MCode := .region 3 q37_3_0 false [0, 3, 5, 6, 7]
theorem x37_3 : exec run esc l base r37_3 e σ = (stepOps run esc base q37_3_0 e σ).bind (Zk [0, 3, 5, 6, 7] base) := rfl
def q37_4_0 : List MOper := [⟨some 20,.mov true (.tmp 7),none⟩, ⟨some 21,.load false true 4 (.tmp 3),none⟩, ⟨some 22,.buildSlice 4 [(.tmp 21)],none⟩, ⟨some 23,.append false 4 48 (.tmp 20) (.tmp 22),none⟩, ⟨some 7,.mov true (.tmp 23),none⟩]
def r37_4 : MCode := .region 4 q37_4_0 false [0, 5, 6, 7]
theorem x37_4 : exec run esc l base r37_4 e σ = (stepOps run esc base q37_4_0 e σ).bind (Zk [0, 5, 6, 7] base) := rfl
def q37_5_0 : List MOper := [⟨some 24,.mov false (.tmp 6),none⟩]
def r37_5 : MCode := .region 5 q37_5_0 false [0, 5, 7, 24]
theorem x37_5 : exec run esc l base r37_5 e σ = (stepOps run esc base q37_5_0 e σ).bind (Zk [0, 5, 7, 24] base) := rfl
def q37_6_0 : List MOper := [⟨some 25,.mov false (.tmp 5),none⟩, ⟨some 26,.bin .add (.tmp 25) (.lit (.int .i64 1)),none⟩, ⟨some 5,.mov false (.tmp 26),none⟩]
def r37_6 : MCode := .region 6 q37_6_0 false [0, 5, 7]
theorem x37_6 : exec run esc l base r37_6 e σ = (stepOps run esc base q37_6_0 e σ).bind (Zk [0, 5, 7] base) := rfl
def q37_7_0 : List MOper := [⟨some 27,.mov true (.tmp 7),none⟩, ⟨some 28,.mov false (.tmp 0),none⟩, ⟨some 29,.mov false (.tmp 5),none⟩, ⟨some 30,.slice 4 (.tmp 28) (some (.tmp 29)) none none,none⟩, ⟨some 31,.append false 4 48 (.tmp 27) (.tmp 30),none⟩, ⟨some 4,.mov true (.tmp 31),none⟩]
def r37_7 : MCode := .region 7 q37_7_0 false [4]
theorem x37_7 : exec run esc l base r37_7 e σ = (stepOps run esc base q37_7_0 e σ).bind (Zk [4] base) := rfl
def m37 : MFunc := ⟨(.seq r37_0 (.seq r37_1 (.seq r37_2 (.seq r37_3 (.seq r37_4 (.seq (.seq r37_5 (.cond (.tmp 24) r37_6 .skip)) (.seq r37_7 .ret))))))), [.tmp 4], false, false⟩
def q38_0_0 : List MOper := [⟨some 1,.box 5 (.tmp 0),none⟩, ⟨some 2,.mov false (.lit (.bool false)),none⟩]
def r38_0 : MCode := .region 0 q38_0_0 false [1]
theorem x38_0 : exec run esc l base r38_0 e σ = (stepOps run esc base q38_0_0 e σ).bind (Zk [1] base) := rfl
def q38_1_0 : List MOper := [⟨some 6,.fieldAddr 4 (.tmp 1),none⟩, ⟨some 7,.load false false 1 (.tmp 6),none⟩, ⟨some 8,.len false (.tmp 7),none⟩, ⟨some 3,.mov false (.tmp 8),none⟩]
def r38_1 : MCode := .region 1 q38_1_0 false [1, 3]
theorem x38_1 : exec run esc l base r38_1 e σ = (stepOps run esc base q38_1_0 e σ).bind (Zk [1, 3] base) := rfl
def q38_2_0 : List MOper := [⟨some 10,.fieldAddr 0 (.tmp 1),none⟩, ⟨some 11,.load false false 1 (.tmp 10),none⟩, ⟨some 12,.call (.lit (.fn 56 [])) [(.tmp 11), (.lit (.int .i64 1)), (.lit (.int .i64 8))],none⟩, ⟨some 13,.un .not (.tmp 12),none⟩, ⟨some 9,.mov false (.tmp 13),none⟩]
def r38_2 : MCode := .region 2 q38_2_0 false [1, 3, 9]
theorem x38_2 : exec run esc l base r38_2 e σ = (stepOps run esc base q38_2_0 e σ).bind (Zk [1, 3, 9] base) := rfl
def q38_3_0 : List MOper := [⟨some 14,.fieldAddr 1 (.tmp 1),none⟩, ⟨some 15,.load false false 1 (.tmp 14),none⟩, ⟨some 16,.call (.lit (.fn 56 [])) [(.tmp 15), (.lit (.int .i64 0)), (.lit (.int .i64 100))],none⟩, ⟨some 17,.un .not (.tmp 16),none⟩, ⟨some 9,.mov false (.tmp 17),none⟩]
def r38_3 : MCode := .region 3 q38_3_0 false [1, 3, 9]
theorem x38_3 : exec run esc l base r38_3 e σ = (stepOps run esc base q38_3_0 e σ).bind (Zk [1, 3, 9] base) := rfl
def q38_4_0 : List MOper := [⟨some 19,.mov false (.tmp 3),none⟩, ⟨some 20,.call (.lit (.fn 56 [])) [(.tmp 19), (.lit (.int .i64 1)), (.lit (.int .i64 4))],none⟩, ⟨some 21,.un .not (.tmp 20),none⟩, ⟨some 18,.mov false (.tmp 21),none⟩]
def r38_4 : MCode := .region 4 q38_4_0 false [1, 3, 18]
theorem x38_4 : exec run esc l base r38_4 e σ = (stepOps run esc base q38_4_0 e σ).bind (Zk [1, 3, 18] base) := rfl
def q38_5_0 : List MOper := [⟨some 22,.fieldAddr 2 (.tmp 1),none⟩, ⟨some 23,.load false false 1 (.tmp 22),none⟩, ⟨some 24,.mov false (.tmp 3),none⟩, ⟨some 25,.bin .sub (.lit (.int .i64 1048576)) (.tmp 24),none⟩, ⟨some 26,.call (.lit (.fn 56 [])) [(.tmp 23), (.lit (.int .i64 0)), (.tmp 25)],none⟩, ⟨some 27,.un .not (.tmp 26),none⟩]
def q38_5_1 : List MOper := [⟨some 18,.mov false (.tmp 27),none⟩]
def r38_5 : MCode := .region 5 (q38_5_0 ++ q38_5_1) false [1, 18]
theorem x38_5 : exec run esc l base r38_5 e σ = (stepOps run esc base q38_5_0 e σ).bind fun x => (stepOps run esc base q38_5_1 x.1 x.2).bind (Zk [1, 18] base) := reg2
def q38_6_0 : List MOper := [⟨some 2,.mov false (.lit (.bool false)),none⟩]
def r38_6 : MCode := .region 6 q38_6_0 false [2]
theorem x38_6 : exec run esc l base r38_6 e σ = (stepOps run esc base q38_6_0 e σ).bind (Zk [2] base) := rfl
def q38_7_0 : List MOper := [⟨some 28,.fieldAddr 4 (.tmp 1),none⟩, ⟨some 29,.load false false 1 (.tmp 28),none⟩, ⟨some 30,.len false (.tmp 29),none⟩, ⟨some 31,.mov false (.lit (.int .i64 0)),none⟩]
def r38_7 : MCode := .region 7 q38_7_0 false [29, 30, 31]
theorem x38_7 : exec run esc l base r38_7 e σ = (stepOps run esc base q38_7_0 e σ).bind (Zk [29, 30, 31] base) := rfl
def q38_8_0 : List MOper := [⟨some 32,.bin .lss (.tmp 31) (.tmp 30),none⟩]
def r38_8 : MCode := .region 8 q38_8_0 false [29, 30, 31, 32]
theorem x38_8 : exec run esc l base r38_8 e σ = (stepOps run esc base q38_8_0 e σ).bind (Zk [29, 30, 31, 32] base) := rfl
def q38_9_0 : List MOper := [⟨some 33,.index 2 (.tmp 29) (.tmp 31),none⟩, ⟨some 34,.load false true 2 (.tmp 33),none⟩, ⟨some 5,.alloc [(.str []), (.str [])],none⟩, ⟨none,.store 2 (.tmp 5) (.tmp 34),none⟩]
def r38_9 : MCode := .region 9 q38_9_0 false [5, 29, 30, 31]
theorem x38_9 : exec run esc l base r38_9 e σ = (stepOps run esc base q38_9_0 e σ).bind (Zk [5, 29, 30, 31] base) := rfl
def q38_10_0 : List MOper := [⟨some 35,.fieldAddr 0 (.tmp 5),none⟩, ⟨some 36,.load false false 1 (.tmp 35),none⟩, ⟨some 37,.len true (.tmp 36),none⟩, ⟨some 38,.bin .gtr (.tmp 37) (.lit (.int .i64 16)),none⟩, ⟨some 39,.mov false (.tmp 38),none⟩, ⟨some 40,.fieldAddr 1 (.tmp 5),some (39, false)⟩]
def q38_10_1 : List MOper := [⟨some 41,.load false false 1 (.tmp 40),some (39, false)⟩, ⟨some 42,.len true (.tmp 41),some (39, false)⟩, ⟨some 43,.bin .gtr (.tmp 42) (.lit (.int .i64 16)),some (39, false)⟩, ⟨some 44,.pick (.tmp 39) (.lit (.bool true)) (.tmp 43),none⟩]
def r38_10 : MCode := .region 10 (q38_10_0 ++ q38_10_1) false [29, 30, 31, 44]
theorem x38_10 : exec run esc l base r38_10 e σ = (stepOps run esc base q38_10_0 e σ).bind fun x => (stepOps run esc base q38_10_1 x.1 x.2).bind (Zk [29, 30, 31, 44] base) := reg2
def q38_11_0 : List MOper := [⟨some 2,.mov false (.lit (.bool false)),none⟩]
def r38_11 : MCode := .region 11 q38_11_0 false [2]
theorem x38_11 : exec run esc l base r38_11 e σ = (stepOps run esc base q38_11_0 e σ).bind (Zk [2] base) := rfl
def q38_12_0 : List MOper := [⟨some 45,.bin .add (.tmp 31) (.lit (.int .i64 1)),none⟩, ⟨some 31,.mov false (.tmp 45),none⟩]
def r38_12 : MCode := .region 12 q38_12_0 false [29, 30, 31]
theorem x38_12 : exec run esc l base r38_12 e σ = (stepOps run esc base q38_12_0 e σ).bind (Zk [29, 30, 31] base) := rfl
def l38_0 : MCode := (.seq r38_8 (.seq (.cond (.tmp 32) .skip (.exit 3)) (.seq (.block 4 (.seq r38_9 (.seq r38_10 (.cond (.tmp 44) (.seq r38_11 .ret) .skip)))) r38_12)))
def q38_13_0 : List MOper := [⟨some 2,.mov false (.lit (.bool true)),none⟩]
def r38_13 : MCode := .region 13 q38_13_0 false [2]
theorem x38_13 : exec run esc l base r38_13 e σ = (stepOps run esc base q38_13_0 e σ).bind (Zk [2] base) := rfl
def m38 : MFunc := ⟨(.seq r38_0 (.seq r38_1 (.seq (.block 0 (.seq (.block 2 (.block 1 (.seq (.seq (.seq (.seq r38_2 (.cond (.tmp 9) .skip r38_3)) (.cond (.tmp 9) (.exit 1) .skip)) (.seq (.seq r38_4 (.cond (.tmp 18) .skip r38_5)) (.cond (.tmp 18) (.exit 2) .skip))) (.exit 0)))) (.seq (.seq r38_6 .ret) (.exit 0)))) (.seq (.seq r38_7 (.block 3 (.loop l38_0))) (.seq r38_13 .ret))))), [.tmp 2], false, false⟩
def q39_0_0 : List MOper := [⟨some 4,.mov false (.lit (.int .i64 0)),none⟩]
def r39_0 : MCode := .region 0 q39_0_0 false [0, 1]
theorem x39_0 : exec run esc l base r39_0 e σ = (stepOps run esc base q39_0_0 e σ).bind (Zk [0, 1] base) := rfl
def q39_1_0 : List MOper := [⟨some 7,.mov false (.tmp 0),none⟩, ⟨some 8,.len false (.tmp 7),none⟩, ⟨some 9,.mov false (.lit (.int .i64 0)),none⟩]
def r39_1 : MCode := .region 1 q39_1_0 false [0, 1, 7, 8, 9]
theorem x39_1 : exec run esc l base r39_1 e σ = (stepOps run esc base q39_1_0 e σ).bind (Zk [0, 1, 7, 8, 9] base) := rfl
def q39_2_0 : List MOper := [⟨some 10,.bin .lss (.tmp 9) (.tmp 8),none⟩]
def r39_2 : MCode := .region 2 q39_2_0 false [0, 1, 7, 8, 9, 10]
theorem x39_2 : exec run esc l base r39_2 e σ = (stepOps run esc base q39_2_0 e σ).bind (Zk [0, 1, 7, 8, 9, 10] base) := rfl
def q39_3_0 : List MOper := [⟨some 11,.mov false (.tmp 9),none⟩, ⟨some 12,.index 3 (.tmp 7) (.tmp 9),none⟩, ⟨some 13,.load false true 3 (.tmp 12),none⟩, ⟨some 6,.alloc [(.int .i64 0), (.int .i64 0), (.int .i64 0)],none⟩, ⟨some 5,.mov false (.tmp 11),none⟩, ⟨none,.store 3 (.tmp 6) (.tmp 13),none⟩]
def r39_3 : MCode := .region 3 q39_3_0 false [0, 1, 5, 6, 7, 8, 9]
theorem x39_3 : exec run esc l base r39_3 e σ = (stepOps run esc base q39_3_0 e σ).bind (Zk [0, 1, 5, 6, 7, 8, 9] base) := rfl
def q39_4_0 : List MOper := [⟨some 14,.mov false (.tmp 1),none⟩, ⟨some 15,.load false true 3 (.tmp 6),none⟩, ⟨some 16,.call (.tmp 14) [(.tmp 15)],none⟩]
def r39_4 : MCode := .region 4 q39_4_0 false [0, 1, 5, 7, 8, 9, 16]
theorem x39_4 : exec run esc l base r39_4 e σ = (stepOps run esc base q39_4_0 e σ).bind (Zk [0, 1, 5, 7, 8, 9, 16] base) := rfl
def q39_5_0 : List MOper := [⟨some 17,.mov false (.tmp 5),none⟩, ⟨some 4,.mov false (.tmp 17),none⟩]
def r39_5 : MCode := .region 5 q39_5_0 false [4]
theorem x39_5 : exec run esc l base r39_5 e σ = (stepOps run esc base q39_5_0 e σ).bind (Zk [4] base) := rfl
def q39_6_0 : List MOper := [⟨some 18,.bin .add (.tmp 9) (.lit (.int .i64 1)),none⟩, ⟨some 9,.mov false (.tmp 18),none⟩]
def r39_6 : MCode := .region 6 q39_6_0 false [0, 1, 7, 8, 9]
theorem x39_6 : exec run esc l base r39_6 e σ = (stepOps run esc base q39_6_0 e σ).bind (Zk [0, 1, 7, 8, 9] base) := rfl
def l39_0 : MCode := (.seq r39_2 (.seq (.cond (.tmp 10) .skip (.exit 0)) (.seq (.block 1 (.seq r39_3 (.seq r39_4 (.cond (.tmp 16) (.seq r39_5 .ret) .skip)))) r39_6)))
def q39_7_0 : List MOper := [⟨some 19,.mov false (.tmp 0),none⟩, ⟨some 20,.len false (.tmp 19),none⟩, ⟨some 4,.mov false (.tmp 20),none⟩]
def r39_7 : MCode := .region 7 q39_7_0 false [4]
theorem x39_7 : exec run esc l base r39_7 e σ = (stepOps run esc base q39_7_0 e σ).bind (Zk [4] base) := rfl
def m39 : MFunc := ⟨(.seq r39_0 (.seq (.seq r39_1 (.block 0 (.loop l39_0))) (.seq r39_7 .ret))), [.tmp 4], false, false⟩
def q40_0_0 : List MOper := [⟨some 2,.box 3 (.tmp 0),none⟩, ⟨some 3,.mov false (.lit (.bool false)),none⟩]
def r40_0 : MCode := .region 0 q40_0_0 false [1, 2]
theorem x40_0 : exec run esc l base r40_0 e σ = (stepOps run esc base q40_0_0 e σ).bind (Zk [1, 2] base) := rfl
def q40_1_0 : List MOper := [⟨some 4,.fieldAddr 0 (.tmp 2),none⟩, ⟨some 5,.load false false 1 (.tmp 4),none⟩, ⟨some 6,.fieldAddr 2 (.tmp 1),none⟩, ⟨some 7,.load false false 1 (.tmp 6),none⟩, ⟨some 8,.bin .eql (.tmp 5) (.tmp 7),none⟩, ⟨some 9,.mov false (.tmp 8),none⟩]
def q40_1_1 : List MOper := [⟨some 10,.fieldAddr 1 (.tmp 2),some (9, true)⟩, ⟨some 11,.load false false 1 (.tmp 10),some (9, true)⟩, ⟨some 12,.fieldAddr 4 (.tmp 1),some (9, true)⟩, ⟨some 13,.load false false 1 (.tmp 12),some (9, true)⟩, ⟨some 14,.len false (.tmp 13),some (9, true)⟩, ⟨some 15,.bin .eql (.tmp 11) (.tmp 14),some (9, true)⟩]
def q40_1_2 : List MOper := [⟨some 16,.pick (.tmp 9) (.tmp 15) (.lit (.bool false)),none⟩, ⟨some 3,.mov false (.tmp 16),none⟩]
def r40_1 : MCode := .region 1 (q40_1_0 ++ (q40_1_1 ++ q40_1_2)) false [3]
theorem x40_1 : exec run esc l base r40_1 e σ = (stepOps run esc base q40_1_0 e σ).bind fun x => (stepOps run esc base q40_1_1 x.1 x.2).bind fun x => (stepOps run esc base q40_1_2 x.1 x.2).bind (Zk [3] base) := by simp only [r40_1, regN, regA, Option.bind_assoc]
def m40 : MFunc := ⟨(.seq r40_0 (.seq r40_1 .ret)), [.tmp 3], false, false⟩
def q41_0_0 : List MOper := [⟨some 1,.box 4 (.tmp 0),none⟩, ⟨some 2,.mov false (.lit (.bool false)),none⟩]
def r41_0 : MCode := .region 0 q41_0_0 false [1]
theorem x41_0 : exec run esc l base r41_0 e σ = (stepOps run esc base q41_0_0 e σ).bind (Zk [1] base) := rfl
def q41_1_0 : List MOper := [⟨some 6,.fieldAddr 0 (.tmp 1),none⟩, ⟨some 7,.load false false 1 (.tmp 6),none⟩, ⟨some 8,.fieldAddr 1 (.tmp 1),none⟩, ⟨some 9,.load false false 1 (.tmp 8),none⟩, ⟨some 10,.call (.lit (.fn 57 [])) [(.tmp 7), (.tmp 9)],none⟩, ⟨some 11,.un .not (.tmp 10),none⟩]
def q41_1_1 : List MOper := [⟨some 12,.mov false (.tmp 11),none⟩, ⟨some 13,.fieldAddr 2 (.tmp 1),some (12, false)⟩, ⟨some 14,.load false false 1 (.tmp 13),some (12, false)⟩, ⟨some 15,.call (.lit (.fn 58 [])) [(.tmp 14), (.lit (.int .i64 0)), (.lit (.int .i64 1048576))],some (12, false)⟩, ⟨some 16,.un .not (.tmp 15),some (12, false)⟩, ⟨some 17,.pick (.tmp 12) (.lit (.bool true)) (.tmp 16),none⟩]
def q41_1_2 : List MOper := [⟨some 18,.mov false (.tmp 17),none⟩, ⟨some 19,.fieldAddr 3 (.tmp 1),some (18, false)⟩, ⟨some 20,.load false false 1 (.tmp 19),some (18, false)⟩, ⟨some 21,.len false (.tmp 20),some (18, false)⟩, ⟨some 22,.bin .gtr (.tmp 21) (.lit (.int .i64 3)),some (18, false)⟩, ⟨some 23,.pick (.tmp 18) (.lit (.bool true)) (.tmp 22),none⟩]
def r41_1 : MCode := .region 1 (q41_1_0 ++ (q41_1_1 ++ q41_1_2)) false [1, 23]
theorem x41_1 : exec run esc l base r41_1 e σ = (stepOps run esc base q41_1_0 e σ).bind fun x => (stepOps run esc base q41_1_1 x.1 x.2).bind fun x => (stepOps run esc base q41_1_2 x.1 x.2).bind (Zk [1, 23] base) := by simp only [r41_1, regN, regA, Option.bind_assoc]
def q41_2_0 : List MOper := [⟨some 2,.mov false (.lit (.bool false)),none⟩]
def r41_2 : MCode := .region 2 q41_2_0 false [2]
theorem x41_2 : exec run esc l base r41_2 e σ = (stepOps run esc base q41_2_0 e σ).bind (Zk [2] base) := rfl
def q41_3_0 : List MOper := [⟨some 3,.mov false (.lit (.int .i64 0)),none⟩]
def r41_3 : MCode := .region 3 q41_3_0 false [1, 3]
theorem x41_3 : exec run esc l base r41_3 e σ = (stepOps run esc base q41_3_0 e σ).bind (Zk [1, 3] base) := rfl
def q41_4_0 : List MOper := [⟨some 24,.fieldAddr 3 (.tmp 1),none⟩, ⟨some 25,.load false false 1 (.tmp 24),none⟩, ⟨some 26,.len false (.tmp 25),none⟩, ⟨some 27,.mov false (.lit (.int .i64 0)),none⟩]
def r41_4 : MCode := .region 4 q41_4_0 false [1, 3, 25, 26, 27]
theorem x41_4 : exec run esc l base r41_4 e σ = (stepOps run esc base q41_4_0 e σ).bind (Zk [1, 3, 25, 26, 27] base) := rfl
def q41_5_0 : List MOper := [⟨some 28,.bin .lss (.tmp 27) (.tmp 26),none⟩]
def r41_5 : MCode := .region 5 q41_5_0 false [1, 3, 25, 26, 27, 28]
theorem x41_5 : exec run esc l base r41_5 e σ = (stepOps run esc base q41_5_0 e σ).bind (Zk [1, 3, 25, 26, 27, 28] base) := rfl
def q41_6_0 : List MOper := [⟨some 29,.index 3 (.tmp 25) (.tmp 27),none⟩, ⟨some 30,.load false true 3 (.tmp 29),none⟩, ⟨some 5,.alloc [(.int .i64 0), (.int .i64 0), (.int .i64 0)],none⟩, ⟨none,.store 3 (.tmp 5) (.tmp 30),none⟩]
def r41_6 : MCode := .region 6 q41_6_0 false [1, 3, 5, 25, 26, 27]
theorem x41_6 : exec run esc l base r41_6 e σ = (stepOps run esc base q41_6_0 e σ).bind (Zk [1, 3, 5, 25, 26, 27] base) := rfl
def q41_7_0 : List MOper := [⟨some 31,.fieldAddr 0 (.tmp 5),none⟩, ⟨some 32,.load false false 1 (.tmp 31),none⟩, ⟨some 33,.mov false (.tmp 3),none⟩, ⟨some 34,.bin .lss (.tmp 32) (.tmp 33),none⟩, ⟨some 35,.mov false (.tmp 34),none⟩, ⟨some 36,.fieldAddr 0 (.tmp 5),some (35, false)⟩]
def q41_7_1 : List MOper := [⟨some 37,.load false false 1 (.tmp 36),some (35, false)⟩, ⟨some 38,.fieldAddr 2 (.tmp 1),some (35, false)⟩, ⟨some 39,.load false false 1 (.tmp 38),some (35, false)⟩, ⟨some 40,.bin .gtr (.tmp 37) (.tmp 39),some (35, false)⟩, ⟨some 41,.pick (.tmp 35) (.lit (.bool true)) (.tmp 40),none⟩, ⟨some 42,.mov false (.tmp 41),none⟩]
def q41_7_2 : List MOper := [⟨some 43,.fieldAddr 1 (.tmp 5),some (42, false)⟩, ⟨some 44,.load false false 1 (.tmp 43),some (42, false)⟩, ⟨some 45,.call (.lit (.fn 58 [])) [(.tmp 44), (.lit (.int .i64 1)), (.lit (.int .i64 4))],some (42, false)⟩, ⟨some 46,.un .not (.tmp 45),some (42, false)⟩, ⟨some 47,.pick (.tmp 42) (.lit (.bool true)) (.tmp 46),none⟩, ⟨some 48,.mov false (.tmp 47),none⟩]
def q41_7_3 : List MOper := [⟨some 49,.fieldAddr 2 (.tmp 5),some (48, false)⟩, ⟨some 50,.load false false 1 (.tmp 49),some (48, false)⟩, ⟨some 51,.call (.lit (.fn 58 [])) [(.tmp 50), (.lit (.int .i64 (-1))), (.lit (.int .i64 1048576))],some (48, false)⟩, ⟨some 52,.un .not (.tmp 51),some (48, false)⟩, ⟨some 53,.pick (.tmp 48) (.lit (.bool true)) (.tmp 52),none⟩]
def r41_7 : MCode := .region 7 (q41_7_0 ++ (q41_7_1 ++ (q41_7_2 ++ q41_7_3))) false [1, 5, 25, 26, 27, 53]
theorem x41_7 : exec run esc l base r41_7 e σ = (stepOps run esc base q41_7_0 e σ).bind fun x => (stepOps run esc base q41_7_1 x.1 x.2).bind fun x => (stepOps run esc base q41_7_2 x.1 x.2).bind fun x => (stepOps run esc base q41_7_3 x.1 x.2).bind (Zk [1, 5, 25, 26, 27, 53] base) := by simp only [r41_7, regN, regA, Option.bind_assoc]
def q41_8_0 : List MOper := [⟨some 2,.mov false (.lit (.bool false)),none⟩]
def r41_8 : MCode := .region 8 q41_8_0 false [2]
theorem x41_8 : exec run esc l base r41_8 e σ = (stepOps run esc base q41_8_0 e σ).bind (Zk [2] base) := rfl
def q41_9_0 : List MOper := [⟨some 54,.fieldAddr 0 (.tmp 5),none⟩, ⟨some 55,.load false false 1 (.tmp 54),none⟩, ⟨some 56,.fieldAddr 1 (.tmp 5),none⟩, ⟨some 57,.load false false 1 (.tmp 56),none⟩, ⟨some 58,.bin .add (.tmp 55) (.tmp 57),none⟩, ⟨some 3,.mov false (.tmp 58),none⟩]
def r41_9 : MCode := .region 9 q41_9_0 false [1, 3, 25, 26, 27]
theorem x41_9 : exec run esc l base r41_9 e σ = (stepOps run esc base q41_9_0 e σ).bind (Zk [1, 3, 25, 26, 27] base) := rfl
def q41_10_0 : List MOper := [⟨some 59,.bin .add (.tmp 27) (.lit (.int .i64 1)),none⟩, ⟨some 27,.mov false (.tmp 59),none⟩]
def r41_10 : MCode := .region 10 q41_10_0 false [1, 3, 25, 26, 27]
theorem x41_10 : exec run esc l base r41_10 e σ = (stepOps run esc base q41_10_0 e σ).bind (Zk [1, 3, 25, 26, 27] base) := rfl
def l41_0 : MCode := (.seq r41_5 (.seq (.cond (.tmp 28) .skip (.exit 0)) (.seq (.block 1 (.seq r41_6 (.seq (.seq r41_7 (.cond (.tmp 53) (.seq r41_8 .ret) .skip)) r41_9))) r41_10)))
def q41_11_0 : List MOper := [⟨some 60,.mov false (.tmp 3),none⟩, ⟨some 61,.fieldAddr 2 (.tmp 1),none⟩, ⟨some 62,.load false false 1 (.tmp 61),none⟩, ⟨some 63,.bin .leq (.tmp 60) (.tmp 62),none⟩, ⟨some 2,.mov false (.tmp 63),none⟩]
def r41_11 : MCode := .region 11 q41_11_0 false [2]
theorem x41_11 : exec run esc l base r41_11 e σ = (stepOps run esc base q41_11_0 e σ).bind (Zk [2] base) := rfl
def m41 : MFunc := ⟨(.seq r41_0 (.seq (.seq r41_1 (.cond (.tmp 23) (.seq r41_2 .ret) .skip)) (.seq r41_3 (.seq (.seq r41_4 (.block 0 (.loop l41_0))) (.seq r41_11 .ret))))), [.tmp 2], false, false⟩
def q42_0_0 : List MOper := [⟨some 4,.mov false (.lit (.int .i64 0)),none⟩]
def r42_0 : MCode := .region 0 q42_0_0 false [0, 1]
theorem x42_0 : exec run esc l base r42_0 e σ = (stepOps run esc base q42_0_0 e σ).bind (Zk [0, 1] base) := rfl
def q42_1_0 : List MOper := [⟨some 7,.mov false (.tmp 0),none⟩, ⟨some 8,.len false (.tmp 7),none⟩, ⟨some 9,.mov false (.lit (.int .i64 0)),none⟩]
def r42_1 : MCode := .region 1 q42_1_0 false [0, 1, 7, 8, 9]
theorem x42_1 : exec run esc l base r42_1 e σ = (stepOps run esc base q42_1_0 e σ).bind (Zk [0, 1, 7, 8, 9] base) := rfl
def q42_2_0 : List MOper := [⟨some 10,.bin .lss (.tmp 9) (.tmp 8),none⟩]
def r42_2 : MCode := .region 2 q42_2_0 false [0, 1, 7, 8, 9, 10]
theorem x42_2 : exec run esc l base r42_2 e σ = (stepOps run esc base q42_2_0 e σ).bind (Zk [0, 1, 7, 8, 9, 10] base) := rfl
def q42_3_0 : List MOper := [⟨some 11,.mov false (.tmp 9),none⟩, ⟨some 12,.index 4 (.tmp 7) (.tmp 9),none⟩, ⟨some 13,.load false true 4 (.tmp 12),none⟩, ⟨some 6,.alloc [(.int .i64 0), (.int .i64 0), (.int .i64 0), (.slice true [])],none⟩, ⟨some 5,.mov false (.tmp 11),none⟩, ⟨none,.store 4 (.tmp 6) (.tmp 13),none⟩]
def r42_3 : MCode := .region 3 q42_3_0 false [0, 1, 5, 6, 7, 8, 9]
theorem x42_3 : exec run esc l base r42_3 e σ = (stepOps run esc base q42_3_0 e σ).bind (Zk [0, 1, 5, 6, 7, 8, 9] base) := rfl
def q42_4_0 : List MOper := [⟨some 14,.mov false (.tmp 1),none⟩, ⟨some 15,.load false true 4 (.tmp 6),none⟩, ⟨some 16,.call (.tmp 14) [(.tmp 15)],none⟩]
def r42_4 : MCode := .region 4 q42_4_0 false [0, 1, 5, 7, 8, 9, 16]
theorem x42_4 : exec run esc l base r42_4 e σ = (stepOps run esc base q42_4_0 e σ).bind (Zk [0, 1, 5, 7, 8, 9, 16] base) := rfl
def q42_5_0 : List MOper := [⟨some 17,.mov false (.tmp 5),none⟩, ⟨some 4,.mov false (.tmp 17),none⟩]
def r42_5 : MCode := .region 5 q42_5_0 false [4]
theorem x42_5 : exec run esc l base r42_5 e σ = (stepOps run esc base q42_5_0 e σ).bind (Zk [4] base) := rfl
def q42_6_0 : List MOper := [⟨some 18,.bin .add (.tmp 9) (.lit (.int .i64 1)),none⟩, ⟨some 9,.mov false (.tmp 18),none⟩]
def r42_6 : MCode := .region 6 q42_6_0 false [0, 1, 7, 8, 9]
theorem x42_6 : exec run esc l base r42_6 e σ = (stepOps run esc base q42_6_0 e σ).bind (Zk [0, 1, 7, 8, 9] base) := rfl
def l42_0 : MCode := (.seq r42_2 (.seq (.cond (.tmp 10) .skip (.exit 0)) (.seq (.block 1 (.seq r42_3 (.seq r42_4 (.cond (.tmp 16) (.seq r42_5 .ret) .skip)))) r42_6)))
def q42_7_0 : List MOper := [⟨some 19,.mov false (.tmp 0),none⟩, ⟨some 20,.len false (.tmp 19),none⟩, ⟨some 4,.mov false (.tmp 20),none⟩]
def r42_7 : MCode := .region 7 q42_7_0 false [4]
theorem x42_7 : exec run esc l base r42_7 e σ = (stepOps run esc base q42_7_0 e σ).bind (Zk [4] base) := rfl
def m42 : MFunc := ⟨(.seq r42_0 (.seq (.seq r42_1 (.block 0 (.loop l42_0))) (.seq r42_7 .ret))), [.tmp 4], false, false⟩
def q43_0_0 : List MOper := [⟨some 2,.box 4 (.tmp 0),none⟩, ⟨some 3,.mov false (.lit (.bool false)),none⟩]
def r43_0 : MCode := .region 0 q43_0_0 false [1, 2]
theorem x43_0 : exec run esc l base r43_0 e σ = (stepOps run esc base q43_0_0 e σ).bind (Zk [1, 2] base) := rfl
def q43_1_0 : List MOper := [⟨some 4,.fieldAddr 0 (.tmp 2),none⟩, ⟨some 5,.load false false 1 (.tmp 4),none⟩, ⟨some 6,.load false false 1 (.tmp 1),none⟩, ⟨some 7,.bin .eql (.tmp 5) (.tmp 6),none⟩, ⟨some 3,.mov false (.tmp 7),none⟩]
def r43_1 : MCode := .region 1 q43_1_0 false [3]
theorem x43_1 : exec run esc l base r43_1 e σ = (stepOps run esc base q43_1_0 e σ).bind (Zk [3] base) := rfl
def m43 : MFunc := ⟨(.seq r43_0 (.seq r43_1 .ret)), [.tmp 3], false, false⟩
def q44_0_0 : List MOper := [⟨some 6,.mov false (.lit (.bool false)),none⟩]
def r44_0 : MCode := .region 0 q44_0_0 false [0, 1, 2]
theorem x44_0 : exec run esc l base r44_0 e σ = (stepOps run esc base q44_0_0 e σ).bind (Zk [0, 1, 2] base) := rfl
def q44_1_0 : List MOper := [⟨some 10,.mov false (.tmp 0),none⟩, ⟨some 11,.len false (.tmp 10),none⟩, ⟨some 12,.mov false (.tmp 1),none⟩, ⟨some 13,.len false (.tmp 12),none⟩, ⟨some 14,.bin .neq (.tmp 11) (.tmp 13),none⟩]
def r44_1 : MCode := .region 1 q44_1_0 false [0, 1, 2, 14]
theorem x44_1 : exec run esc l base r44_1 e σ = (stepOps run esc base q44_1_0 e σ).bind (Zk [0, 1, 2, 14] base) := rfl
def q44_2_0 : List MOper := [⟨some 6,.mov false (.lit (.bool false)),none⟩]
def r44_2 : MCode := .region 2 q44_2_0 false [6]
theorem x44_2 : exec run esc l base r44_2 e σ = (stepOps run esc base q44_2_0 e σ).bind (Zk [6] base) := rfl
def q44_3_0 : List MOper := [⟨some 15,.mov false (.tmp 0),none⟩, ⟨some 16,.len false (.tmp 15),none⟩, ⟨some 17,.mov false (.lit (.int .i64 0)),none⟩]
def r44_3 : MCode := .region 3 q44_3_0 false [1, 2, 15, 16, 17]
theorem x44_3 : exec run esc l base r44_3 e σ = (stepOps run esc base q44_3_0 e σ).bind (Zk [1, 2, 15, 16, 17] base) := rfl
def q44_4_0 : List MOper := [⟨some 18,.bin .lss (.tmp 17) (.tmp 16),none⟩]
def r44_4 : MCode := .region 4 q44_4_0 false [1, 2, 15, 16, 17, 18]
theorem x44_4 : exec run esc l base r44_4 e σ = (stepOps run esc base q44_4_0 e σ).bind (Zk [1, 2, 15, 16, 17, 18] base) := rfl
def q44_5_0 : List MOper := [⟨some 19,.mov false (.tmp 17),none⟩, ⟨some 20,.index 4 (.tmp 15) (.tmp 17),none⟩, ⟨some 21,.load false true 4 (.tmp 20),none⟩, ⟨some 8,.alloc [(.int .i64 0), (.int .i64 0), (.int .i64 0), (.slice true [])],none⟩, ⟨some 7,.mov false (.tmp 19),none⟩, ⟨none,.store 4 (.tmp 8) (.tmp 21),none⟩]
def r44_5 : MCode := .region 5 q44_5_0 false [1, 2, 7, 8, 15, 16, 17]
theorem x44_5 : exec run esc l base r44_5 e σ = (stepOps run esc base q44_5_0 e σ).bind (Zk [1, 2, 7, 8, 15, 16, 17] base) := rfl
def q44_6_0 : List MOper := [⟨some 22,.mov false (.tmp 1),none⟩, ⟨some 23,.mov false (.tmp 7),none⟩, ⟨some 24,.index 4 (.tmp 22) (.tmp 23),none⟩, ⟨some 25,.load false true 4 (.tmp 24),none⟩, ⟨some 9,.alloc [(.int .i64 0), (.int .i64 0), (.int .i64 0), (.slice true [])],none⟩, ⟨none,.store 4 (.tmp 9) (.tmp 25),none⟩]
def r44_6 : MCode := .region 6 q44_6_0 false [1, 2, 8, 9, 15, 16, 17]
theorem x44_6 : exec run esc l base r44_6 e σ = (stepOps run esc base q44_6_0 e σ).bind (Zk [1, 2, 8, 9, 15, 16, 17] base) := rfl
def q44_7_0 : List MOper := [⟨some 26,.mov false (.tmp 2),none⟩, ⟨some 27,.load false true 4 (.tmp 8),none⟩, ⟨some 28,.load false true 4 (.tmp 9),none⟩, ⟨some 29,.call (.tmp 26) [(.tmp 27), (.tmp 28)],none⟩, ⟨some 30,.un .not (.tmp 29),none⟩]
def r44_7 : MCode := .region 7 q44_7_0 false [1, 2, 15, 16, 17, 30]
theorem x44_7 : exec run esc l base r44_7 e σ = (stepOps run esc base q44_7_0 e σ).bind (Zk [1, 2, 15, 16, 17, 30] base) := rfl
def q44_8_0 : List MOper := [⟨some 6,.mov false (.lit (.bool false)),none⟩]
def r44_8 : MCode := .region 8 q44_8_0 false [6]
theorem x44_8 : exec run esc l base r44_8 e σ = (stepOps run esc base q44_8_0 e σ).bind (Zk [6] base) := rfl
def q44_9_0 : List MOper := [⟨some 31,.bin .add (.tmp 17) (.lit (.int .i64 1)),none⟩, ⟨some 17,.mov false (.tmp 31),none⟩]
def r44_9 : MCode := .region 9 q44_9_0 false [1, 2, 15, 16, 17]
theorem x44_9 : exec run esc l base r44_9 e σ = (stepOps run esc base q44_9_0 e σ).bind (Zk [1, 2, 15, 16, 17] base) := rfl
def l44_0 : MCode := (.seq r44_4 (.seq (.cond (.tmp 18) .skip (.exit 0)) (.seq (.block 1 (.seq r44_5 (.seq r44_6 (.seq r44_7 (.cond (.tmp 30) (.seq r44_8 .ret) .skip))))) r44_9)))
def q44_10_0 : List MOper := [⟨some 6,.mov false (.lit (.bool true)),none⟩]
def r44_10 : MCode := .region 10 q44_10_0 false [6]
theorem x44_10 : exec run esc l base r44_10 e σ = (stepOps run esc base q44_10_0 e σ).bind (Zk [6] base) := rfl
def m44 : MFunc := ⟨(.seq r44_0 (.seq (.seq r44_1 (.cond (.tmp 14) (.seq r44_2 .ret) .skip)) (.seq (.seq r44_3 (.block 0 (.loop l44_0))) (.seq r44_10 .ret)))), [.tmp 6], false, false⟩
def q45_0_0 : List MOper := [⟨some 2,.box 4 (.tmp 0),none⟩, ⟨some 3,.box 4 (.tmp 1),none⟩, ⟨some 4,.mov false (.lit (.bool false)),none⟩]
def r45_0 : MCode := .region 0 q45_0_0 false [2, 3]
theorem x45_0 : exec run esc l base r45_0 e σ = (stepOps run esc base q45_0_0 e σ).bind (Zk [2, 3] base) := rfl
def q45_1_0 : List MOper := [⟨some 5,.fieldAddr 0 (.tmp 2),none⟩, ⟨some 6,.load false false 1 (.tmp 5),none⟩, ⟨some 7,.fieldAddr 0 (.tmp 3),none⟩, ⟨some 8,.load false false 1 (.tmp 7),none⟩, ⟨some 9,.bin .eql (.tmp 6) (.tmp 8),none⟩, ⟨some 10,.mov false (.tmp 9),none⟩]
def q45_1_1 : List MOper := [⟨some 11,.fieldAddr 1 (.tmp 2),some (10, true)⟩, ⟨some 12,.load false false 1 (.tmp 11),some (10, true)⟩, ⟨some 13,.fieldAddr 1 (.tmp 3),some (10, true)⟩, ⟨some 14,.load false false 1 (.tmp 13),some (10, true)⟩, ⟨some 15,.bin .eql (.tmp 12) (.tmp 14),some (10, true)⟩, ⟨some 16,.pick (.tmp 10) (.tmp 15) (.lit (.bool false)),none⟩]
def q45_1_2 : List MOper := [⟨some 17,.mov false (.tmp 16),none⟩, ⟨some 18,.fieldAddr 2 (.tmp 2),some (17, true)⟩, ⟨some 19,.load false false 1 (.tmp 18),some (17, true)⟩, ⟨some 20,.fieldAddr 2 (.tmp 3),some (17, true)⟩, ⟨some 21,.load false false 1 (.tmp 20),some (17, true)⟩, ⟨some 22,.bin .eql (.tmp 19) (.tmp 21),some (17, true)⟩]
def q45_1_3 : List MOper := [⟨some 23,.pick (.tmp 17) (.tmp 22) (.lit (.bool false)),none⟩, ⟨some 24,.mov false (.tmp 23),none⟩, ⟨some 25,.fieldAddr 3 (.tmp 2),some (24, true)⟩, ⟨some 26,.load false false 1 (.tmp 25),some (24, true)⟩, ⟨some 27,.fieldAddr 3 (.tmp 3),some (24, true)⟩, ⟨some 28,.load false false 1 (.tmp 27),some (24, true)⟩]
def q45_1_4 : List MOper := [⟨some 29,.call (.lit (.fn 59 [])) [(.tmp 26), (.tmp 28)],some (24, true)⟩, ⟨some 30,.pick (.tmp 24) (.tmp 29) (.lit (.bool false)),none⟩, ⟨some 4,.mov false (.tmp 30),none⟩]
def r45_1 : MCode := .region 1 (q45_1_0 ++ (q45_1_1 ++ (q45_1_2 ++ (q45_1_3 ++ q45_1_4)))) false [4]
theorem x45_1 : exec run esc l base r45_1 e σ = (stepOps run esc base q45_1_0 e σ).bind fun x => (stepOps run esc base q45_1_1 x.1 x.2).bind fun x => (stepOps run esc base q45_1_2 x.1 x.2).bind fun x => (stepOps run esc base q45_1_3 x.1 x.2).bind fun x => (stepOps run esc base q45_1_4 x.1 x.2).bind (Zk [4] base) := by simp only [r45_1, regN, regA, Option.bind_assoc]
def m45 : MFunc := ⟨(.seq r45_0 (.seq r45_1 .ret)), [.tmp 4], false, false⟩
def q46_0_0 : List MOper := [⟨some 1,.box 18 (.tmp 0),none⟩, ⟨some 2,.mov false (.lit (.bool false)),none⟩]
def r46_0 : MCode := .region 0 q46_0_0 false [1]
theorem x46_0 : exec run esc l base r46_0 e σ = (stepOps run esc base q46_0_0 e σ).bind (Zk [1] base) := rfl
def q46_1_0 : List MOper := [⟨some 4,.fieldAddr 1 (.tmp 1),none⟩, ⟨some 5,.fieldAddr 4 (.tmp 4),none⟩, ⟨some 6,.load false false 1 (.tmp 5),none⟩, ⟨some 7,.len false (.tmp 6),none⟩, ⟨some 8,.bin .gtr (.tmp 7) (.lit (.int .i64 40)),none⟩, ⟨some 9,.mov false (.tmp 8),none⟩]
def q46_1_1 : List MOper := [⟨some 10,.fieldAddr 9 (.tmp 1),some (9, false)⟩, ⟨some 11,.fieldAddr 3 (.tmp 10),some (9, false)⟩, ⟨some 12,.load false false 1 (.tmp 11),some (9, false)⟩, ⟨some 13,.len true (.tmp 12),some (9, false)⟩, ⟨some 14,.bin .gtr (.tmp 13) (.lit (.int .i64 200)),some (9, false)⟩, ⟨some 15,.pick (.tmp 9) (.lit (.bool true)) (.tmp 14),none⟩]
def q46_1_2 : List MOper := [⟨some 16,.mov false (.tmp 15),none⟩, ⟨some 17,.fieldAddr 9 (.tmp 1),some (16, false)⟩, ⟨some 18,.fieldAddr 4 (.tmp 17),some (16, false)⟩, ⟨some 19,.load false false 1 (.tmp 18),some (16, false)⟩, ⟨some 20,.len true (.tmp 19),some (16, false)⟩, ⟨some 21,.bin .gtr (.tmp 20) (.lit (.int .i64 200)),some (16, false)⟩]
def q46_1_3 : List MOper := [⟨some 22,.pick (.tmp 16) (.lit (.bool true)) (.tmp 21),none⟩, ⟨some 23,.mov false (.tmp 22),none⟩, ⟨some 24,.fieldAddr 14 (.tmp 1),some (23, false)⟩, ⟨some 25,.fieldAddr 3 (.tmp 24),some (23, false)⟩, ⟨some 26,.load false false 1 (.tmp 25),some (23, false)⟩, ⟨some 27,.len false (.tmp 26),some (23, false)⟩]
def q46_1_4 : List MOper := [⟨some 28,.bin .gtr (.tmp 27) (.lit (.int .i64 40)),some (23, false)⟩, ⟨some 29,.pick (.tmp 23) (.lit (.bool true)) (.tmp 28),none⟩]
def r46_1 : MCode := .region 1 (q46_1_0 ++ (q46_1_1 ++ (q46_1_2 ++ (q46_1_3 ++ q46_1_4)))) false [1, 29]
theorem x46_1 : exec run esc l base r46_1 e σ = (stepOps run esc base q46_1_0 e σ).bind fun x => (stepOps run esc base q46_1_1 x.1 x.2).bind fun x => (stepOps run esc base q46_1_2 x.1 x.2).bind fun x => (stepOps run esc base q46_1_3 x.1 x.2).bind fun x => (stepOps run esc base q46_1_4 x.1 x.2).bind (Zk [1, 29] base) := by simp only [r46_1, regN, regA, Option.bind_assoc]
def q46_2_0 : List MOper := [⟨some 2,.mov false (.lit (.bool true)),none⟩]
def r46_2 : MCode := .region 2 q46_2_0 false [2]
theorem x46_2 : exec run esc l base r46_2 e σ = (stepOps run esc base q46_2_0 e σ).bind (Zk [2] base) := rfl
def q46_3_0 : List MOper := [⟨some 3,.mov false (.lit (.int .i64 0)),none⟩]
def r46_3 : MCode := .region 3 q46_3_0 false [1, 3]
theorem x46_3 : exec run esc l base r46_3 e σ = (stepOps run esc base q46_3_0 e σ).bind (Zk [1, 3] base) := rfl
def q46_4_0 : List MOper := [⟨some 30,.mov false (.tmp 3),none⟩, ⟨some 31,.fieldAddr 1 (.tmp 1),none⟩, ⟨some 32,.fieldAddr 4 (.tmp 31),none⟩, ⟨some 33,.load false false 1 (.tmp 32),none⟩, ⟨some 34,.len false (.tmp 33),none⟩, ⟨some 35,.bin .lss (.tmp 30) (.tmp 34),none⟩]
def r46_4 : MCode := .region 4 q46_4_0 false [1, 3, 35]
theorem x46_4 : exec run esc l base r46_4 e σ = (stepOps run esc base q46_4_0 e σ).bind (Zk [1, 3, 35] base) := rfl
def q46_6_0 : List MOper := [⟨some 38,.fieldAddr 1 (.tmp 1),none⟩, ⟨some 39,.fieldAddr 4 (.tmp 38),none⟩, ⟨some 40,.load false false 1 (.tmp 39),none⟩, ⟨some 41,.mov false (.tmp 3),none⟩, ⟨some 42,.index 2 (.tmp 40) (.tmp 41),none⟩, ⟨some 43,.fieldAddr 0 (.tmp 42),none⟩]
def q46_6_1 : List MOper := [⟨some 44,.load false false 1 (.tmp 43),none⟩, ⟨some 45,.len true (.tmp 44),none⟩, ⟨some 46,.bin .gtr (.tmp 45) (.lit (.int .i64 200)),none⟩, ⟨some 47,.mov false (.tmp 46),none⟩, ⟨some 48,.fieldAddr 1 (.tmp 1),some (47, false)⟩, ⟨some 49,.fieldAddr 4 (.tmp 48),some (47, false)⟩]
def q46_6_2 : List MOper := [⟨some 50,.load false false 1 (.tmp 49),some (47, false)⟩, ⟨some 51,.mov false (.tmp 3),some (47, false)⟩, ⟨some 52,.index 2 (.tmp 50) (.tmp 51),some (47, false)⟩, ⟨some 53,.fieldAddr 1 (.tmp 52),some (47, false)⟩, ⟨some 54,.load false false 1 (.tmp 53),some (47, false)⟩, ⟨some 55,.len true (.tmp 54),some (47, false)⟩]
def q46_6_3 : List MOper := [⟨some 56,.bin .gtr (.tmp 55) (.lit (.int .i64 200)),some (47, false)⟩, ⟨some 57,.pick (.tmp 47) (.lit (.bool true)) (.tmp 56),none⟩]
def r46_6 : MCode := .region 6 (q46_6_0 ++ (q46_6_1 ++ (q46_6_2 ++ q46_6_3))) false [1, 3, 57]
theorem x46_6 : exec run esc l base r46_6 e σ = (stepOps run esc base q46_6_0 e σ).bind fun x => (stepOps run esc base q46_6_1 x.1 x.2).bind fun x => (stepOps run esc base q46_6_2 x.1 x.2).bind fun x => (stepOps run esc base q46_6_3 x.1 x.2).bind (Zk [1, 3, 57] base) := by simp only [r46_6, regN, regA, Option.bind_assoc]
def q46_7_0 : List MOper := [⟨some 2,.mov false (.lit (.bool true)),none⟩]
def r46_7 : MCode := .region 7 q46_7_0 false [2]
theorem x46_7 : exec run esc l base r46_7 e σ = (stepOps run esc base q46_7_0 e σ).bind (Zk [2] base) := rfl
def q46_5_0 : List MOper := [⟨some 36,.mov false (.tmp 3),none⟩, ⟨some 37,.bin .add (.tmp 36) (.lit (.int .i64 1)),none⟩, ⟨some 3,.mov false (.tmp 37),none⟩]
def r46_5 : MCode := .region 5 q46_5_0 false [1, 3]
theorem x46_5 : exec run esc l base r46_5 e σ = (stepOps run esc base q46_5_0 e σ).bind (Zk [1, 3] base) := rfl
def l46_0 : MCode := (.seq (.seq r46_4 (.cond (.tmp 35) .skip (.exit 0))) (.seq (.block 1 (.seq r46_6 (.cond (.tmp 57) (.seq r46_7 .ret) .skip))) r46_5))
def q46_8_0 : List MOper := [⟨some 2,.mov false (.lit (.bool false)),none⟩]
def r46_8 : MCode := .region 8 q46_8_0 false [2]
theorem x46_8 : exec run esc l base r46_8 e σ = (stepOps run esc base q46_8_0 e σ).bind (Zk [2] base) := rfl
def m46 : MFunc := ⟨(.seq r46_0 (.seq (.seq r46_1 (.cond (.tmp 29) (.seq r46_2 .ret) .skip)) (.seq (.seq r46_3 (.block 0 (.loop l46_0))) (.seq r46_8 .ret)))), [.tmp 2], false, false⟩
def q47_0_0 : List MOper := [⟨some 2,.mov true (.lit (.slice true [])),none⟩]
def r47_0 : MCode := .region 0 q47_0_0 false [0]
theorem x47_0 : exec run esc l base r47_0 e σ = (stepOps run esc base q47_0_0 e σ).bind (Zk [0] base) := rfl
def q47_1_0 : List MOper := [⟨some 3,.mov false (.tmp 0),none⟩, ⟨some 4,.build [(.str []), (.str [])] [(0, 1, (.tmp 3))],none⟩, ⟨some 5,.buildSlice 2 [(.tmp 4)],none⟩, ⟨some 2,.mov true (.tmp 5),none⟩]
def r47_1 : MCode := .region 1 q47_1_0 false [2]
theorem x47_1 : exec run esc l base r47_1 e σ = (stepOps run esc base q47_1_0 e σ).bind (Zk [2] base) := rfl
def m47 : MFunc := ⟨(.seq r47_0 (.seq r47_1 .ret)), [.tmp 2], true, false⟩
def q48_0_0 : List MOper := [⟨some 3,.box 18 (.tmp 1),none⟩, ⟨some 4,.mov false (.lit (.int .i64 0)),none⟩]
def r48_0 : MCode := .region 0 q48_0_0 false [0, 3]
theorem x48_0 : exec run esc l base r48_0 e σ = (stepOps run esc base q48_0_0 e σ).bind (Zk [0, 3] base) := rfl
def q48_1_0 : List MOper := [⟨some 8,.mov false (.tmp 0),none⟩, ⟨some 9,.nilCheck (.tmp 8),none⟩, ⟨some 10,.fieldAddr 0 (.tmp 9),none⟩, ⟨some 11,.load false true 5 (.tmp 10),none⟩, ⟨some 12,.load false true 18 (.tmp 3),none⟩, ⟨some 13,.callc (.lit (.fn 60 [])) [(.tmp 11), (.tmp 12)],none⟩]
def q48_1_1 : List MOper := [⟨some 7,.mov false (.tmp 13),none⟩, ⟨some 14,.extractn 0 (.tmp 7),none⟩, ⟨some 15,.extractn 1 (.tmp 7),none⟩, ⟨some 5,.alloc [(.int .i64 0), (.int .i64 0), (.slice true []), (.slice true []), (.slice true [])],none⟩, ⟨none,.store 5 (.tmp 5) (.tmp 14),none⟩, ⟨some 6,.mov false (.tmp 15),none⟩]
def r48_1 : MCode := .region 1 (q48_1_0 ++ q48_1_1) true [0, 5, 6]
theorem x48_1 : exec run esc l base r48_1 e σ = (stepOps run esc base q48_1_0 e σ).bind fun x => (stepOps run esc base q48_1_1 x.1 x.2).bind (Zk [0, 5, 6] base) := reg2
def q48_2_0 : List MOper := [⟨some 16,.mov false (.tmp 0),none⟩, ⟨some 17,.load false true 5 (.tmp 5),none⟩, ⟨some 18,.nilCheck (.tmp 16),none⟩, ⟨some 19,.fieldAddr 0 (.tmp 18),none⟩, ⟨none,.store 5 (.tmp 19) (.tmp 17),none⟩]
def r48_2 : MCode := .region 2 q48_2_0 false [6]
theorem x48_2 : exec run esc l base r48_2 e σ = (stepOps run esc base q48_2_0 e σ).bind (Zk [6] base) := rfl
def q48_3_0 : List MOper := [⟨some 20,.mov false (.tmp 6),none⟩, ⟨some 4,.mov false (.tmp 20),none⟩]
def r48_3 : MCode := .region 3 q48_3_0 false [4]
theorem x48_3 : exec run esc l base r48_3 e σ = (stepOps run esc base q48_3_0 e σ).bind (Zk [4] base) := rfl
def m48 : MFunc := ⟨(.seq r48_0 (.seq r48_1 (.seq r48_2 (.seq r48_3 .ret)))), [.tmp 4], false, false⟩
def q49_0_0 : List MOper := [⟨some 1,.box 5 (.tmp 0),none⟩, ⟨some 2,.mov false (.lit (.bool false)),none⟩]
def r49_0 : MCode := .region 0 q49_0_0 false [1]
theorem x49_0 : exec run esc l base r49_0 e σ = (stepOps run esc base q49_0_0 e σ).bind (Zk [1] base) := rfl
def q49_1_0 : List MOper := [⟨some 3,.mov false (.lit (.int .i64 0)),none⟩]
def r49_1 : MCode := .region 1 q49_1_0 false [1, 3]
theorem x49_1 : exec run esc l base r49_1 e σ = (stepOps run esc base q49_1_0 e σ).bind (Zk [1, 3] base) := rfl
def q49_2_0 : List MOper := [⟨some 7,.fieldAddr 3 (.tmp 1),none⟩, ⟨some 8,.load false false 1 (.tmp 7),none⟩, ⟨some 9,.len false (.tmp 8),none⟩, ⟨some 10,.mov false (.lit (.int .i64 0)),none⟩]
def r49_2 : MCode := .region 2 q49_2_0 false [1, 3, 8, 9, 10]
theorem x49_2 : exec run esc l base r49_2 e σ = (stepOps run esc base q49_2_0 e σ).bind (Zk [1, 3, 8, 9, 10] base) := rfl
def q49_3_0 : List MOper := [⟨some 11,.bin .lss (.tmp 10) (.tmp 9),none⟩]
def r49_3 : MCode := .region 3 q49_3_0 false [1, 3, 8, 9, 10, 11]
theorem x49_3 : exec run esc l base r49_3 e σ = (stepOps run esc base q49_3_0 e σ).bind (Zk [1, 3, 8, 9, 10, 11] base) := rfl
def q49_4_0 : List MOper := [⟨some 12,.index 3 (.tmp 8) (.tmp 10),none⟩, ⟨some 13,.load false true 3 (.tmp 12),none⟩, ⟨some 5,.alloc [(.int .i64 0), (.int .i64 0), (.slice true [])],none⟩, ⟨none,.store 3 (.tmp 5) (.tmp 13),none⟩]
def r49_4 : MCode := .region 4 q49_4_0 false [1, 3, 5, 8, 9, 10]
theorem x49_4 : exec run esc l base r49_4 e σ = (stepOps run esc base q49_4_0 e σ).bind (Zk [1, 3, 5, 8, 9, 10] base) := rfl
def q49_5_0 : List MOper := [⟨some 14,.fieldAddr 0 (.tmp 5),none⟩, ⟨some 15,.load false false 1 (.tmp 14),none⟩, ⟨some 16,.mov false (.tmp 3),none⟩, ⟨some 17,.bin .leq (.tmp 15) (.tmp 16),none⟩, ⟨some 18,.mov false (.tmp 17),none⟩, ⟨some 19,.fieldAddr 2 (.tmp 5),some (18, false)⟩]
def q49_5_1 : List MOper := [⟨some 20,.load false false 1 (.tmp 19),some (18, false)⟩, ⟨some 21,.callr (.lit (.fn 61 [])) [(.tmp 20), (.lit (.fn 38 []))],some (18, false)⟩, ⟨some 22,.len false (.tmp 21),some (18, false)⟩, ⟨some 23,.fieldAddr 2 (.tmp 5),some (18, false)⟩, ⟨some 24,.load false false 1 (.tmp 23),some (18, false)⟩, ⟨some 25,.len false (.tmp 24),some (18, false)⟩]
def q49_5_2 : List MOper := [⟨some 26,.bin .lss (.tmp 22) (.tmp 25),some (18, false)⟩, ⟨some 27,.pick (.tmp 18) (.lit (.bool true)) (.tmp 26),none⟩]
def r49_5 : MCode := .region 5 (q49_5_0 ++ (q49_5_1 ++ q49_5_2)) true [1, 5, 8, 9, 10, 27]
theorem x49_5 : exec run esc l base r49_5 e σ = (stepOps run esc base q49_5_0 e σ).bind fun x => (stepOps run esc base q49_5_1 x.1 x.2).bind fun x => (stepOps run esc base q49_5_2 x.1 x.2).bind (Zk [1, 5, 8, 9, 10, 27] base) := by simp only [r49_5, regN, regA, Option.bind_assoc]
def q49_6_0 : List MOper := [⟨some 2,.mov false (.lit (.bool false)),none⟩]
def r49_6 : MCode := .region 6 q49_6_0 false [2]
theorem x49_6 : exec run esc l base r49_6 e σ = (stepOps run esc base q49_6_0 e σ).bind (Zk [2] base) := rfl
def q49_7_0 : List MOper := [⟨some 28,.fieldAddr 0 (.tmp 5),none⟩, ⟨some 29,.load false false 1 (.tmp 28),none⟩, ⟨some 3,.mov false (.tmp 29),none⟩]
def r49_7 : MCode := .region 7 q49_7_0 false [1, 3, 8, 9, 10]
theorem x49_7 : exec run esc l base r49_7 e σ = (stepOps run esc base q49_7_0 e σ).bind (Zk [1, 3, 8, 9, 10] base) := rfl
def q49_8_0 : List MOper := [⟨some 30,.bin .add (.tmp 10) (.lit (.int .i64 1)),none⟩, ⟨some 10,.mov false (.tmp 30),none⟩]
def r49_8 : MCode := .region 8 q49_8_0 false [1, 3, 8, 9, 10]
theorem x49_8 : exec run esc l base r49_8 e σ = (stepOps run esc base q49_8_0 e σ).bind (Zk [1, 3, 8, 9, 10] base) := rfl
def l49_0 : MCode := (.seq r49_3 (.seq (.cond (.tmp 11) .skip (.exit 0)) (.seq (.block 1 (.seq r49_4 (.seq (.seq r49_5 (.cond (.tmp 27) (.seq r49_6 .ret) .skip)) r49_7))) r49_8)))
def q49_9_0 : List MOper := [⟨some 31,.fieldAddr 2 (.tmp 1),none⟩, ⟨some 32,.load false false 1 (.tmp 31),none⟩, ⟨some 33,.call (.lit (.fn 62 [])) [(.tmp 32), (.lit (.fn 63 []))],none⟩, ⟨some 6,.mov true (.tmp 33),none⟩]
def r49_9 : MCode := .region 9 q49_9_0 false [1, 6]
theorem x49_9 : exec run esc l base r49_9 e σ = (stepOps run esc base q49_9_0 e σ).bind (Zk [1, 6] base) := rfl
def q49_10_0 : List MOper := [⟨some 34,.mov false (.tmp 6),none⟩, ⟨some 35,.len false (.tmp 34),none⟩, ⟨some 36,.fieldAddr 2 (.tmp 1),none⟩, ⟨some 37,.load false false 1 (.tmp 36),none⟩, ⟨some 38,.len false (.tmp 37),none⟩, ⟨some 39,.bin .eql (.tmp 35) (.tmp 38),none⟩]
def q49_10_1 : List MOper := [⟨some 40,.mov false (.tmp 39),none⟩, ⟨some 41,.fieldAddr 4 (.tmp 1),some (40, true)⟩, ⟨some 42,.load false false 1 (.tmp 41),some (40, true)⟩, ⟨some 43,.call (.lit (.fn 19 [])) [(.tmp 42)],some (40, true)⟩, ⟨some 44,.pick (.tmp 40) (.tmp 43) (.lit (.bool false)),none⟩, ⟨some 2,.mov false (.tmp 44),none⟩]
def r49_10 : MCode := .region 10 (q49_10_0 ++ q49_10_1) false [2]
theorem x49_10 : exec run esc l base r49_10 e σ = (stepOps run esc base q49_10_0 e σ).bind fun x => (stepOps run esc base q49_10_1 x.1 x.2).bind (Zk [2] base) := reg2
def m49 : MFunc := ⟨(.seq r49_0 (.seq r49_1 (.seq (.seq r49_2 (.block 0 (.loop l49_0))) (.seq r49_9 (.seq r49_10 .ret))))), [.tmp 2], false, false⟩
def q50_0_0 : List MOper := [⟨some 2,.box 5 (.tmp 0),none⟩, ⟨some 3,.box 4 (.tmp 1),none⟩, ⟨some 4,.alloc [(.int .i64 0), (.int .i64 0), (.int .i64 0), (.slice true [])],none⟩]
def r50_0 : MCode := .region 0 q50_0_0 false [2, 3, 4]
theorem x50_0 : exec run esc l base r50_0 e σ = (stepOps run esc base q50_0_0 e σ).bind (Zk [2, 3, 4] base) := rfl
def q50_1_0 : List MOper := [⟨some 8,.load false true 5 (.tmp 2),none⟩, ⟨some 9,.fieldAddr 0 (.tmp 3),none⟩, ⟨some 10,.load false false 1 (.tmp 9),none⟩, ⟨some 11,.call (.lit (.fn 65 [])) [(.tmp 8), (.tmp 10)],none⟩, ⟨some 7,.mov false (.tmp 11),none⟩, ⟨some 12,.extract 0 (.tmp 7),none⟩]
def q50_1_1 : List MOper := [⟨some 13,.extract 1 (.tmp 7),none⟩, ⟨some 5,.alloc [(.int .i64 0), (.int .i64 0), (.slice true [])],none⟩, ⟨none,.store 3 (.tmp 5) (.tmp 12),none⟩, ⟨some 6,.mov false (.tmp 13),none⟩]
def r50_1 : MCode := .region 1 (q50_1_0 ++ q50_1_1) false [3, 4, 5, 6]
theorem x50_1 : exec run esc l base r50_1 e σ = (stepOps run esc base q50_1_0 e σ).bind fun x => (stepOps run esc base q50_1_1 x.1 x.2).bind (Zk [3, 4, 5, 6] base) := reg2
def q50_2_0 : List MOper := [⟨some 14,.mov false (.tmp 6),none⟩, ⟨some 15,.un .not (.tmp 14),none⟩, ⟨some 16,.mov false (.tmp 15),none⟩, ⟨some 17,.fieldAddr 2 (.tmp 5),some (16, false)⟩, ⟨some 18,.load false false 1 (.tmp 17),some (16, false)⟩, ⟨some 19,.len false (.tmp 18),some (16, false)⟩]
def q50_2_1 : List MOper := [⟨some 20,.bin .eql (.tmp 19) (.lit (.int .i64 0)),some (16, false)⟩, ⟨some 21,.pick (.tmp 16) (.lit (.bool true)) (.tmp 20),none⟩]
def r50_2 : MCode := .region 2 (q50_2_0 ++ q50_2_1) false [3, 4, 5, 21]
theorem x50_2 : exec run esc l base r50_2 e σ = (stepOps run esc base q50_2_0 e σ).bind fun x => (stepOps run esc base q50_2_1 x.1 x.2).bind (Zk [3, 4, 5, 21] base) := reg2
def q50_3_0 : List MOper := [⟨some 22,.load false true 4 (.tmp 3),none⟩, ⟨none,.store 4 (.tmp 4) (.tmp 22),none⟩]
def r50_3 : MCode := .region 3 q50_3_0 false [4]
theorem x50_3 : exec run esc l base r50_3 e σ = (stepOps run esc base q50_3_0 e σ).bind (Zk [4] base) := rfl
def q50_4_0 : List MOper := [⟨some 23,.fieldAddr 2 (.tmp 5),none⟩, ⟨some 24,.load false false 1 (.tmp 23),none⟩, ⟨some 25,.index 5 (.tmp 24) (.lit (.int .i64 0)),none⟩, ⟨some 26,.fieldAddr 2 (.tmp 25),none⟩, ⟨some 27,.load false false 1 (.tmp 26),none⟩, ⟨some 28,.fieldAddr 2 (.tmp 3),none⟩]
def q50_4_1 : List MOper := [⟨none,.store 1 (.tmp 28) (.tmp 27),none⟩]
def r50_4 : MCode := .region 4 (q50_4_0 ++ q50_4_1) false [3, 4]
theorem x50_4 : exec run esc l base r50_4 e σ = (stepOps run esc base q50_4_0 e σ).bind fun x => (stepOps run esc base q50_4_1 x.1 x.2).bind (Zk [3, 4] base) := reg2
def q50_5_0 : List MOper := [⟨some 29,.fieldAddr 3 (.tmp 3),none⟩, ⟨some 30,.load false false 1 (.tmp 29),none⟩, ⟨some 31,.mkfn 67 [(.tmp 3)],none⟩, ⟨some 32,.call (.lit (.fn 66 [])) [(.tmp 30), (.tmp 31)],none⟩, ⟨some 33,.fieldAddr 3 (.tmp 3),none⟩, ⟨none,.store 1 (.tmp 33) (.tmp 32),none⟩]
def r50_5 : MCode := .region 5 q50_5_0 false [3, 4]
theorem x50_5 : exec run esc l base r50_5 e σ = (stepOps run esc base q50_5_0 e σ).bind (Zk [3, 4] base) := rfl
def q50_6_0 : List MOper := [⟨some 34,.load false true 4 (.tmp 3),none⟩, ⟨none,.store 4 (.tmp 4) (.tmp 34),none⟩]
def r50_6 : MCode := .region 6 q50_6_0 false [4]
theorem x50_6 : exec run esc l base r50_6 e σ = (stepOps run esc base q50_6_0 e σ).bind (Zk [4] base) := rfl
def m50 : MFunc := ⟨(.seq r50_0 (.seq r50_1 (.seq (.seq r50_2 (.cond (.tmp 21) (.seq r50_3 .ret) .skip)) (.seq r50_4 (.seq r50_5 (.seq r50_6 .ret)))))), [.cell 4 true 4], false, false⟩
def q51_0_0 : List MOper := [⟨some 2,.box 5 (.tmp 0),none⟩, ⟨some 3,.box 5 (.tmp 1),none⟩, ⟨some 4,.mov false (.lit (.bool false)),none⟩]
def r51_0 : MCode := .region 0 q51_0_0 false [2, 3]
theorem x51_0 : exec run esc l base r51_0 e σ = (stepOps run esc base q51_0_0 e σ).bind (Zk [2, 3] base) := rfl
def q51_1_0 : List MOper := [⟨some 6,.fieldAddr 0 (.tmp 2),none⟩, ⟨some 7,.load false false 1 (.tmp 6),none⟩, ⟨some 8,.fieldAddr 0 (.tmp 3),none⟩, ⟨some 9,.load false false 1 (.tmp 8),none⟩, ⟨some 10,.bin .neq (.tmp 7) (.tmp 9),none⟩, ⟨some 11,.mov false (.tmp 10),none⟩]
def q51_1_1 : List MOper := [⟨some 12,.fieldAddr 1 (.tmp 2),some (11, false)⟩, ⟨some 13,.load false false 1 (.tmp 12),some (11, false)⟩, ⟨some 14,.fieldAddr 1 (.tmp 3),some (11, false)⟩, ⟨some 15,.load false false 1 (.tmp 14),some (11, false)⟩, ⟨some 16,.bin .neq (.tmp 13) (.tmp 15),some (11, false)⟩, ⟨some 17,.pick (.tmp 11) (.lit (.bool true)) (.tmp 16),none⟩]
def q51_1_2 : List MOper := [⟨some 18,.mov false (.tmp 17),none⟩, ⟨some 19,.fieldAddr 2 (.tmp 2),some (18, false)⟩, ⟨some 20,.load false false 1 (.tmp 19),some (18, false)⟩, ⟨some 21,.fieldAddr 2 (.tmp 3),some (18, false)⟩, ⟨some 22,.load false false 1 (.tmp 21),some (18, false)⟩, ⟨some 23,.bin .neq (.tmp 20) (.tmp 22),some (18, false)⟩]
def q51_1_3 : List MOper := [⟨some 24,.pick (.tmp 18) (.lit (.bool true)) (.tmp 23),none⟩, ⟨some 25,.mov false (.tmp 24),none⟩, ⟨some 26,.fieldAddr 3 (.tmp 2),some (25, false)⟩, ⟨some 27,.load false false 1 (.tmp 26),some (25, false)⟩, ⟨some 28,.fieldAddr 3 (.tmp 3),some (25, false)⟩, ⟨some 29,.load false false 1 (.tmp 28),some (25, false)⟩]
def q51_1_4 : List MOper := [⟨some 30,.eqb true (.tmp 27) (.tmp 29),some (25, false)⟩, ⟨some 31,.pick (.tmp 25) (.lit (.bool true)) (.tmp 30),none⟩, ⟨some 32,.mov false (.tmp 31),none⟩, ⟨some 33,.fieldAddr 4 (.tmp 2),some (32, false)⟩, ⟨some 34,.load false false 1 (.tmp 33),some (32, false)⟩, ⟨some 35,.len false (.tmp 34),some (32, false)⟩]
def q51_1_5 : List MOper := [⟨some 36,.fieldAddr 4 (.tmp 3),some (32, false)⟩, ⟨some 37,.load false false 1 (.tmp 36),some (32, false)⟩, ⟨some 38,.len false (.tmp 37),some (32, false)⟩, ⟨some 39,.bin .neq (.tmp 35) (.tmp 38),some (32, false)⟩, ⟨some 40,.pick (.tmp 32) (.lit (.bool true)) (.tmp 39),none⟩]
def r51_1 : MCode := .region 1 (q51_1_0 ++ (q51_1_1 ++ (q51_1_2 ++ (q51_1_3 ++ (q51_1_4 ++ q51_1_5))))) false [2, 3, 40]
theorem x51_1 : exec run esc l base r51_1 e σ = (stepOps run esc base q51_1_0 e σ).bind fun x => (stepOps run esc base q51_1_1 x.1 x.2).bind fun x => (stepOps run esc base q51_1_2 x.1 x.2).bind fun x => (stepOps run esc base q51_1_3 x.1 x.2).bind fun x => (stepOps run esc base q51_1_4 x.1 x.2).bind fun x => (stepOps run esc base q51_1_5 x.1 x.2).bind (Zk [2, 3, 40] base) := by simp only [r51_1, regN, regA, Option.bind_assoc]
def q51_2_0 : List MOper := [⟨some 4,.mov false (.lit (.bool false)),none⟩]
def r51_2 : MCode := .region 2 q51_2_0 false [4]
theorem x51_2 : exec run esc l base r51_2 e σ = (stepOps run esc base q51_2_0 e σ).bind (Zk [4] base) := rfl
def q51_3_0 : List MOper := [⟨some 5,.mov false (.lit (.int .i64 0)),none⟩]
def r51_3 : MCode := .region 3 q51_3_0 false [2, 3, 5]
theorem x51_3 : exec run esc l base r51_3 e σ = (stepOps run esc base q51_3_0 e σ).bind (Zk [2, 3, 5] base) := rfl
def q51_4_0 : List MOper := [⟨some 41,.mov false (.tmp 5),none⟩, ⟨some 42,.fieldAddr 4 (.tmp 2),none⟩, ⟨some 43,.load false false 1 (.tmp 42),none⟩, ⟨some 44,.len false (.tmp 43),none⟩, ⟨some 45,.bin .lss (.tmp 41) (.tmp 44),none⟩]
def r51_4 : MCode := .region 4 q51_4_0 false [2, 3, 5, 45]
theorem x51_4 : exec run esc l base r51_4 e σ = (stepOps run esc base q51_4_0 e σ).bind (Zk [2, 3, 5, 45] base) := rfl
def q51_6_0 : List MOper := [⟨some 48,.fieldAddr 4 (.tmp 2),none⟩, ⟨some 49,.load false false 1 (.tmp 48),none⟩, ⟨some 50,.mov false (.tmp 5),none⟩, ⟨some 51,.index 2 (.tmp 49) (.tmp 50),none⟩, ⟨some 52,.load false true 2 (.tmp 51),none⟩, ⟨some 53,.fieldAddr 4 (.tmp 3),none⟩]
def q51_6_1 : List MOper := [⟨some 54,.load false false 1 (.tmp 53),none⟩, ⟨some 55,.mov false (.tmp 5),none⟩, ⟨some 56,.index 2 (.tmp 54) (.tmp 55),none⟩, ⟨some 57,.load false true 2 (.tmp 56),none⟩, ⟨some 58,.eqs true [2, 2] (.tmp 52) (.tmp 57),none⟩]
def r51_6 : MCode := .region 6 (q51_6_0 ++ q51_6_1) true [2, 3, 5, 58]
theorem x51_6 : exec run esc l base r51_6 e σ = (stepOps run esc base q51_6_0 e σ).bind fun x => (stepOps run esc base q51_6_1 x.1 x.2).bind (Zk [2, 3, 5, 58] base) := reg2
def q51_7_0 : List MOper := [⟨some 4,.mov false (.lit (.bool false)),none⟩]
def r51_7 : MCode := .region 7 q51_7_0 false [4]
theorem x51_7 : exec run esc l base r51_7 e σ = (stepOps run esc base q51_7_0 e σ).bind (Zk [4] base) := rfl
def q51_5_0 : List MOper := [⟨some 46,.mov false (.tmp 5),none⟩, ⟨some 47,.bin .add (.tmp 46) (.lit (.int .i64 1)),none⟩, ⟨some 5,.mov false (.tmp 47),none⟩]
def r51_5 : MCode := .region 5 q51_5_0 false [2, 3, 5]
theorem x51_5 : exec run esc l base r51_5 e σ = (stepOps run esc base q51_5_0 e σ).bind (Zk [2, 3, 5] base) := rfl
def l51_0 : MCode := (.seq (.seq r51_4 (.cond (.tmp 45) .skip (.exit 0))) (.seq (.block 1 (.seq r51_6 (.cond (.tmp 58) (.seq r51_7 .ret) .skip))) r51_5))
def q51_8_0 : List MOper := [⟨some 4,.mov false (.lit (.bool true)),none⟩]
def r51_8 : MCode := .region 8 q51_8_0 false [4]
theorem x51_8 : exec run esc l base r51_8 e σ = (stepOps run esc base q51_8_0 e σ).bind (Zk [4] base) := rfl
def m51 : MFunc := ⟨(.seq r51_0 (.seq (.seq r51_1 (.cond (.tmp 40) (.seq r51_2 .ret) .skip)) (.seq (.seq r51_3 (.block 0 (.loop l51_0))) (.seq r51_8 .ret)))), [.tmp 4], false, false⟩
def q52_0_0 : List MOper := [⟨some 2,.box 18 (.tmp 0),none⟩, ⟨some 3,.box 18 (.tmp 1),none⟩, ⟨some 4,.mov false (.lit (.bool false)),none⟩]
def r52_0 : MCode := .region 0 q52_0_0 false [2, 3]
theorem x52_0 : exec run esc l base r52_0 e σ = (stepOps run esc base q52_0_0 e σ).bind (Zk [2, 3] base) := rfl
def q52_1_0 : List MOper := [⟨some 5,.fieldAddr 0 (.tmp 2),none⟩, ⟨some 6,.load false false 1 (.tmp 5),none⟩, ⟨some 7,.fieldAddr 0 (.tmp 3),none⟩, ⟨some 8,.load false false 1 (.tmp 7),none⟩, ⟨some 9,.bin .eql (.tmp 6) (.tmp 8),none⟩, ⟨some 10,.mov false (.tmp 9),none⟩]
def q52_1_1 : List MOper := [⟨some 11,.fieldAddr 1 (.tmp 2),some (10, true)⟩, ⟨some 12,.load false true 5 (.tmp 11),some (10, true)⟩, ⟨some 13,.fieldAddr 1 (.tmp 3),some (10, true)⟩, ⟨some 14,.load false true 5 (.tmp 13),some (10, true)⟩, ⟨some 15,.call (.lit (.fn 51 [])) [(.tmp 12), (.tmp 14)],some (10, true)⟩, ⟨some 16,.pick (.tmp 10) (.tmp 15) (.lit (.bool false)),none⟩]
def q52_1_2 : List MOper := [⟨some 17,.mov false (.tmp 16),none⟩, ⟨some 18,.fieldAddr 6 (.tmp 2),some (17, true)⟩, ⟨some 19,.load false false 1 (.tmp 18),some (17, true)⟩, ⟨some 20,.fieldAddr 6 (.tmp 3),some (17, true)⟩, ⟨some 21,.load false false 1 (.tmp 20),some (17, true)⟩, ⟨some 22,.eqb false (.tmp 19) (.tmp 21),some (17, true)⟩]
def q52_1_3 : List MOper := [⟨some 23,.pick (.tmp 17) (.tmp 22) (.lit (.bool false)),none⟩, ⟨some 24,.mov false (.tmp 23),none⟩, ⟨some 25,.fieldAddr 7 (.tmp 2),some (24, true)⟩, ⟨some 26,.load false false 1 (.tmp 25),some (24, true)⟩, ⟨some 27,.fieldAddr 7 (.tmp 3),some (24, true)⟩, ⟨some 28,.load false false 1 (.tmp 27),some (24, true)⟩]
def q52_1_4 : List MOper := [⟨some 29,.bin .eql (.tmp 26) (.tmp 28),some (24, true)⟩, ⟨some 30,.pick (.tmp 24) (.tmp 29) (.lit (.bool false)),none⟩, ⟨some 31,.mov false (.tmp 30),none⟩, ⟨some 32,.fieldAddr 8 (.tmp 2),some (31, true)⟩, ⟨some 33,.load false false 1 (.tmp 32),some (31, true)⟩, ⟨some 34,.fieldAddr 8 (.tmp 3),some (31, true)⟩]
def q52_1_5 : List MOper := [⟨some 35,.load false false 1 (.tmp 34),some (31, true)⟩, ⟨some 36,.bin .eql (.tmp 33) (.tmp 35),some (31, true)⟩, ⟨some 37,.pick (.tmp 31) (.tmp 36) (.lit (.bool false)),none⟩, ⟨some 38,.mov false (.tmp 37),none⟩, ⟨some 39,.fieldAddr 9 (.tmp 2),some (38, true)⟩, ⟨some 40,.load false true 5 (.tmp 39),some (38, true)⟩]
def q52_1_6 : List MOper := [⟨some 41,.fieldAddr 9 (.tmp 3),some (38, true)⟩, ⟨some 42,.load false true 5 (.tmp 41),some (38, true)⟩, ⟨some 43,.eqs false [0, 0, 0, 2, 2] (.tmp 40) (.tmp 42),some (38, true)⟩, ⟨some 44,.pick (.tmp 38) (.tmp 43) (.lit (.bool false)),none⟩, ⟨some 45,.mov false (.tmp 44),none⟩, ⟨some 46,.fieldAddr 14 (.tmp 2),some (45, true)⟩]
def q52_1_7 : List MOper := [⟨some 47,.load false true 4 (.tmp 46),some (45, true)⟩, ⟨some 48,.fieldAddr 14 (.tmp 3),some (45, true)⟩, ⟨some 49,.load false true 4 (.tmp 48),some (45, true)⟩, ⟨some 50,.call (.lit (.fn 22 [])) [(.tmp 47), (.tmp 49)],some (45, true)⟩, ⟨some 51,.pick (.tmp 45) (.tmp 50) (.lit (.bool false)),none⟩, ⟨some 4,.mov false (.tmp 51),none⟩]
def r52_1 : MCode := .region 1 (q52_1_0 ++ (q52_1_1 ++ (q52_1_2 ++ (q52_1_3 ++ (q52_1_4 ++ (q52_1_5 ++ (q52_1_6 ++ q52_1_7))))))) false [4]
theorem x52_1 : exec run esc l base r52_1 e σ = (stepOps run esc base q52_1_0 e σ).bind fun x => (stepOps run esc base q52_1_1 x.1 x.2).bind fun x => (stepOps run esc base q52_1_2 x.1 x.2).bind fun x => (stepOps run esc base q52_1_3 x.1 x.2).bind fun x => (stepOps run esc base q52_1_4 x.1 x.2).bind fun x => (stepOps run esc base q52_1_5 x.1 x.2).bind fun x => (stepOps run esc base q52_1_6 x.1 x.2).bind fun x => (stepOps run esc base q52_1_7 x.1 x.2).bind (Zk [4] base) := by simp only [r52_1, regN, regA, Option.bind_assoc]
def m52 : MFunc := ⟨(.seq r52_0 (.seq r52_1 .ret)), [.tmp 4], false, false⟩
def q53_0_0 : List MOper := [⟨some 3,.box 1 (.tmp 1),none⟩, ⟨some 4,.mov false (.lit (.int .i64 0)),none⟩, ⟨some 5,.mov false (.lit (.bool false)),none⟩]
def r53_0 : MCode := .region 0 q53_0_0 false [0, 3]
theorem x53_0 : exec run esc l base r53_0 e σ = (stepOps run esc base q53_0_0 e σ).bind (Zk [0, 3] base) := rfl
def q53_1_0 : List MOper := [⟨some 7,.mov false (.tmp 0),none⟩, ⟨some 8,.mkfn 68 [(.tmp 3)],none⟩, ⟨some 9,.call (.lit (.fn 42 [])) [(.tmp 7), (.tmp 8)],none⟩, ⟨some 6,.mov false (.tmp 9),none⟩]
def r53_1 : MCode := .region 1 q53_1_0 false [0, 3, 6]
theorem x53_1 : exec run esc l base r53_1 e σ = (stepOps run esc base q53_1_0 e σ).bind (Zk [0, 3, 6] base) := rfl
def q53_2_0 : List MOper := [⟨some 10,.mov false (.tmp 6),none⟩, ⟨some 11,.mov false (.tmp 6),none⟩, ⟨some 12,.mov false (.tmp 0),none⟩, ⟨some 13,.len false (.tmp 12),none⟩, ⟨some 14,.bin .lss (.tmp 11) (.tmp 13),none⟩, ⟨some 15,.mov false (.tmp 14),none⟩]
def q53_2_1 : List MOper := [⟨some 16,.mov false (.tmp 0),some (15, true)⟩, ⟨some 17,.mov false (.tmp 6),some (15, true)⟩, ⟨some 18,.index 4 (.tmp 16) (.tmp 17),some (15, true)⟩, ⟨some 19,.fieldAddr 0 (.tmp 18),some (15, true)⟩, ⟨some 20,.load false false 1 (.tmp 19),some (15, true)⟩, ⟨some 21,.load false false 1 (.tmp 3),some (15, true)⟩]
def q53_2_2 : List MOper := [⟨some 22,.bin .eql (.tmp 20) (.tmp 21),some (15, true)⟩, ⟨some 23,.pick (.tmp 15) (.tmp 22) (.lit (.bool false)),none⟩, ⟨some 4,.mov false (.tmp 10),none⟩, ⟨some 5,.mov false (.tmp 23),none⟩]
def r53_2 : MCode := .region 2 (q53_2_0 ++ (q53_2_1 ++ q53_2_2)) true [4, 5]
theorem x53_2 : exec run esc l base r53_2 e σ = (stepOps run esc base q53_2_0 e σ).bind fun x => (stepOps run esc base q53_2_1 x.1 x.2).bind fun x => (stepOps run esc base q53_2_2 x.1 x.2).bind (Zk [4, 5] base) := by simp only [r53_2, regN, regA, Option.bind_assoc]
def m53 : MFunc := ⟨(.seq r53_0 (.seq r53_1 (.seq r53_2 .ret))), [.tmp 4, .tmp 5], false, false⟩
def q54_0_0 : List MOper := [⟨some 2,.mov false (.lit (.bool false)),none⟩]
def r54_0 : MCode := .region 0 q54_0_0 false [0]
theorem x54_0 : exec run esc l base r54_0 e σ = (stepOps run esc base q54_0_0 e σ).bind (Zk [0] base) := rfl
def q54_1_0 : List MOper := [⟨some 3,.mov false (.lit (.int .i64 0)),none⟩]
def r54_1 : MCode := .region 1 q54_1_0 false [0, 3]
theorem x54_1 : exec run esc l base r54_1 e σ = (stepOps run esc base q54_1_0 e σ).bind (Zk [0, 3] base) := rfl
def q54_2_0 : List MOper := [⟨some 4,.mov false (.lit (.int .i64 0)),none⟩]
def r54_2 : MCode := .region 2 q54_2_0 false [0, 3, 4]
theorem x54_2 : exec run esc l base r54_2 e σ = (stepOps run esc base q54_2_0 e σ).bind (Zk [0, 3, 4] base) := rfl
def q54_3_0 : List MOper := [⟨some 5,.mov false (.tmp 4),none⟩, ⟨some 6,.mov false (.tmp 0),none⟩, ⟨some 7,.len false (.tmp 6),none⟩, ⟨some 8,.bin .lss (.tmp 5) (.tmp 7),none⟩]
def r54_3 : MCode := .region 3 q54_3_0 false [0, 3, 4, 8]
theorem x54_3 : exec run esc l base r54_3 e σ = (stepOps run esc base q54_3_0 e σ).bind (Zk [0, 3, 4, 8] base) := rfl
def q54_5_0 : List MOper := [⟨some 11,.mov false (.tmp 0),none⟩, ⟨some 12,.mov false (.tmp 4),none⟩, ⟨some 13,.index 4 (.tmp 11) (.tmp 12),none⟩, ⟨some 14,.load false true 4 (.tmp 13),none⟩, ⟨some 15,.call (.lit (.fn 69 [])) [(.tmp 14)],none⟩, ⟨some 16,.un .not (.tmp 15),none⟩]
def q54_5_1 : List MOper := [⟨some 17,.mov false (.tmp 16),none⟩, ⟨some 18,.mov false (.tmp 0),some (17, false)⟩, ⟨some 19,.mov false (.tmp 4),some (17, false)⟩, ⟨some 20,.index 4 (.tmp 18) (.tmp 19),some (17, false)⟩, ⟨some 21,.fieldAddr 0 (.tmp 20),some (17, false)⟩, ⟨some 22,.load false false 1 (.tmp 21),some (17, false)⟩]
def q54_5_2 : List MOper := [⟨some 23,.mov false (.tmp 3),some (17, false)⟩, ⟨some 24,.bin .leq (.tmp 22) (.tmp 23),some (17, false)⟩, ⟨some 25,.pick (.tmp 17) (.lit (.bool true)) (.tmp 24),none⟩]
def r54_5 : MCode := .region 5 (q54_5_0 ++ (q54_5_1 ++ q54_5_2)) false [0, 4, 25]
theorem x54_5 : exec run esc l base r54_5 e σ = (stepOps run esc base q54_5_0 e σ).bind fun x => (stepOps run esc base q54_5_1 x.1 x.2).bind fun x => (stepOps run esc base q54_5_2 x.1 x.2).bind (Zk [0, 4, 25] base) := by simp only [r54_5, regN, regA, Option.bind_assoc]
def q54_6_0 : List MOper := [⟨some 2,.mov false (.lit (.bool false)),none⟩]
def r54_6 : MCode := .region 6 q54_6_0 false [2]
theorem x54_6 : exec run esc l base r54_6 e σ = (stepOps run esc base q54_6_0 e σ).bind (Zk [2] base) := rfl
def q54_7_0 : List MOper := [⟨some 26,.mov false (.tmp 0),none⟩, ⟨some 27,.mov false (.tmp 4),none⟩, ⟨some 28,.index 4 (.tmp 26) (.tmp 27),none⟩, ⟨some 29,.fieldAddr 0 (.tmp 28),none⟩, ⟨some 30,.load false false 1 (.tmp 29),none⟩, ⟨some 3,.mov false (.tmp 30),none⟩]
def r54_7 : MCode := .region 7 q54_7_0 false [0, 3, 4]
theorem x54_7 : exec run esc l base r54_7 e σ = (stepOps run esc base q54_7_0 e σ).bind (Zk [0, 3, 4] base) := rfl
def q54_4_0 : List MOper := [⟨some 9,.mov false (.tmp 4),none⟩, ⟨some 10,.bin .add (.tmp 9) (.lit (.int .i64 1)),none⟩, ⟨some 4,.mov false (.tmp 10),none⟩]
def r54_4 : MCode := .region 4 q54_4_0 false [0, 3, 4]
theorem x54_4 : exec run esc l base r54_4 e σ = (stepOps run esc base q54_4_0 e σ).bind (Zk [0, 3, 4] base) := rfl
def l54_0 : MCode := (.seq (.seq r54_3 (.cond (.tmp 8) .skip (.exit 0))) (.seq (.block 1 (.seq (.seq r54_5 (.cond (.tmp 25) (.seq r54_6 .ret) .skip)) r54_7)) r54_4))
def q54_8_0 : List MOper := [⟨some 2,.mov false (.lit (.bool true)),none⟩]
def r54_8 : MCode := .region 8 q54_8_0 false [2]
theorem x54_8 : exec run esc l base r54_8 e σ = (stepOps run esc base q54_8_0 e σ).bind (Zk [2] base) := rfl
def m54 : MFunc := ⟨(.seq r54_0 (.seq r54_1 (.seq (.seq r54_2 (.block 0 (.loop l54_0))) (.seq r54_8 .ret)))), [.tmp 2], false, false⟩
def q55_0_0 : List MOper := [⟨some 4,.mov false (.lit (.int .i64 0)),none⟩, ⟨some 5,.mov false (.lit (.bool false)),none⟩]
def r55_0 : MCode := .region 0 q55_0_0 false [0, 1]
theorem x55_0 : exec run esc l base r55_0 e σ = (stepOps run esc base q55_0_0 e σ).bind (Zk [0, 1] base) := rfl
def q55_1_0 : List MOper := [⟨some 6,.mov false (.lit (.int .i64 0)),none⟩]
def r55_1 : MCode := .region 1 q55_1_0 false [0, 1, 6]
theorem x55_1 : exec run esc l base r55_1 e σ = (stepOps run esc base q55_1_0 e σ).bind (Zk [0, 1, 6] base) := rfl
def q55_2_0 : List MOper := [⟨some 7,.mov false (.tmp 6),none⟩, ⟨some 8,.mov false (.tmp 0),none⟩, ⟨some 9,.len false (.tmp 8),none⟩, ⟨some 10,.bin .lss (.tmp 7) (.tmp 9),none⟩, ⟨some 11,.mov false (.tmp 10),none⟩, ⟨some 12,.mov false (.tmp 0),some (11, true)⟩]
def q55_2_1 : List MOper := [⟨some 13,.mov false (.tmp 6),some (11, true)⟩, ⟨some 14,.index 4 (.tmp 12) (.tmp 13),some (11, true)⟩, ⟨some 15,.fieldAddr 0 (.tmp 14),some (11, true)⟩, ⟨some 16,.load false false 1 (.tmp 15),some (11, true)⟩, ⟨some 17,.mov false (.tmp 1),some (11, true)⟩, ⟨some 18,.bin .lss (.tmp 16) (.tmp 17),some (11, true)⟩]
def q55_2_2 : List MOper := [⟨some 19,.pick (.tmp 11) (.tmp 18) (.lit (.bool false)),none⟩]
def r55_2 : MCode := .region 2 (q55_2_0 ++ (q55_2_1 ++ q55_2_2)) false [0, 1, 6, 19]
theorem x55_2 : exec run esc l base r55_2 e σ = (stepOps run esc base q55_2_0 e σ).bind fun x => (stepOps run esc base q55_2_1 x.1 x.2).bind fun x => (stepOps run esc base q55_2_2 x.1 x.2).bind (Zk [0, 1, 6, 19] base) := by simp only [r55_2, regN, regA, Option.bind_assoc]
def q55_3_0 : List MOper := [⟨some 20,.mov false (.tmp 6),none⟩, ⟨some 21,.bin .add (.tmp 20) (.lit (.int .i64 1)),none⟩, ⟨some 6,.mov false (.tmp 21),none⟩]
def r55_3 : MCode := .region 3 q55_3_0 false [0, 1, 6]
theorem x55_3 : exec run esc l base r55_3 e σ = (stepOps run esc base q55_3_0 e σ).bind (Zk [0, 1, 6] base) := rfl
def l55_0 : MCode := (.seq (.seq r55_2 (.cond (.tmp 19) .skip (.exit 0))) (.block 1 r55_3))
def q55_4_0 : List MOper := [⟨some 22,.mov false (.tmp 6),none⟩, ⟨some 23,.mov false (.tmp 6),none⟩, ⟨some 24,.mov false (.tmp 0),none⟩, ⟨some 25,.len false (.tmp 24),none⟩, ⟨some 26,.bin .lss (.tmp 23) (.tmp 25),none⟩, ⟨some 27,.mov false (.tmp 26),none⟩]
def q55_4_1 : List MOper := [⟨some 28,.mov false (.tmp 0),some (27, true)⟩, ⟨some 29,.mov false (.tmp 6),some (27, true)⟩, ⟨some 30,.index 4 (.tmp 28) (.tmp 29),some (27, true)⟩, ⟨some 31,.fieldAddr 0 (.tmp 30),some (27, true)⟩, ⟨some 32,.load false false 1 (.tmp 31),some (27, true)⟩, ⟨some 33,.mov false (.tmp 1),some (27, true)⟩]
def q55_4_2 : List MOper := [⟨some 34,.bin .eql (.tmp 32) (.tmp 33),some (27, true)⟩, ⟨some 35,.pick (.tmp 27) (.tmp 34) (.lit (.bool false)),none⟩, ⟨some 4,.mov false (.tmp 22),none⟩, ⟨some 5,.mov false (.tmp 35),none⟩]
def r55_4 : MCode := .region 4 (q55_4_0 ++ (q55_4_1 ++ q55_4_2)) true [4, 5]
theorem x55_4 : exec run esc l base r55_4 e σ = (stepOps run esc base q55_4_0 e σ).bind fun x => (stepOps run esc base q55_4_1 x.1 x.2).bind fun x => (stepOps run esc base q55_4_2 x.1 x.2).bind (Zk [4, 5] base) := by simp only [r55_4, regN, regA, Option.bind_assoc]
def m55 : MFunc := ⟨(.seq r55_0 (.seq r55_1 (.seq (.block 0 (.loop l55_0)) (.seq r55_4 .ret)))), [.tmp 4, .tmp 5], false, false⟩
def q56_0_0 : List MOper := [⟨some 6,.mov false (.lit (.bool false)),none⟩]
def r56_0 : MCode := .region 0 q56_0_0 false [0, 1, 2]
theorem x56_0 : exec run esc l base r56_0 e σ = (stepOps run esc base q56_0_0 e σ).bind (Zk [0, 1, 2] base) := rfl
def q56_1_0 : List MOper := [⟨some 7,.mov false (.tmp 0),none⟩, ⟨some 8,.mov false (.tmp 1),none⟩, ⟨some 9,.bin .geq (.tmp 7) (.tmp 8),none⟩, ⟨some 10,.mov false (.tmp 9),none⟩, ⟨some 11,.mov false (.tmp 0),some (10, true)⟩, ⟨some 12,.mov false (.tmp 2),some (10, true)⟩]
def q56_1_1 : List MOper := [⟨some 13,.bin .leq (.tmp 11) (.tmp 12),some (10, true)⟩, ⟨some 14,.pick (.tmp 10) (.tmp 13) (.lit (.bool false)),none⟩, ⟨some 6,.mov false (.tmp 14),none⟩]
def r56_1 : MCode := .region 1 (q56_1_0 ++ q56_1_1) false [6]
theorem x56_1 : exec run esc l base r56_1 e σ = (stepOps run esc base q56_1_0 e σ).bind fun x => (stepOps run esc base q56_1_1 x.1 x.2).bind (Zk [6] base) := reg2
def m56 : MFunc := ⟨(.seq r56_0 (.seq r56_1 .ret)), [.tmp 6], false, false⟩
def q57_0_0 : List MOper := [⟨some 4,.mov false (.lit (.bool false)),none⟩]
def r57_0 : MCode := .region 0 q57_0_0 false [0, 1]
theorem x57_0 : exec run esc l base r57_0 e σ = (stepOps run esc base q57_0_0 e σ).bind (Zk [0, 1] base) := rfl
def q57_1_0 : List MOper := [⟨some 5,.mov false (.tmp 0),none⟩, ⟨some 6,.call (.lit (.fn 58 [])) [(.tmp 5), (.lit (.int .i64 1)), (.lit (.int .i64 8))],none⟩, ⟨some 7,.mov false (.tmp 6),none⟩, ⟨some 8,.mov false (.tmp 1),some (7, true)⟩, ⟨some 9,.call (.lit (.fn 58 [])) [(.tmp 8), (.lit (.int .i64 0)), (.lit (.int .i64 100))],some (7, true)⟩, ⟨some 10,.pick (.tmp 7) (.tmp 9) (.lit (.bool false)),none⟩]
def q57_1_1 : List MOper := [⟨some 4,.mov false (.tmp 10),none⟩]
def r57_1 : MCode := .region 1 (q57_1_0 ++ q57_1_1) false [4]
theorem x57_1 : exec run esc l base r57_1 e σ = (stepOps run esc base q57_1_0 e σ).bind fun x => (stepOps run esc base q57_1_1 x.1 x.2).bind (Zk [4] base) := reg2
def m57 : MFunc := ⟨(.seq r57_0 (.seq r57_1 .ret)), [.tmp 4], false, false⟩
def q58_0_0 : List MOper := [⟨some 6,.mov false (.lit (.bool false)),none⟩]
def r58_0 : MCode := .region 0 q58_0_0 false [0, 1, 2]
theorem x58_0 : exec run esc l base r58_0 e σ = (stepOps run esc base q58_0_0 e σ).bind (Zk [0, 1, 2] base) := rfl
def q58_1_0 : List MOper := [⟨some 7,.mov false (.tmp 0),none⟩, ⟨some 8,.mov false (.tmp 1),none⟩, ⟨some 9,.bin .geq (.tmp 7) (.tmp 8),none⟩, ⟨some 10,.mov false (.tmp 9),none⟩, ⟨some 11,.mov false (.tmp 0),some (10, true)⟩, ⟨some 12,.mov false (.tmp 2),some (10, true)⟩]
def q58_1_1 : List MOper := [⟨some 13,.bin .leq (.tmp 11) (.tmp 12),some (10, true)⟩, ⟨some 14,.pick (.tmp 10) (.tmp 13) (.lit (.bool false)),none⟩, ⟨some 6,.mov false (.tmp 14),none⟩]
def r58_1 : MCode := .region 1 (q58_1_0 ++ q58_1_1) false [6]
theorem x58_1 : exec run esc l base r58_1 e σ = (stepOps run esc base q58_1_0 e σ).bind fun x => (stepOps run esc base q58_1_1 x.1 x.2).bind (Zk [6] base) := reg2
def m58 : MFunc := ⟨(.seq r58_0 (.seq r58_1 .ret)), [.tmp 6], false, false⟩
def q59_0_0 : List MOper := [⟨some 4,.mov false (.lit (.bool false)),none⟩]
def r59_0 : MCode := .region 0 q59_0_0 false [0, 1]
theorem x59_0 : exec run esc l base r59_0 e σ = (stepOps run esc base q59_0_0 e σ).bind (Zk [0, 1] base) := rfl
def q59_1_0 : List MOper := [⟨some 6,.mov false (.tmp 0),none⟩, ⟨some 7,.len false (.tmp 6),none⟩, ⟨some 8,.mov false (.tmp 1),none⟩, ⟨some 9,.len false (.tmp 8),none⟩, ⟨some 10,.bin .neq (.tmp 7) (.tmp 9),none⟩]
def r59_1 : MCode := .region 1 q59_1_0 false [0, 1, 10]
theorem x59_1 : exec run esc l base r59_1 e σ = (stepOps run esc base q59_1_0 e σ).bind (Zk [0, 1, 10] base) := rfl
def q59_2_0 : List MOper := [⟨some 4,.mov false (.lit (.bool false)),none⟩]
def r59_2 : MCode := .region 2 q59_2_0 false [4]
theorem x59_2 : exec run esc l base r59_2 e σ = (stepOps run esc base q59_2_0 e σ).bind (Zk [4] base) := rfl
def q59_3_0 : List MOper := [⟨some 11,.mov false (.tmp 0),none⟩, ⟨some 12,.len false (.tmp 11),none⟩, ⟨some 13,.mov false (.lit (.int .i64 0)),none⟩]
def r59_3 : MCode := .region 3 q59_3_0 false [0, 1, 12, 13]
theorem x59_3 : exec run esc l base r59_3 e σ = (stepOps run esc base q59_3_0 e σ).bind (Zk [0, 1, 12, 13] base) := rfl
def q59_4_0 : List MOper := [⟨some 14,.bin .lss (.tmp 13) (.tmp 12),none⟩]
def r59_4 : MCode := .region 4 q59_4_0 false [0, 1, 12, 13, 14]
theorem x59_4 : exec run esc l base r59_4 e σ = (stepOps run esc base q59_4_0 e σ).bind (Zk [0, 1, 12, 13, 14] base) := rfl
def q59_5_0 : List MOper := [⟨some 15,.mov false (.tmp 13),none⟩, ⟨some 5,.mov false (.tmp 15),none⟩]
def r59_5 : MCode := .region 5 q59_5_0 false [0, 1, 5, 12, 13]
theorem x59_5 : exec run esc l base r59_5 e σ = (stepOps run esc base q59_5_0 e σ).bind (Zk [0, 1, 5, 12, 13] base) := rfl
def q59_6_0 : List MOper := [⟨some 16,.mov false (.tmp 0),none⟩, ⟨some 17,.mov false (.tmp 5),none⟩, ⟨some 18,.index 3 (.tmp 16) (.tmp 17),none⟩, ⟨some 19,.load false true 3 (.tmp 18),none⟩, ⟨some 20,.mov false (.tmp 1),none⟩, ⟨some 21,.mov false (.tmp 5),none⟩]
def q59_6_1 : List MOper := [⟨some 22,.index 3 (.tmp 20) (.tmp 21),none⟩, ⟨some 23,.load false true 3 (.tmp 22),none⟩, ⟨some 24,.eqs true [0, 0, 0] (.tmp 19) (.tmp 23),none⟩]
def r59_6 : MCode := .region 6 (q59_6_0 ++ q59_6_1) true [0, 1, 12, 13, 24]
theorem x59_6 : exec run esc l base r59_6 e σ = (stepOps run esc base q59_6_0 e σ).bind fun x => (stepOps run esc base q59_6_1 x.1 x.2).bind (Zk [0, 1, 12, 13, 24] base) := reg2
def q59_7_0 : List MOper := [⟨some 4,.mov false (.lit (.bool false)),none⟩]
def r59_7 : MCode := .region 7 q59_7_0 false [4]
theorem x59_7 : exec run esc l base r59_7 e σ = (stepOps run esc base q59_7_0 e σ).bind (Zk [4] base) := rfl
def q59_8_0 : List MOper := [⟨some 25,.bin .add (.tmp 13) (.lit (.int .i64 1)),none⟩, ⟨some 13,.mov false (.tmp 25),none⟩]
def r59_8 : MCode := .region 8 q59_8_0 false [0, 1, 12, 13]
theorem x59_8 : exec run esc l base r59_8 e σ = (stepOps run esc base q59_8_0 e σ).bind (Zk [0, 1, 12, 13] base) := rfl
def l59_0 : MCode := (.seq r59_4 (.seq (.cond (.tmp 14) .skip (.exit 0)) (.seq (.block 1 (.seq r59_5 (.seq r59_6 (.cond (.tmp 24) (.seq r59_7 .ret) .skip)))) r59_8)))
def q59_9_0 : List MOper := [⟨some 4,.mov false (.lit (.bool true)),none⟩]
def r59_9 : MCode := .region 9 q59_9_0 false [4]
theorem x59_9 : exec run esc l base r59_9 e σ = (stepOps run esc base q59_9_0 e σ).bind (Zk [4] base) := rfl
def m59 : MFunc := ⟨(.seq r59_0 (.seq (.seq r59_1 (.cond (.tmp 10) (.seq r59_2 .ret) .skip)) (.seq (.seq r59_3 (.block 0 (.loop l59_0))) (.seq r59_9 .ret)))), [.tmp 4], false, false⟩
def q60_0_0 : List MOper := [⟨some 2,.box 5 (.tmp 0),none⟩, ⟨some 3,.box 18 (.tmp 1),none⟩, ⟨some 4,.alloc [(.int .i64 0), (.int .i64 0), (.slice true []), (.slice true []), (.slice true [])],none⟩, ⟨some 5,.mov false (.lit (.int .i64 0)),none⟩]
def r60_0 : MCode := .region 0 q60_0_0 false [2, 3, 4]
theorem x60_0 : exec run esc l base r60_0 e σ = (stepOps run esc base q60_0_0 e σ).bind (Zk [2, 3, 4] base) := rfl
def q60_1_0 : List MOper := [⟨some 9,.build [.nilf, .nilf, .nilf, .nilf, .nilf, .nilf, .nilf] [(0, 1, (.lit (.fn 70 []))), (1, 1, (.lit (.fn 71 []))), (2, 1, (.lit (.fn 72 []))), (3, 1, (.lit (.fn 73 []))), (4, 1, (.lit (.fn 73 []))), (5, 1, (.lit (.fn 74 []))), (6, 1, (.lit (.fn 75 [])))],none⟩, ⟨some 6,.alloc [.nilf, .nilf, .nilf, .nilf, .nilf, .nilf, .nilf],none⟩, ⟨none,.store 7 (.tmp 6) (.tmp 9),none⟩]
def r60_1 : MCode := .region 1 q60_1_0 false [2, 3, 4, 6]
theorem x60_1 : exec run esc l base r60_1 e σ = (stepOps run esc base q60_1_0 e σ).bind (Zk [2, 3, 4, 6] base) := rfl
def q60_2_0 : List MOper := [⟨some 10,.load false true 18 (.tmp 3),none⟩, ⟨some 11,.call (.lit (.fn 64 [])) [(.tmp 10)],none⟩, ⟨some 12,.un .not (.tmp 11),none⟩]
def r60_2 : MCode := .region 2 q60_2_0 false [2, 3, 4, 6, 12]
theorem x60_2 : exec run esc l base r60_2 e σ = (stepOps run esc base q60_2_0 e σ).bind (Zk [2, 3, 4, 6, 12] base) := rfl
def q60_3_0 : List MOper := [⟨some 13,.build [(.int .i64 0), (.int .i64 0), (.slice true []), (.slice true []), (.slice true [])] [],none⟩, ⟨none,.store 5 (.tmp 4) (.tmp 13),none⟩, ⟨some 5,.mov false (.lit (.int .i64 70)),none⟩]
def r60_3 : MCode := .region 3 q60_3_0 false [4, 5]
theorem x60_3 : exec run esc l base r60_3 e σ = (stepOps run esc base q60_3_0 e σ).bind (Zk [4, 5] base) := rfl
def q60_4_0 : List MOper := [⟨some 15,.fieldAddr 0 (.tmp 3),none⟩, ⟨some 16,.load false false 1 (.tmp 15),none⟩, ⟨some 17,.indexArr 7 1 (.tmp 6) (.tmp 16),none⟩, ⟨some 18,.load false false 1 (.tmp 17),none⟩, ⟨some 19,.load false true 5 (.tmp 2),none⟩, ⟨some 20,.load false true 18 (.tmp 3),none⟩]
def q60_4_1 : List MOper := [⟨some 21,.callc (.tmp 18) [(.tmp 19), (.tmp 20)],none⟩, ⟨some 14,.mov false (.tmp 21),none⟩, ⟨some 22,.extractn 0 (.tmp 14),none⟩, ⟨some 23,.extractn 1 (.tmp 14),none⟩, ⟨some 7,.alloc [(.int .i64 0), (.int .i64 0), (.slice true []), (.slice true []), (.slice true [])],none⟩, ⟨none,.store 5 (.tmp 7) (.tmp 22),none⟩]
def q60_4_2 : List MOper := [⟨some 8,.mov false (.tmp 23),none⟩]
def r60_4 : MCode := .region 4 (q60_4_0 ++ (q60_4_1 ++ q60_4_2)) true [4, 7, 8]
theorem x60_4 : exec run esc l base r60_4 e σ = (stepOps run esc base q60_4_0 e σ).bind fun x => (stepOps run esc base q60_4_1 x.1 x.2).bind fun x => (stepOps run esc base q60_4_2 x.1 x.2).bind (Zk [4, 7, 8] base) := by simp only [r60_4, regN, regA, Option.bind_assoc]
def q60_5_0 : List MOper := [⟨some 24,.mov false (.tmp 8),none⟩, ⟨some 25,.bin .neq (.tmp 24) (.lit (.int .i64 0)),none⟩, ⟨some 26,.mov false (.tmp 25),none⟩, ⟨some 27,.fieldAddr 1 (.tmp 7),some (26, false)⟩, ⟨some 28,.load false false 1 (.tmp 27),some (26, false)⟩, ⟨some 29,.bin .gtr (.tmp 28) (.lit (.int .i64 1048576)),some (26, false)⟩]
def q60_5_1 : List MOper := [⟨some 30,.pick (.tmp 26) (.lit (.bool true)) (.tmp 29),none⟩]
def r60_5 : MCode := .region 5 (q60_5_0 ++ q60_5_1) false [4, 7, 30]
theorem x60_5 : exec run esc l base r60_5 e σ = (stepOps run esc base q60_5_0 e σ).bind fun x => (stepOps run esc base q60_5_1 x.1 x.2).bind (Zk [4, 7, 30] base) := reg2
def q60_6_0 : List MOper := [⟨some 31,.build [(.int .i64 0), (.int .i64 0), (.slice true []), (.slice true []), (.slice true [])] [],none⟩, ⟨none,.store 5 (.tmp 4) (.tmp 31),none⟩, ⟨some 5,.mov false (.lit (.int .i64 70)),none⟩]
def r60_6 : MCode := .region 6 q60_6_0 false [4, 5]
theorem x60_6 : exec run esc l base r60_6 e σ = (stepOps run esc base q60_6_0 e σ).bind (Zk [4, 5] base) := rfl
def q60_7_0 : List MOper := [⟨some 32,.load false true 5 (.tmp 7),none⟩, ⟨none,.store 5 (.tmp 4) (.tmp 32),none⟩, ⟨some 5,.mov false (.lit (.int .i64 0)),none⟩]
def r60_7 : MCode := .region 7 q60_7_0 false [4, 5]
theorem x60_7 : exec run esc l base r60_7 e σ = (stepOps run esc base q60_7_0 e σ).bind (Zk [4, 5] base) := rfl
def m60 : MFunc := ⟨(.seq r60_0 (.seq r60_1 (.seq (.seq r60_2 (.cond (.tmp 12) (.seq r60_3 .ret) .skip)) (.seq r60_4 (.seq (.seq r60_5 (.cond (.tmp 30) (.seq r60_6 .ret) .skip)) (.seq r60_7 .ret)))))), [.cell 4 true 5, .tmp 5], false, false⟩
def q61_0_0 : List MOper := [⟨some 4,.mov true (.lit (.slice true [])),none⟩]
def r61_0 : MCode := .region 0 q61_0_0 false [0, 1, 4]
theorem x61_0 : exec run esc l base r61_0 e σ = (stepOps run esc base q61_0_0 e σ).bind (Zk [0, 1, 4] base) := rfl
def q61_1_0 : List MOper := [⟨some 7,.mov false (.tmp 0),none⟩, ⟨some 8,.len false (.tmp 7),none⟩, ⟨some 9,.mov false (.lit (.int .i64 0)),none⟩]
def r61_1 : MCode := .region 1 q61_1_0 false [1, 4, 7, 8, 9]
theorem x61_1 : exec run esc l base r61_1 e σ = (stepOps run esc base q61_1_0 e σ).bind (Zk [1, 4, 7, 8, 9] base) := rfl
def q61_2_0 : List MOper := [⟨some 10,.bin .lss (.tmp 9) (.tmp 8),none⟩]
def r61_2 : MCode := .region 2 q61_2_0 false [1, 4, 7, 8, 9, 10]
theorem x61_2 : exec run esc l base r61_2 e σ = (stepOps run esc base q61_2_0 e σ).bind (Zk [1, 4, 7, 8, 9, 10] base) := rfl
def q61_3_0 : List MOper := [⟨some 11,.index 5 (.tmp 7) (.tmp 9),none⟩, ⟨some 12,.load false true 5 (.tmp 11),none⟩, ⟨some 6,.alloc [(.int .i64 0), (.int .i64 0), (.int .i64 0), (.bool false), (.slice true [])],none⟩, ⟨none,.store 5 (.tmp 6) (.tmp 12),none⟩]
def r61_3 : MCode := .region 3 q61_3_0 false [1, 4, 6, 7, 8, 9]
theorem x61_3 : exec run esc l base r61_3 e σ = (stepOps run esc base q61_3_0 e σ).bind (Zk [1, 4, 6, 7, 8, 9] base) := rfl
def q61_4_0 : List MOper := [⟨some 13,.mov false (.tmp 1),none⟩, ⟨some 14,.load false true 5 (.tmp 6),none⟩, ⟨some 15,.call (.tmp 13) [(.tmp 14)],none⟩]
def r61_4 : MCode := .region 4 q61_4_0 false [1, 4, 6, 7, 8, 9, 15]
theorem x61_4 : exec run esc l base r61_4 e σ = (stepOps run esc base q61_4_0 e σ).bind (Zk [1, 4, 6, 7, 8, 9, 15] base) := rfl
def q61_5_0 : List MOper := [⟨some 16,.mov true (.tmp 4),none⟩, ⟨some 17,.load false true 5 (.tmp 6),none⟩, ⟨some 18,.buildSlice 5 [(.tmp 17)],none⟩, ⟨some 19,.append false 5 56 (.tmp 16) (.tmp 18),none⟩, ⟨some 4,.mov true (.tmp 19),none⟩]
def r61_5 : MCode := .region 5 q61_5_0 false [1, 4, 7, 8, 9]
theorem x61_5 : exec run esc l base r61_5 e σ = (stepOps run esc base q61_5_0 e σ).bind (Zk [1, 4, 7, 8, 9] base) := rfl
def q61_6_0 : List MOper := [⟨some 20,.bin .add (.tmp 9) (.lit (.int .i64 1)),none⟩, ⟨some 9,.mov false (.tmp 20),none⟩]
def r61_6 : MCode := .region 6 q61_6_0 false [1, 4, 7, 8, 9]
theorem x61_6 : exec run esc l base r61_6 e σ = (stepOps run esc base q61_6_0 e σ).bind (Zk [1, 4, 7, 8, 9] base) := rfl
def l61_0 : MCode := (.seq r61_2 (.seq (.cond (.tmp 10) .skip (.exit 0)) (.seq (.block 1 (.seq r61_3 (.seq r61_4 (.cond (.tmp 15) r61_5 .skip)))) r61_6)))
def q61_7_0 : List MOper := [⟨some 21,.mov true (.tmp 4),none⟩, ⟨some 4,.mov true (.tmp 21),none⟩]
def r61_7 : MCode := .region 7 q61_7_0 false [4]
theorem x61_7 : exec run esc l base r61_7 e σ = (stepOps run esc base q61_7_0 e σ).bind (Zk [4] base) := rfl
def m61 : MFunc := ⟨(.seq r61_0 (.seq (.seq r61_1 (.block 0 (.loop l61_0))) (.seq r61_7 .ret))), [.tmp 4], true, false⟩
def q62_0_0 : List MOper := [⟨some 4,.mov true (.lit (.slice true [])),none⟩]
def r62_0 : MCode := .region 0 q62_0_0 false [0, 1, 4]
theorem x62_0 : exec run esc l base r62_0 e σ = (stepOps run esc base q62_0_0 e σ).bind (Zk [0, 1, 4] base) := rfl
def q62_1_0 : List MOper := [⟨some 7,.mov false (.tmp 0),none⟩, ⟨some 8,.len false (.tmp 7),none⟩, ⟨some 9,.mov false (.lit (.int .i64 0)),none⟩]
def r62_1 : MCode := .region 1 q62_1_0 false [1, 4, 7, 8, 9]
theorem x62_1 : exec run esc l base r62_1 e σ = (stepOps run esc base q62_1_0 e σ).bind (Zk [1, 4, 7, 8, 9] base) := rfl
def q62_2_0 : List MOper := [⟨some 10,.bin .lss (.tmp 9) (.tmp 8),none⟩]
def r62_2 : MCode := .region 2 q62_2_0 false [1, 4, 7, 8, 9, 10]
theorem x62_2 : exec run esc l base r62_2 e σ = (stepOps run esc base q62_2_0 e σ).bind (Zk [1, 4, 7, 8, 9, 10] base) := rfl
def q62_3_0 : List MOper := [⟨some 11,.index 5 (.tmp 7) (.tmp 9),none⟩, ⟨some 12,.load false true 5 (.tmp 11),none⟩, ⟨some 6,.alloc [(.int .i64 0), (.int .i64 0), (.int .i64 0), (.str []), (.str [])],none⟩, ⟨none,.store 5 (.tmp 6) (.tmp 12),none⟩]
def r62_3 : MCode := .region 3 q62_3_0 false [1, 4, 6, 7, 8, 9]
theorem x62_3 : exec run esc l base r62_3 e σ = (stepOps run esc base q62_3_0 e σ).bind (Zk [1, 4, 6, 7, 8, 9] base) := rfl
def q62_4_0 : List MOper := [⟨some 13,.mov false (.tmp 1),none⟩, ⟨some 14,.load false true 5 (.tmp 6),none⟩, ⟨some 15,.call (.tmp 13) [(.tmp 14)],none⟩]
def r62_4 : MCode := .region 4 q62_4_0 false [1, 4, 6, 7, 8, 9, 15]
theorem x62_4 : exec run esc l base r62_4 e σ = (stepOps run esc base q62_4_0 e σ).bind (Zk [1, 4, 6, 7, 8, 9, 15] base) := rfl
def q62_5_0 : List MOper := [⟨some 16,.mov true (.tmp 4),none⟩, ⟨some 17,.load false true 5 (.tmp 6),none⟩, ⟨some 18,.buildSlice 5 [(.tmp 17)],none⟩, ⟨some 19,.append false 5 56 (.tmp 16) (.tmp 18),none⟩, ⟨some 4,.mov true (.tmp 19),none⟩]
def r62_5 : MCode := .region 5 q62_5_0 false [1, 4, 7, 8, 9]
theorem x62_5 : exec run esc l base r62_5 e σ = (stepOps run esc base q62_5_0 e σ).bind (Zk [1, 4, 7, 8, 9] base) := rfl
def q62_6_0 : List MOper := [⟨some 20,.bin .add (.tmp 9) (.lit (.int .i64 1)),none⟩, ⟨some 9,.mov false (.tmp 20),none⟩]
def r62_6 : MCode := .region 6 q62_6_0 false [1, 4, 7, 8, 9]
theorem x62_6 : exec run esc l base r62_6 e σ = (stepOps run esc base q62_6_0 e σ).bind (Zk [1, 4, 7, 8, 9] base) := rfl
def l62_0 : MCode := (.seq r62_2 (.seq (.cond (.tmp 10) .skip (.exit 0)) (.seq (.block 1 (.seq r62_3 (.seq r62_4 (.cond (.tmp 15) r62_5 .skip)))) r62_6)))
def q62_7_0 : List MOper := [⟨some 21,.mov true (.tmp 4),none⟩, ⟨some 4,.mov true (.tmp 21),none⟩]
def r62_7 : MCode := .region 7 q62_7_0 false [4]
theorem x62_7 : exec run esc l base r62_7 e σ = (stepOps run esc base q62_7_0 e σ).bind (Zk [4] base) := rfl
def m62 : MFunc := ⟨(.seq r62_0 (.seq (.seq r62_1 (.block 0 (.loop l62_0))) (.seq r62_7 .ret))), [.tmp 4], true, false⟩
def q63_0_0 : List MOper := [⟨some 1,.box 5 (.tmp 0),none⟩, ⟨some 2,.mov false (.lit (.bool false)),none⟩]
def r63_0 : MCode := .region 0 q63_0_0 false [1]
theorem x63_0 : exec run esc l base r63_0 e σ = (stepOps run esc base q63_0_0 e σ).bind (Zk [1] base) := rfl
def q63_1_0 : List MOper := [⟨some 4,.fieldAddr 0 (.tmp 1),none⟩, ⟨some 5,.load false false 1 (.tmp 4),none⟩, ⟨some 3,.mov false (.tmp 5),none⟩]
def r63_1 : MCode := .region 1 q63_1_0 false [1, 3]
theorem x63_1 : exec run esc l base r63_1 e σ = (stepOps run esc base q63_1_0 e σ).bind (Zk [1, 3] base) := rfl
def q63_2_0 : List MOper := [⟨some 6,.fieldAddr 0 (.tmp 1),none⟩, ⟨none,.store 1 (.tmp 6) (.lit (.int .i64 0)),none⟩]
def r63_2 : MCode := .region 2 q63_2_0 false [1, 3]
theorem x63_2 : exec run esc l base r63_2 e σ = (stepOps run esc base q63_2_0 e σ).bind (Zk [1, 3] base) := rfl
def q63_3_0 : List MOper := [⟨some 7,.mov false (.tmp 3),none⟩, ⟨some 8,.bin .geq (.tmp 7) (.lit (.int .i64 (-1))),none⟩, ⟨some 9,.mov false (.tmp 8),none⟩, ⟨some 10,.mov false (.tmp 3),some (9, true)⟩, ⟨some 11,.bin .leq (.tmp 10) (.lit (.int .i64 1048576)),some (9, true)⟩, ⟨some 12,.pick (.tmp 9) (.tmp 11) (.lit (.bool false)),none⟩]
def q63_3_1 : List MOper := [⟨some 13,.mov false (.tmp 12),none⟩, ⟨some 14,.load false true 5 (.tmp 1),some (13, true)⟩, ⟨some 15,.build [(.int .i8 0), (.int .i64 0), (.int .i64 0), (.int .i64 0), (.bool false), (.slice true []), (.bool false), (.int .i64 0), (.int .i64 0), (.int .i64 0), (.int .i64 0), (.int .i64 0), (.str []), (.str []), (.int .i64 0), (.int .i64 0), (.int .i64 0), (.slice true [])] [(0, 1, (.lit (.int .i8 5))), (9, 5, (.tmp 14))],some (13, true)⟩, ⟨some 16,.call (.lit (.fn 64 [])) [(.tmp 15)],some (13, true)⟩, ⟨some 17,.pick (.tmp 13) (.tmp 16) (.lit (.bool false)),none⟩, ⟨some 2,.mov false (.tmp 17),none⟩]
def r63_3 : MCode := .region 3 (q63_3_0 ++ q63_3_1) false [2]
theorem x63_3 : exec run esc l base r63_3 e σ = (stepOps run esc base q63_3_0 e σ).bind fun x => (stepOps run esc base q63_3_1 x.1 x.2).bind (Zk [2] base) := reg2
def m63 : MFunc := ⟨(.seq r63_0 (.seq r63_1 (.seq r63_2 (.seq r63_3 .ret)))), [.tmp 2], false, false⟩
def q64_0_0 : List MOper := [⟨some 1,.box 18 (.tmp 0),none⟩, ⟨some 2,.mov false (.lit (.bool false)),none⟩]
def r64_0 : MCode := .region 0 q64_0_0 false [1]
theorem x64_0 : exec run esc l base r64_0 e σ = (stepOps run esc base q64_0_0 e σ).bind (Zk [1] base) := rfl
def q64_1_0 : List MOper := [⟨some 4,.fieldAddr 0 (.tmp 1),none⟩, ⟨some 5,.load false false 1 (.tmp 4),none⟩, ⟨some 6,.bin .lss (.tmp 5) (.lit (.int .i8 0)),none⟩, ⟨some 7,.mov false (.tmp 6),none⟩, ⟨some 8,.fieldAddr 0 (.tmp 1),some (7, false)⟩, ⟨some 9,.load false false 1 (.tmp 8),some (7, false)⟩]
def q64_1_1 : List MOper := [⟨some 10,.bin .gtr (.tmp 9) (.lit (.int .i8 6)),some (7, false)⟩, ⟨some 11,.pick (.tmp 7) (.lit (.bool true)) (.tmp 10),none⟩, ⟨some 12,.mov false (.tmp 11),none⟩, ⟨some 13,.load false true 18 (.tmp 1),some (12, false)⟩, ⟨some 14,.callr (.lit (.fn 77 [])) [(.tmp 1)],some (12, false)⟩, ⟨some 15,.callr (.lit (.fn 76 [])) [(.tmp 13), (.tmp 14)],some (12, false)⟩]
def q64_1_2 : List MOper := [⟨some 16,.un .not (.tmp 15),some (12, false)⟩, ⟨some 17,.pick (.tmp 12) (.lit (.bool true)) (.tmp 16),none⟩]
def r64_1 : MCode := .region 1 (q64_1_0 ++ (q64_1_1 ++ q64_1_2)) true [1, 17]
theorem x64_1 : exec run esc l base r64_1 e σ = (stepOps run esc base q64_1_0 e σ).bind fun x => (stepOps run esc base q64_1_1 x.1 x.2).bind fun x => (stepOps run esc base q64_1_2 x.1 x.2).bind (Zk [1, 17] base) := by simp only [r64_1, regN, regA, Option.bind_assoc]
def q64_2_0 : List MOper := [⟨some 2,.mov false (.lit (.bool false)),none⟩]
def r64_2 : MCode := .region 2 q64_2_0 false [2]
theorem x64_2 : exec run esc l base r64_2 e σ = (stepOps run esc base q64_2_0 e σ).bind (Zk [2] base) := rfl
def q64_3_0 : List MOper := [⟨some 18,.fieldAddr 0 (.tmp 1),none⟩, ⟨some 19,.load false false 1 (.tmp 18),none⟩]
def r64_3 : MCode := .region 3 q64_3_0 false [1, 19]
theorem x64_3 : exec run esc l base r64_3 e σ = (stepOps run esc base q64_3_0 e σ).bind (Zk [1, 19] base) := rfl
def q64_4_0 : List MOper := [⟨some 21,.bin .eql (.tmp 19) (.lit (.int .i8 3)),none⟩, ⟨some 20,.mov false (.tmp 21),none⟩]
def r64_4 : MCode := .region 4 q64_4_0 false [1, 19, 20]
theorem x64_4 : exec run esc l base r64_4 e σ = (stepOps run esc base q64_4_0 e σ).bind (Zk [1, 19, 20] base) := rfl
def q64_5_0 : List MOper := [⟨some 23,.bin .eql (.tmp 19) (.lit (.int .i8 0)),none⟩, ⟨some 22,.mov false (.tmp 23),none⟩]
def r64_5 : MCode := .region 5 q64_5_0 false [1, 19, 22]
theorem x64_5 : exec run esc l base r64_5 e σ = (stepOps run esc base q64_5_0 e σ).bind (Zk [1, 19, 22] base) := rfl
def q64_6_0 : List MOper := [⟨some 25,.bin .eql (.tmp 19) (.lit (.int .i8 4)),none⟩, ⟨some 24,.mov false (.tmp 25),none⟩]
def r64_6 : MCode := .region 6 q64_6_0 false [1, 19, 24]
theorem x64_6 : exec run esc l base r64_6 e σ = (stepOps run esc base q64_6_0 e σ).bind (Zk [1, 19, 24] base) := rfl
def q64_7_0 : List MOper := [⟨some 27,.bin .eql (.tmp 19) (.lit (.int .i8 1)),none⟩, ⟨some 26,.mov false (.tmp 27),none⟩]
def r64_7 : MCode := .region 7 q64_7_0 false [1, 19, 26]
theorem x64_7 : exec run esc l base r64_7 e σ = (stepOps run esc base q64_7_0 e σ).bind (Zk [1, 19, 26] base) := rfl
def q64_8_0 : List MOper := [⟨some 29,.bin .eql (.tmp 19) (.lit (.int .i8 2)),none⟩, ⟨some 28,.mov false (.tmp 29),none⟩]
def r64_8 : MCode := .region 8 q64_8_0 false [1, 19, 28]
theorem x64_8 : exec run esc l base r64_8 e σ = (stepOps run esc base q64_8_0 e σ).bind (Zk [1, 19, 28] base) := rfl
def q64_9_0 : List MOper := [⟨some 31,.bin .eql (.tmp 19) (.lit (.int .i8 5)),none⟩, ⟨some 30,.mov false (.tmp 31),none⟩]
def r64_9 : MCode := .region 9 q64_9_0 false [1, 30]
theorem x64_9 : exec run esc l base r64_9 e σ = (stepOps run esc base q64_9_0 e σ).bind (Zk [1, 30] base) := rfl
def q64_10_0 : List MOper := [⟨some 32,.fieldAddr 1 (.tmp 1),none⟩, ⟨some 33,.fieldAddr 3 (.tmp 32),none⟩, ⟨some 34,.load false false 1 (.tmp 33),none⟩, ⟨some 35,.un .not (.tmp 34),none⟩, ⟨some 36,.mov false (.tmp 35),none⟩, ⟨some 37,.fieldAddr 7 (.tmp 1),some (36, false)⟩]
def q64_10_1 : List MOper := [⟨some 38,.load false false 1 (.tmp 37),some (36, false)⟩, ⟨some 39,.call (.lit (.fn 58 [])) [(.tmp 38), (.lit (.int .i64 0)), (.lit (.int .i64 1048576))],some (36, false)⟩, ⟨some 40,.un .not (.tmp 39),some (36, false)⟩, ⟨some 41,.pick (.tmp 36) (.lit (.bool true)) (.tmp 40),none⟩]
def r64_10 : MCode := .region 10 (q64_10_0 ++ q64_10_1) false [1, 41]
theorem x64_10 : exec run esc l base r64_10 e σ = (stepOps run esc base q64_10_0 e σ).bind fun x => (stepOps run esc base q64_10_1 x.1 x.2).bind (Zk [1, 41] base) := reg2
def q64_11_0 : List MOper := [⟨some 2,.mov false (.lit (.bool false)),none⟩]
def r64_11 : MCode := .region 11 q64_11_0 false [2]
theorem x64_11 : exec run esc l base r64_11 e σ = (stepOps run esc base q64_11_0 e σ).bind (Zk [2] base) := rfl
def q64_12_0 : List MOper := [⟨some 42,.fieldAddr 1 (.tmp 1),none⟩, ⟨some 43,.load false true 5 (.tmp 42),none⟩, ⟨some 44,.call (.lit (.fn 38 [])) [(.tmp 43)],none⟩, ⟨some 2,.mov false (.tmp 44),none⟩]
def r64_12 : MCode := .region 12 q64_12_0 false [2]
theorem x64_12 : exec run esc l base r64_12 e σ = (stepOps run esc base q64_12_0 e σ).bind (Zk [2] base) := rfl
def q64_13_0 : List MOper := [⟨some 45,.fieldAddr 7 (.tmp 1),none⟩, ⟨some 46,.load false false 1 (.tmp 45),none⟩, ⟨some 47,.call (.lit (.fn 58 [])) [(.tmp 46), (.lit (.int .i64 0)), (.lit (.int .i64 1048576))],none⟩, ⟨some 48,.un .not (.tmp 47),none⟩]
def r64_13 : MCode := .region 13 q64_13_0 false [1, 48]
theorem x64_13 : exec run esc l base r64_13 e σ = (stepOps run esc base q64_13_0 e σ).bind (Zk [1, 48] base) := rfl
def q64_14_0 : List MOper := [⟨some 2,.mov false (.lit (.bool false)),none⟩]
def r64_14 : MCode := .region 14 q64_14_0 false [2]
theorem x64_14 : exec run esc l base r64_14 e σ = (stepOps run esc base q64_14_0 e σ).bind (Zk [2] base) := rfl
def q64_15_0 : List MOper := [⟨some 49,.fieldAddr 1 (.tmp 1),none⟩, ⟨some 50,.fieldAddr 0 (.tmp 49),none⟩, ⟨some 51,.load false false 1 (.tmp 50),none⟩, ⟨some 52,.fieldAddr 1 (.tmp 1),none⟩, ⟨some 53,.fieldAddr 1 (.tmp 52),none⟩, ⟨some 54,.load false false 1 (.tmp 53),none⟩]
def q64_15_1 : List MOper := [⟨some 55,.call (.lit (.fn 57 [])) [(.tmp 51), (.tmp 54)],none⟩, ⟨some 2,.mov false (.tmp 55),none⟩]
def r64_15 : MCode := .region 15 (q64_15_0 ++ q64_15_1) false [2]
theorem x64_15 : exec run esc l base r64_15 e σ = (stepOps run esc base q64_15_0 e σ).bind fun x => (stepOps run esc base q64_15_1 x.1 x.2).bind (Zk [2] base) := reg2
def q64_16_0 : List MOper := [⟨some 56,.fieldAddr 8 (.tmp 1),none⟩, ⟨some 57,.load false false 1 (.tmp 56),none⟩, ⟨some 58,.call (.lit (.fn 58 [])) [(.tmp 57), (.lit (.int .i64 0)), (.lit (.int .i64 1048576))],none⟩, ⟨some 2,.mov false (.tmp 58),none⟩]
def r64_16 : MCode := .region 16 q64_16_0 false [2]
theorem x64_16 : exec run esc l base r64_16 e σ = (stepOps run esc base q64_16_0 e σ).bind (Zk [2] base) := rfl
def q64_17_0 : List MOper := [⟨some 59,.fieldAddr 9 (.tmp 1),none⟩, ⟨some 3,.mov false (.tmp 59),none⟩]
def r64_17 : MCode := .region 17 q64_17_0 false [3]
theorem x64_17 : exec run esc l base r64_17 e σ = (stepOps run esc base q64_17_0 e σ).bind (Zk [3] base) := rfl
def q64_18_0 : List MOper := [⟨some 60,.mov false (.tmp 3),none⟩, ⟨some 61,.nilCheck (.tmp 60),none⟩, ⟨some 62,.fieldAddr 1 (.tmp 61),none⟩, ⟨some 63,.load false false 1 (.tmp 62),none⟩, ⟨some 64,.call (.lit (.fn 57 [])) [(.tmp 63), (.lit (.int .i64 0))],none⟩, ⟨some 65,.mov false (.tmp 64),none⟩]
def q64_18_1 : List MOper := [⟨some 66,.mov false (.tmp 3),some (65, true)⟩, ⟨some 67,.nilCheck (.tmp 66),some (65, true)⟩, ⟨some 68,.fieldAddr 2 (.tmp 67),some (65, true)⟩, ⟨some 69,.load false false 1 (.tmp 68),some (65, true)⟩, ⟨some 70,.call (.lit (.fn 58 [])) [(.tmp 69), (.lit (.int .i64 0)), (.lit (.int .i64 1048575))],some (65, true)⟩, ⟨some 71,.pick (.tmp 65) (.tmp 70) (.lit (.bool false)),none⟩]
def q64_18_2 : List MOper := [⟨some 72,.mov false (.tmp 71),none⟩, ⟨some 73,.mov false (.tmp 3),some (72, true)⟩, ⟨some 74,.nilCheck (.tmp 73),some (72, true)⟩, ⟨some 75,.fieldAddr 3 (.tmp 74),some (72, true)⟩, ⟨some 76,.load false false 1 (.tmp 75),some (72, true)⟩, ⟨some 77,.len true (.tmp 76),some (72, true)⟩]
def q64_18_3 : List MOper := [⟨some 78,.bin .leq (.tmp 77) (.lit (.int .i64 16)),some (72, true)⟩, ⟨some 79,.pick (.tmp 72) (.tmp 78) (.lit (.bool false)),none⟩, ⟨some 80,.mov false (.tmp 79),none⟩, ⟨some 81,.mov false (.tmp 3),some (80, true)⟩, ⟨some 82,.nilCheck (.tmp 81),some (80, true)⟩, ⟨some 83,.fieldAddr 4 (.tmp 82),some (80, true)⟩]
def q64_18_4 : List MOper := [⟨some 84,.load false false 1 (.tmp 83),some (80, true)⟩, ⟨some 85,.len true (.tmp 84),some (80, true)⟩, ⟨some 86,.bin .leq (.tmp 85) (.lit (.int .i64 16)),some (80, true)⟩, ⟨some 87,.pick (.tmp 80) (.tmp 86) (.lit (.bool false)),none⟩, ⟨some 2,.mov false (.tmp 87),none⟩]
def r64_18 : MCode := .region 18 (q64_18_0 ++ (q64_18_1 ++ (q64_18_2 ++ (q64_18_3 ++ q64_18_4)))) false [2]
theorem x64_18 : exec run esc l base r64_18 e σ = (stepOps run esc base q64_18_0 e σ).bind fun x => (stepOps run esc base q64_18_1 x.1 x.2).bind fun x => (stepOps run esc base q64_18_2 x.1 x.2).bind fun x => (stepOps run esc base q64_18_3 x.1 x.2).bind fun x => (stepOps run esc base q64_18_4 x.1 x.2).bind (Zk [2] base) := by simp only [r64_18, regN, regA, Option.bind_assoc]
def q64_19_0 : List MOper := [⟨some 88,.fieldAddr 14 (.tmp 1),none⟩, ⟨some 89,.load false true 4 (.tmp 88),none⟩, ⟨some 90,.call (.lit (.fn 41 [])) [(.tmp 89)],none⟩, ⟨some 2,.mov false (.tmp 90),none⟩]
def r64_19 : MCode := .region 19 q64_19_0 false [2]
theorem x64_19 : exec run esc l base r64_19 e σ = (stepOps run esc base q64_19_0 e σ).bind (Zk [2] base) := rfl
def m64 : MFunc := ⟨(.seq r64_0 (.seq (.seq r64_1 (.cond (.tmp 17) (.seq r64_2 .ret) .skip)) (.seq (.seq r64_3 (.block 0 (.seq (.block 6 (.seq (.block 5 (.seq (.block 4 (.seq (.block 3 (.seq (.block 2 (.seq (.block 1 (.seq (.seq (.seq r64_4 (.cond (.tmp 20) (.exit 1) .skip)) (.seq (.seq r64_5 (.cond (.tmp 22) (.exit 2) .skip)) (.seq (.seq r64_6 (.cond (.tmp 24) (.exit 3) .skip)) (.seq (.seq r64_7 (.cond (.tmp 26) (.exit 4) .skip)) (.seq (.seq r64_8 (.cond (.tmp 28) (.exit 5) .skip)) (.seq r64_9 (.cond (.tmp 30) (.exit 6) .skip))))))) (.exit 0))) (.seq r64_10 (.cond (.tmp 41) (.seq r64_11 .ret) .skip)))) (.seq (.seq r64_12 .ret) (.exit 0)))) (.seq r64_13 (.cond (.tmp 48) (.seq r64_14 .ret) .skip)))) (.seq (.seq r64_15 .ret) (.exit 0)))) (.seq (.seq r64_16 .ret) (.exit 0)))) (.seq (.seq r64_17 (.seq r64_18 .ret)) (.exit 0))))) (.seq r64_19 .ret)))), [.tmp 2], false, false⟩
end Go.Mir.A
