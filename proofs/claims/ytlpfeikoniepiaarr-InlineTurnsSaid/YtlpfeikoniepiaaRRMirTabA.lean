import Derived.Test.YtlpfeikoniepiaaRRMirTabAP0
namespace Go.Mir.A
set_option linter.all false
variable {run : Run} {esc : Nat → Bool} {l : (Env → St → Out) → Env → St → Out} {base : Nat} {e : Env} {σ : St}
def q65_0_0 : List MOper := [⟨some 2,.box 5 (.tmp 0),none⟩, ⟨some 3,.box 1 (.tmp 1),none⟩, ⟨some 4,.alloc [(.int .i64 0), (.int .i64 0), (.slice true [])],none⟩, ⟨some 5,.mov false (.lit (.bool false)),none⟩]
def r65_0 : MCode := .region 0 q65_0_0 false [2, 3, 4]
theorem x65_0 : exec run esc l base r65_0 e σ = (stepOps run esc base q65_0_0 e σ).bind (Zk [2, 3, 4] base) := rfl
def q65_1_0 : List MOper := [⟨some 7,.fieldAddr 3 (.tmp 2),none⟩, ⟨some 8,.load false false 1 (.tmp 7),none⟩, ⟨some 9,.mkfn 79 [(.tmp 3)],none⟩, ⟨some 10,.call (.lit (.fn 78 [])) [(.tmp 8), (.tmp 9)],none⟩, ⟨some 6,.mov true (.tmp 10),none⟩]
def r65_1 : MCode := .region 1 q65_1_0 false [3, 4, 6]
theorem x65_1 : exec run esc l base r65_1 e σ = (stepOps run esc base q65_1_0 e σ).bind (Zk [3, 4, 6] base) := rfl
def q65_2_0 : List MOper := [⟨some 11,.mov false (.tmp 6),none⟩, ⟨some 12,.len false (.tmp 11),none⟩, ⟨some 13,.bin .eql (.tmp 12) (.lit (.int .i64 0)),none⟩]
def r65_2 : MCode := .region 2 q65_2_0 false [3, 4, 6, 13]
theorem x65_2 : exec run esc l base r65_2 e σ = (stepOps run esc base q65_2_0 e σ).bind (Zk [3, 4, 6, 13] base) := rfl
def q65_3_0 : List MOper := [⟨some 14,.load false false 1 (.tmp 3),none⟩, ⟨some 15,.build [(.int .i64 0), (.int .i64 0), (.slice true [])] [(0, 1, (.tmp 14))],none⟩, ⟨none,.store 3 (.tmp 4) (.tmp 15),none⟩, ⟨some 5,.mov false (.lit (.bool false)),none⟩]
def r65_3 : MCode := .region 3 q65_3_0 false [4, 5]
theorem x65_3 : exec run esc l base r65_3 e σ = (stepOps run esc base q65_3_0 e σ).bind (Zk [4, 5] base) := rfl
def q65_4_0 : List MOper := [⟨some 16,.mov false (.tmp 6),none⟩, ⟨some 17,.index 3 (.tmp 16) (.lit (.int .i64 0)),none⟩, ⟨some 18,.load false true 3 (.tmp 17),none⟩, ⟨none,.store 3 (.tmp 4) (.tmp 18),none⟩, ⟨some 5,.mov false (.lit (.bool true)),none⟩]
def r65_4 : MCode := .region 4 q65_4_0 false [4, 5]
theorem x65_4 : exec run esc l base r65_4 e σ = (stepOps run esc base q65_4_0 e σ).bind (Zk [4, 5] base) := rfl
def m65 : MFunc := ⟨(.seq r65_0 (.seq r65_1 (.seq (.seq r65_2 (.cond (.tmp 13) (.seq r65_3 .ret) .skip)) (.seq r65_4 .ret)))), [.cell 4 true 3, .tmp 5], false, false⟩
def q66_0_0 : List MOper := [⟨some 4,.mov true (.lit (.slice true [])),none⟩]
def r66_0 : MCode := .region 0 q66_0_0 false [0, 1, 4]
theorem x66_0 : exec run esc l base r66_0 e σ = (stepOps run esc base q66_0_0 e σ).bind (Zk [0, 1, 4] base) := rfl
def q66_1_0 : List MOper := [⟨some 7,.mov false (.tmp 0),none⟩, ⟨some 8,.len false (.tmp 7),none⟩, ⟨some 9,.mov false (.lit (.int .i64 0)),none⟩]
def r66_1 : MCode := .region 1 q66_1_0 false [1, 4, 7, 8, 9]
theorem x66_1 : exec run esc l base r66_1 e σ = (stepOps run esc base q66_1_0 e σ).bind (Zk [1, 4, 7, 8, 9] base) := rfl
def q66_2_0 : List MOper := [⟨some 10,.bin .lss (.tmp 9) (.tmp 8),none⟩]
def r66_2 : MCode := .region 2 q66_2_0 false [1, 4, 7, 8, 9, 10]
theorem x66_2 : exec run esc l base r66_2 e σ = (stepOps run esc base q66_2_0 e σ).bind (Zk [1, 4, 7, 8, 9, 10] base) := rfl
def q66_3_0 : List MOper := [⟨some 11,.index 3 (.tmp 7) (.tmp 9),none⟩, ⟨some 12,.load false true 3 (.tmp 11),none⟩, ⟨some 6,.alloc [(.int .i64 0), (.int .i64 0), (.int .i64 0)],none⟩, ⟨none,.store 3 (.tmp 6) (.tmp 12),none⟩]
def r66_3 : MCode := .region 3 q66_3_0 false [1, 4, 6, 7, 8, 9]
theorem x66_3 : exec run esc l base r66_3 e σ = (stepOps run esc base q66_3_0 e σ).bind (Zk [1, 4, 6, 7, 8, 9] base) := rfl
def q66_4_0 : List MOper := [⟨some 13,.mov false (.tmp 1),none⟩, ⟨some 14,.load false true 3 (.tmp 6),none⟩, ⟨some 15,.call (.tmp 13) [(.tmp 14)],none⟩]
def r66_4 : MCode := .region 4 q66_4_0 false [1, 4, 6, 7, 8, 9, 15]
theorem x66_4 : exec run esc l base r66_4 e σ = (stepOps run esc base q66_4_0 e σ).bind (Zk [1, 4, 6, 7, 8, 9, 15] base) := rfl
def q66_5_0 : List MOper := [⟨some 16,.mov true (.tmp 4),none⟩, ⟨some 17,.load false true 3 (.tmp 6),none⟩, ⟨some 18,.buildSlice 3 [(.tmp 17)],none⟩, ⟨some 19,.append false 3 24 (.tmp 16) (.tmp 18),none⟩, ⟨some 4,.mov true (.tmp 19),none⟩]
def r66_5 : MCode := .region 5 q66_5_0 false [1, 4, 7, 8, 9]
theorem x66_5 : exec run esc l base r66_5 e σ = (stepOps run esc base q66_5_0 e σ).bind (Zk [1, 4, 7, 8, 9] base) := rfl
def q66_6_0 : List MOper := [⟨some 20,.bin .add (.tmp 9) (.lit (.int .i64 1)),none⟩, ⟨some 9,.mov false (.tmp 20),none⟩]
def r66_6 : MCode := .region 6 q66_6_0 false [1, 4, 7, 8, 9]
theorem x66_6 : exec run esc l base r66_6 e σ = (stepOps run esc base q66_6_0 e σ).bind (Zk [1, 4, 7, 8, 9] base) := rfl
def l66_0 : MCode := (.seq r66_2 (.seq (.cond (.tmp 10) .skip (.exit 0)) (.seq (.block 1 (.seq r66_3 (.seq r66_4 (.cond (.tmp 15) r66_5 .skip)))) r66_6)))
def q66_7_0 : List MOper := [⟨some 21,.mov true (.tmp 4),none⟩, ⟨some 4,.mov true (.tmp 21),none⟩]
def r66_7 : MCode := .region 7 q66_7_0 false [4]
theorem x66_7 : exec run esc l base r66_7 e σ = (stepOps run esc base q66_7_0 e σ).bind (Zk [4] base) := rfl
def m66 : MFunc := ⟨(.seq r66_0 (.seq (.seq r66_1 (.block 0 (.loop l66_0))) (.seq r66_7 .ret))), [.tmp 4], true, false⟩
def q67_0_0 : List MOper := [⟨some 2,.box 3 (.tmp 0),none⟩, ⟨some 3,.mov false (.lit (.bool false)),none⟩]
def r67_0 : MCode := .region 0 q67_0_0 false [1, 2]
theorem x67_0 : exec run esc l base r67_0 e σ = (stepOps run esc base q67_0_0 e σ).bind (Zk [1, 2] base) := rfl
def q67_1_0 : List MOper := [⟨some 4,.fieldAddr 0 (.tmp 2),none⟩, ⟨some 5,.load false false 1 (.tmp 4),none⟩, ⟨some 6,.fieldAddr 2 (.tmp 1),none⟩, ⟨some 7,.load false false 1 (.tmp 6),none⟩, ⟨some 8,.bin .lss (.tmp 5) (.tmp 7),none⟩, ⟨some 3,.mov false (.tmp 8),none⟩]
def r67_1 : MCode := .region 1 q67_1_0 false [3]
theorem x67_1 : exec run esc l base r67_1 e σ = (stepOps run esc base q67_1_0 e σ).bind (Zk [3] base) := rfl
def m67 : MFunc := ⟨(.seq r67_0 (.seq r67_1 .ret)), [.tmp 3], false, false⟩
def q68_0_0 : List MOper := [⟨some 2,.box 4 (.tmp 0),none⟩, ⟨some 3,.mov false (.lit (.bool false)),none⟩]
def r68_0 : MCode := .region 0 q68_0_0 false [1, 2]
theorem x68_0 : exec run esc l base r68_0 e σ = (stepOps run esc base q68_0_0 e σ).bind (Zk [1, 2] base) := rfl
def q68_1_0 : List MOper := [⟨some 4,.fieldAddr 0 (.tmp 2),none⟩, ⟨some 5,.load false false 1 (.tmp 4),none⟩, ⟨some 6,.load false false 1 (.tmp 1),none⟩, ⟨some 7,.bin .geq (.tmp 5) (.tmp 6),none⟩, ⟨some 3,.mov false (.tmp 7),none⟩]
def r68_1 : MCode := .region 1 q68_1_0 false [3]
theorem x68_1 : exec run esc l base r68_1 e σ = (stepOps run esc base q68_1_0 e σ).bind (Zk [3] base) := rfl
def m68 : MFunc := ⟨(.seq r68_0 (.seq r68_1 .ret)), [.tmp 3], false, false⟩
def q69_0_0 : List MOper := [⟨some 1,.box 4 (.tmp 0),none⟩, ⟨some 2,.mov false (.lit (.bool false)),none⟩]
def r69_0 : MCode := .region 0 q69_0_0 false [1]
theorem x69_0 : exec run esc l base r69_0 e σ = (stepOps run esc base q69_0_0 e σ).bind (Zk [1] base) := rfl
def q69_1_0 : List MOper := [⟨some 6,.fieldAddr 0 (.tmp 1),none⟩, ⟨some 7,.load false false 1 (.tmp 6),none⟩, ⟨some 8,.fieldAddr 1 (.tmp 1),none⟩, ⟨some 9,.load false false 1 (.tmp 8),none⟩, ⟨some 10,.call (.lit (.fn 80 [])) [(.tmp 7), (.tmp 9)],none⟩, ⟨some 11,.un .not (.tmp 10),none⟩]
def q69_1_1 : List MOper := [⟨some 12,.mov false (.tmp 11),none⟩, ⟨some 13,.fieldAddr 2 (.tmp 1),some (12, false)⟩, ⟨some 14,.load false false 1 (.tmp 13),some (12, false)⟩, ⟨some 15,.call (.lit (.fn 81 [])) [(.tmp 14), (.lit (.int .i64 0)), (.lit (.int .i64 1048576))],some (12, false)⟩, ⟨some 16,.un .not (.tmp 15),some (12, false)⟩, ⟨some 17,.pick (.tmp 12) (.lit (.bool true)) (.tmp 16),none⟩]
def q69_1_2 : List MOper := [⟨some 18,.mov false (.tmp 17),none⟩, ⟨some 19,.fieldAddr 3 (.tmp 1),some (18, false)⟩, ⟨some 20,.load false false 1 (.tmp 19),some (18, false)⟩, ⟨some 21,.len false (.tmp 20),some (18, false)⟩, ⟨some 22,.bin .gtr (.tmp 21) (.lit (.int .i64 3)),some (18, false)⟩, ⟨some 23,.pick (.tmp 18) (.lit (.bool true)) (.tmp 22),none⟩]
def r69_1 : MCode := .region 1 (q69_1_0 ++ (q69_1_1 ++ q69_1_2)) false [1, 23]
theorem x69_1 : exec run esc l base r69_1 e σ = (stepOps run esc base q69_1_0 e σ).bind fun x => (stepOps run esc base q69_1_1 x.1 x.2).bind fun x => (stepOps run esc base q69_1_2 x.1 x.2).bind (Zk [1, 23] base) := by simp only [r69_1, regN, regA, Option.bind_assoc]
def q69_2_0 : List MOper := [⟨some 2,.mov false (.lit (.bool false)),none⟩]
def r69_2 : MCode := .region 2 q69_2_0 false [2]
theorem x69_2 : exec run esc l base r69_2 e σ = (stepOps run esc base q69_2_0 e σ).bind (Zk [2] base) := rfl
def q69_3_0 : List MOper := [⟨some 3,.mov false (.lit (.int .i64 0)),none⟩]
def r69_3 : MCode := .region 3 q69_3_0 false [1, 3]
theorem x69_3 : exec run esc l base r69_3 e σ = (stepOps run esc base q69_3_0 e σ).bind (Zk [1, 3] base) := rfl
def q69_4_0 : List MOper := [⟨some 24,.mov false (.tmp 3),none⟩, ⟨some 25,.fieldAddr 3 (.tmp 1),none⟩, ⟨some 26,.load false false 1 (.tmp 25),none⟩, ⟨some 27,.len false (.tmp 26),none⟩, ⟨some 28,.bin .lss (.tmp 24) (.tmp 27),none⟩]
def r69_4 : MCode := .region 4 q69_4_0 false [1, 3, 28]
theorem x69_4 : exec run esc l base r69_4 e σ = (stepOps run esc base q69_4_0 e σ).bind (Zk [1, 3, 28] base) := rfl
def q69_6_0 : List MOper := [⟨some 31,.fieldAddr 3 (.tmp 1),none⟩, ⟨some 32,.load false false 1 (.tmp 31),none⟩, ⟨some 33,.mov false (.tmp 3),none⟩, ⟨some 34,.index 3 (.tmp 32) (.tmp 33),none⟩, ⟨some 35,.load false true 3 (.tmp 34),none⟩, ⟨some 4,.alloc [(.int .i64 0), (.int .i64 0), (.int .i64 0)],none⟩]
def q69_6_1 : List MOper := [⟨none,.store 3 (.tmp 4) (.tmp 35),none⟩]
def r69_6 : MCode := .region 6 (q69_6_0 ++ q69_6_1) false [1, 3, 4]
theorem x69_6 : exec run esc l base r69_6 e σ = (stepOps run esc base q69_6_0 e σ).bind fun x => (stepOps run esc base q69_6_1 x.1 x.2).bind (Zk [1, 3, 4] base) := reg2
def q69_7_0 : List MOper := [⟨some 36,.fieldAddr 2 (.tmp 1),none⟩, ⟨some 37,.load false false 1 (.tmp 36),none⟩, ⟨some 5,.mov false (.tmp 37),none⟩]
def r69_7 : MCode := .region 7 q69_7_0 false [1, 3, 4, 5]
theorem x69_7 : exec run esc l base r69_7 e σ = (stepOps run esc base q69_7_0 e σ).bind (Zk [1, 3, 4, 5] base) := rfl
def q69_8_0 : List MOper := [⟨some 38,.mov false (.tmp 3),none⟩, ⟨some 39,.bin .add (.tmp 38) (.lit (.int .i64 1)),none⟩, ⟨some 40,.fieldAddr 3 (.tmp 1),none⟩, ⟨some 41,.load false false 1 (.tmp 40),none⟩, ⟨some 42,.len false (.tmp 41),none⟩, ⟨some 43,.bin .lss (.tmp 39) (.tmp 42),none⟩]
def r69_8 : MCode := .region 8 q69_8_0 false [1, 3, 4, 5, 43]
theorem x69_8 : exec run esc l base r69_8 e σ = (stepOps run esc base q69_8_0 e σ).bind (Zk [1, 3, 4, 5, 43] base) := rfl
def q69_9_0 : List MOper := [⟨some 44,.fieldAddr 3 (.tmp 1),none⟩, ⟨some 45,.load false false 1 (.tmp 44),none⟩, ⟨some 46,.mov false (.tmp 3),none⟩, ⟨some 47,.bin .add (.tmp 46) (.lit (.int .i64 1)),none⟩, ⟨some 48,.index 3 (.tmp 45) (.tmp 47),none⟩, ⟨some 49,.fieldAddr 0 (.tmp 48),none⟩]
def q69_9_1 : List MOper := [⟨some 50,.load false false 1 (.tmp 49),none⟩, ⟨some 5,.mov false (.tmp 50),none⟩]
def r69_9 : MCode := .region 9 (q69_9_0 ++ q69_9_1) false [1, 3, 4, 5]
theorem x69_9 : exec run esc l base r69_9 e σ = (stepOps run esc base q69_9_0 e σ).bind fun x => (stepOps run esc base q69_9_1 x.1 x.2).bind (Zk [1, 3, 4, 5] base) := reg2
def q69_10_0 : List MOper := [⟨some 51,.fieldAddr 0 (.tmp 4),none⟩, ⟨some 52,.load false false 1 (.tmp 51),none⟩, ⟨some 53,.bin .lss (.tmp 52) (.lit (.int .i64 0)),none⟩, ⟨some 54,.mov false (.tmp 53),none⟩, ⟨some 55,.fieldAddr 1 (.tmp 4),some (54, false)⟩, ⟨some 56,.load false false 1 (.tmp 55),some (54, false)⟩]
def q69_10_1 : List MOper := [⟨some 57,.call (.lit (.fn 81 [])) [(.tmp 56), (.lit (.int .i64 1)), (.lit (.int .i64 4))],some (54, false)⟩, ⟨some 58,.un .not (.tmp 57),some (54, false)⟩, ⟨some 59,.pick (.tmp 54) (.lit (.bool true)) (.tmp 58),none⟩, ⟨some 60,.mov false (.tmp 59),none⟩, ⟨some 61,.fieldAddr 2 (.tmp 4),some (60, false)⟩, ⟨some 62,.load false false 1 (.tmp 61),some (60, false)⟩]
def q69_10_2 : List MOper := [⟨some 63,.call (.lit (.fn 81 [])) [(.tmp 62), (.lit (.int .i64 (-1))), (.lit (.int .i64 1048576))],some (60, false)⟩, ⟨some 64,.un .not (.tmp 63),some (60, false)⟩, ⟨some 65,.pick (.tmp 60) (.lit (.bool true)) (.tmp 64),none⟩, ⟨some 66,.mov false (.tmp 65),none⟩, ⟨some 67,.fieldAddr 0 (.tmp 4),some (66, false)⟩, ⟨some 68,.load false false 1 (.tmp 67),some (66, false)⟩]
def q69_10_3 : List MOper := [⟨some 69,.mov false (.tmp 5),some (66, false)⟩, ⟨some 70,.fieldAddr 1 (.tmp 4),some (66, false)⟩, ⟨some 71,.load false false 1 (.tmp 70),some (66, false)⟩, ⟨some 72,.bin .sub (.tmp 69) (.tmp 71),some (66, false)⟩, ⟨some 73,.bin .gtr (.tmp 68) (.tmp 72),some (66, false)⟩, ⟨some 74,.pick (.tmp 66) (.lit (.bool true)) (.tmp 73),none⟩]
def r69_10 : MCode := .region 10 (q69_10_0 ++ (q69_10_1 ++ (q69_10_2 ++ q69_10_3))) false [1, 3, 74]
theorem x69_10 : exec run esc l base r69_10 e σ = (stepOps run esc base q69_10_0 e σ).bind fun x => (stepOps run esc base q69_10_1 x.1 x.2).bind fun x => (stepOps run esc base q69_10_2 x.1 x.2).bind fun x => (stepOps run esc base q69_10_3 x.1 x.2).bind (Zk [1, 3, 74] base) := by simp only [r69_10, regN, regA, Option.bind_assoc]
def q69_11_0 : List MOper := [⟨some 2,.mov false (.lit (.bool false)),none⟩]
def r69_11 : MCode := .region 11 q69_11_0 false [2]
theorem x69_11 : exec run esc l base r69_11 e σ = (stepOps run esc base q69_11_0 e σ).bind (Zk [2] base) := rfl
def q69_5_0 : List MOper := [⟨some 29,.mov false (.tmp 3),none⟩, ⟨some 30,.bin .add (.tmp 29) (.lit (.int .i64 1)),none⟩, ⟨some 3,.mov false (.tmp 30),none⟩]
def r69_5 : MCode := .region 5 q69_5_0 false [1, 3]
theorem x69_5 : exec run esc l base r69_5 e σ = (stepOps run esc base q69_5_0 e σ).bind (Zk [1, 3] base) := rfl
def l69_0 : MCode := (.seq (.seq r69_4 (.cond (.tmp 28) .skip (.exit 0))) (.seq (.block 1 (.seq r69_6 (.seq r69_7 (.seq (.seq r69_8 (.cond (.tmp 43) r69_9 .skip)) (.seq r69_10 (.cond (.tmp 74) (.seq r69_11 .ret) .skip)))))) r69_5))
def q69_12_0 : List MOper := [⟨some 2,.mov false (.lit (.bool true)),none⟩]
def r69_12 : MCode := .region 12 q69_12_0 false [2]
theorem x69_12 : exec run esc l base r69_12 e σ = (stepOps run esc base q69_12_0 e σ).bind (Zk [2] base) := rfl
def m69 : MFunc := ⟨(.seq r69_0 (.seq (.seq r69_1 (.cond (.tmp 23) (.seq r69_2 .ret) .skip)) (.seq (.seq r69_3 (.block 0 (.loop l69_0))) (.seq r69_12 .ret)))), [.tmp 2], false, false⟩
def q70_0_0 : List MOper := [⟨some 2,.box 5 (.tmp 0),none⟩, ⟨some 3,.box 18 (.tmp 1),none⟩, ⟨some 4,.alloc [(.int .i64 0), (.int .i64 0), (.slice true []), (.slice true []), (.slice true [])],none⟩, ⟨some 5,.mov false (.lit (.int .i64 0)),none⟩]
def r70_0 : MCode := .region 0 q70_0_0 false [2, 3, 4]
theorem x70_0 : exec run esc l base r70_0 e σ = (stepOps run esc base q70_0_0 e σ).bind (Zk [2, 3, 4] base) := rfl
def q70_1_0 : List MOper := [⟨some 13,.load false true 5 (.tmp 2),none⟩, ⟨some 14,.fieldAddr 1 (.tmp 3),none⟩, ⟨some 15,.fieldAddr 0 (.tmp 14),none⟩, ⟨some 16,.load false false 1 (.tmp 15),none⟩, ⟨some 17,.call (.lit (.fn 65 [])) [(.tmp 13), (.tmp 16)],none⟩, ⟨some 12,.mov false (.tmp 17),none⟩]
def q70_1_1 : List MOper := [⟨some 18,.extract 0 (.tmp 12),none⟩, ⟨some 19,.extract 1 (.tmp 12),none⟩, ⟨some 6,.alloc [(.int .i64 0), (.int .i64 0), (.slice true [])],none⟩, ⟨none,.store 3 (.tmp 6) (.tmp 18),none⟩, ⟨some 7,.mov false (.tmp 19),none⟩]
def r70_1 : MCode := .region 1 (q70_1_0 ++ q70_1_1) false [2, 3, 4, 6, 7]
theorem x70_1 : exec run esc l base r70_1 e σ = (stepOps run esc base q70_1_0 e σ).bind fun x => (stepOps run esc base q70_1_1 x.1 x.2).bind (Zk [2, 3, 4, 6, 7] base) := reg2
def q70_2_0 : List MOper := [⟨some 20,.fieldAddr 1 (.tmp 2),none⟩, ⟨some 21,.load false false 1 (.tmp 20),none⟩, ⟨some 8,.mov false (.tmp 21),none⟩]
def r70_2 : MCode := .region 2 q70_2_0 false [2, 3, 4, 6, 7, 8]
theorem x70_2 : exec run esc l base r70_2 e σ = (stepOps run esc base q70_2_0 e σ).bind (Zk [2, 3, 4, 6, 7, 8] base) := rfl
def q70_3_0 : List MOper := [⟨some 22,.fieldAddr 1 (.tmp 3),none⟩, ⟨some 23,.fieldAddr 3 (.tmp 22),none⟩, ⟨some 24,.load false false 1 (.tmp 23),none⟩]
def r70_3 : MCode := .region 3 q70_3_0 false [2, 3, 4, 6, 7, 8, 24]
theorem x70_3 : exec run esc l base r70_3 e σ = (stepOps run esc base q70_3_0 e σ).bind (Zk [2, 3, 4, 6, 7, 8, 24] base) := rfl
def q70_4_0 : List MOper := [⟨some 8,.mov false (.lit (.int .i64 (-1))),none⟩]
def r70_4 : MCode := .region 4 q70_4_0 false [2, 3, 4, 6, 7, 8]
theorem x70_4 : exec run esc l base r70_4 e σ = (stepOps run esc base q70_4_0 e σ).bind (Zk [2, 3, 4, 6, 7, 8] base) := rfl
def q70_5_0 : List MOper := [⟨some 26,.fieldAddr 4 (.tmp 2),none⟩, ⟨some 27,.load false false 1 (.tmp 26),none⟩, ⟨some 28,.fieldAddr 1 (.tmp 3),none⟩, ⟨some 29,.load false true 5 (.tmp 28),none⟩, ⟨some 30,.mov false (.tmp 8),none⟩, ⟨some 31,.call (.lit (.fn 12 [])) [(.tmp 27), (.tmp 29), (.tmp 30)],none⟩]
def q70_5_1 : List MOper := [⟨some 25,.mov false (.tmp 31),none⟩, ⟨some 32,.extract 0 (.tmp 25),none⟩, ⟨some 33,.extract 1 (.tmp 25),none⟩, ⟨some 9,.mov true (.tmp 32),none⟩, ⟨some 10,.mov false (.tmp 33),none⟩]
def r70_5 : MCode := .region 5 (q70_5_0 ++ q70_5_1) false [2, 3, 4, 6, 7, 9, 10]
theorem x70_5 : exec run esc l base r70_5 e σ = (stepOps run esc base q70_5_0 e σ).bind fun x => (stepOps run esc base q70_5_1 x.1 x.2).bind (Zk [2, 3, 4, 6, 7, 9, 10] base) := reg2
def q70_6_0 : List MOper := [⟨some 34,.fieldAddr 2 (.tmp 6),none⟩, ⟨some 35,.load false false 1 (.tmp 34),none⟩, ⟨some 36,.len false (.tmp 35),none⟩, ⟨some 11,.mov false (.tmp 36),none⟩]
def r70_6 : MCode := .region 6 q70_6_0 false [2, 3, 4, 6, 7, 9, 10, 11]
theorem x70_6 : exec run esc l base r70_6 e σ = (stepOps run esc base q70_6_0 e σ).bind (Zk [2, 3, 4, 6, 7, 9, 10, 11] base) := rfl
def q70_7_0 : List MOper := [⟨some 38,.mov false (.tmp 10),none⟩, ⟨some 39,.bin .neq (.tmp 38) (.lit (.int .i64 0)),none⟩, ⟨some 37,.mov false (.tmp 39),none⟩]
def r70_7 : MCode := .region 7 q70_7_0 false [2, 3, 4, 6, 7, 9, 11, 37]
theorem x70_7 : exec run esc l base r70_7 e σ = (stepOps run esc base q70_7_0 e σ).bind (Zk [2, 3, 4, 6, 7, 9, 11, 37] base) := rfl
def q70_8_0 : List MOper := [⟨some 40,.mov false (.tmp 7),none⟩, ⟨some 41,.mov false (.tmp 40),none⟩, ⟨some 42,.fieldAddr 1 (.tmp 3),some (41, true)⟩, ⟨some 43,.fieldAddr 3 (.tmp 42),some (41, true)⟩, ⟨some 44,.load false false 1 (.tmp 43),some (41, true)⟩, ⟨some 45,.un .not (.tmp 44),some (41, true)⟩]
def q70_8_1 : List MOper := [⟨some 46,.pick (.tmp 41) (.tmp 45) (.lit (.bool false)),none⟩, ⟨some 37,.mov false (.tmp 46),none⟩]
def r70_8 : MCode := .region 8 (q70_8_0 ++ q70_8_1) false [2, 3, 4, 6, 7, 9, 11, 37]
theorem x70_8 : exec run esc l base r70_8 e σ = (stepOps run esc base q70_8_0 e σ).bind fun x => (stepOps run esc base q70_8_1 x.1 x.2).bind (Zk [2, 3, 4, 6, 7, 9, 11, 37] base) := reg2
def q70_9_0 : List MOper := [⟨some 48,.mov false (.tmp 7),none⟩, ⟨some 49,.mov false (.tmp 48),none⟩, ⟨some 50,.fieldAddr 1 (.tmp 6),some (49, true)⟩, ⟨some 51,.load false false 1 (.tmp 50),some (49, true)⟩, ⟨some 52,.fieldAddr 1 (.tmp 3),some (49, true)⟩, ⟨some 53,.fieldAddr 1 (.tmp 52),some (49, true)⟩]
def q70_9_1 : List MOper := [⟨some 54,.load false false 1 (.tmp 53),some (49, true)⟩, ⟨some 55,.bin .neq (.tmp 51) (.tmp 54),some (49, true)⟩, ⟨some 56,.pick (.tmp 49) (.tmp 55) (.lit (.bool false)),none⟩, ⟨some 47,.mov false (.tmp 56),none⟩]
def r70_9 : MCode := .region 9 (q70_9_0 ++ q70_9_1) false [2, 3, 4, 6, 9, 11, 47]
theorem x70_9 : exec run esc l base r70_9 e σ = (stepOps run esc base q70_9_0 e σ).bind fun x => (stepOps run esc base q70_9_1 x.1 x.2).bind (Zk [2, 3, 4, 6, 9, 11, 47] base) := reg2
def q70_10_0 : List MOper := [⟨some 57,.mov false (.tmp 11),none⟩, ⟨some 58,.bin .eql (.tmp 57) (.lit (.int .i64 8)),none⟩, ⟨some 47,.mov false (.tmp 58),none⟩]
def r70_10 : MCode := .region 10 q70_10_0 false [2, 3, 4, 6, 9, 11, 47]
theorem x70_10 : exec run esc l base r70_10 e σ = (stepOps run esc base q70_10_0 e σ).bind (Zk [2, 3, 4, 6, 9, 11, 47] base) := rfl
def q70_11_0 : List MOper := [⟨some 59,.load false true 5 (.tmp 2),none⟩, ⟨none,.store 5 (.tmp 4) (.tmp 59),none⟩, ⟨some 5,.mov false (.lit (.int .i64 70)),none⟩]
def r70_11 : MCode := .region 11 q70_11_0 false [4, 5]
theorem x70_11 : exec run esc l base r70_11 e σ = (stepOps run esc base q70_11_0 e σ).bind (Zk [4, 5] base) := rfl
def q70_12_0 : List MOper := [⟨some 60,.mov true (.tmp 9),none⟩, ⟨some 61,.fieldAddr 4 (.tmp 2),none⟩, ⟨none,.store 1 (.tmp 61) (.tmp 60),none⟩]
def r70_12 : MCode := .region 12 q70_12_0 false [2, 3, 4, 6, 11]
theorem x70_12 : exec run esc l base r70_12 e σ = (stepOps run esc base q70_12_0 e σ).bind (Zk [2, 3, 4, 6, 11] base) := rfl
def q70_13_0 : List MOper := [⟨some 62,.fieldAddr 1 (.tmp 3),none⟩, ⟨some 63,.fieldAddr 3 (.tmp 62),none⟩, ⟨some 64,.load false false 1 (.tmp 63),none⟩, ⟨some 65,.un .not (.tmp 64),none⟩]
def r70_13 : MCode := .region 13 q70_13_0 false [2, 3, 4, 6, 11, 65]
theorem x70_13 : exec run esc l base r70_13 e σ = (stepOps run esc base q70_13_0 e σ).bind (Zk [2, 3, 4, 6, 11, 65] base) := rfl
def q70_14_0 : List MOper := [⟨some 66,.load false true 5 (.tmp 2),none⟩, ⟨some 67,.fieldAddr 1 (.tmp 3),none⟩, ⟨some 68,.load false true 5 (.tmp 67),none⟩, ⟨some 69,.call (.lit (.fn 82 [])) [(.tmp 66), (.tmp 68)],none⟩, ⟨none,.store 5 (.tmp 4) (.tmp 69),none⟩, ⟨some 5,.mov false (.lit (.int .i64 0)),none⟩]
def r70_14 : MCode := .region 14 q70_14_0 false [4, 5]
theorem x70_14 : exec run esc l base r70_14 e σ = (stepOps run esc base q70_14_0 e σ).bind (Zk [4, 5] base) := rfl
def q70_15_0 : List MOper := [⟨some 70,.fieldAddr 1 (.tmp 3),none⟩, ⟨some 71,.fieldAddr 1 (.tmp 70),none⟩, ⟨some 72,.load false false 1 (.tmp 71),none⟩, ⟨some 73,.fieldAddr 2 (.tmp 6),none⟩, ⟨some 74,.load false false 1 (.tmp 73),none⟩, ⟨some 75,.mov false (.tmp 11),none⟩]
def q70_15_1 : List MOper := [⟨some 76,.mov false (.tmp 11),none⟩, ⟨some 77,.slice 5 (.tmp 74) none (some (.tmp 75)) (some (.tmp 76)),none⟩, ⟨some 78,.fieldAddr 1 (.tmp 3),none⟩, ⟨some 79,.load false true 5 (.tmp 78),none⟩, ⟨some 80,.buildSlice 5 [(.tmp 79)],none⟩, ⟨some 81,.append false 5 56 (.tmp 77) (.tmp 80),none⟩]
def q70_15_2 : List MOper := [⟨some 82,.fieldAddr 1 (.tmp 6),none⟩, ⟨none,.store 1 (.tmp 82) (.tmp 72),none⟩, ⟨some 83,.fieldAddr 2 (.tmp 6),none⟩, ⟨none,.store 1 (.tmp 83) (.tmp 81),none⟩]
def r70_15 : MCode := .region 15 (q70_15_0 ++ (q70_15_1 ++ q70_15_2)) true [2, 4, 6]
theorem x70_15 : exec run esc l base r70_15 e σ = (stepOps run esc base q70_15_0 e σ).bind fun x => (stepOps run esc base q70_15_1 x.1 x.2).bind fun x => (stepOps run esc base q70_15_2 x.1 x.2).bind (Zk [2, 4, 6] base) := by simp only [r70_15, regN, regA, Option.bind_assoc]
def q70_16_0 : List MOper := [⟨some 84,.load false true 5 (.tmp 2),none⟩, ⟨some 85,.load false true 3 (.tmp 6),none⟩, ⟨some 86,.call (.lit (.fn 83 [])) [(.tmp 84), (.tmp 85)],none⟩, ⟨none,.store 5 (.tmp 4) (.tmp 86),none⟩, ⟨some 5,.mov false (.lit (.int .i64 0)),none⟩]
def r70_16 : MCode := .region 16 q70_16_0 false [4, 5]
theorem x70_16 : exec run esc l base r70_16 e σ = (stepOps run esc base q70_16_0 e σ).bind (Zk [4, 5] base) := rfl
def m70 : MFunc := ⟨(.seq r70_0 (.seq r70_1 (.seq r70_2 (.seq (.seq r70_3 (.cond (.tmp 24) r70_4 .skip)) (.seq r70_5 (.seq r70_6 (.seq (.block 0 (.seq (.block 2 (.block 1 (.seq (.seq (.seq (.seq r70_7 (.cond (.tmp 37) .skip r70_8)) (.cond (.tmp 37) (.exit 1) .skip)) (.seq (.seq r70_9 (.cond (.tmp 47) .skip r70_10)) (.cond (.tmp 47) (.exit 2) .skip))) (.exit 0)))) (.seq (.seq r70_11 .ret) (.exit 0)))) (.seq r70_12 (.seq (.seq r70_13 (.cond (.tmp 65) (.seq r70_14 .ret) .skip)) (.seq r70_15 (.seq r70_16 .ret))))))))))), [.cell 4 true 5, .tmp 5], false, false⟩
def q71_0_0 : List MOper := [⟨some 2,.box 5 (.tmp 0),none⟩, ⟨some 3,.box 18 (.tmp 1),none⟩, ⟨some 4,.alloc [(.int .i64 0), (.int .i64 0), (.slice true []), (.slice true []), (.slice true [])],none⟩, ⟨some 5,.mov false (.lit (.int .i64 0)),none⟩]
def r71_0 : MCode := .region 0 q71_0_0 false [2, 3, 4]
theorem x71_0 : exec run esc l base r71_0 e σ = (stepOps run esc base q71_0_0 e σ).bind (Zk [2, 3, 4] base) := rfl
def q71_1_0 : List MOper := [⟨some 11,.load false true 5 (.tmp 2),none⟩, ⟨some 12,.fieldAddr 1 (.tmp 3),none⟩, ⟨some 13,.fieldAddr 0 (.tmp 12),none⟩, ⟨some 14,.load false false 1 (.tmp 13),none⟩, ⟨some 15,.call (.lit (.fn 65 [])) [(.tmp 11), (.tmp 14)],none⟩, ⟨some 10,.mov false (.tmp 15),none⟩]
def q71_1_1 : List MOper := [⟨some 16,.extract 0 (.tmp 10),none⟩, ⟨some 17,.extract 1 (.tmp 10),none⟩, ⟨some 6,.alloc [(.int .i64 0), (.int .i64 0), (.slice true [])],none⟩, ⟨none,.store 3 (.tmp 6) (.tmp 16),none⟩, ⟨some 7,.mov false (.tmp 17),none⟩]
def r71_1 : MCode := .region 1 (q71_1_0 ++ q71_1_1) false [2, 3, 4, 6, 7]
theorem x71_1 : exec run esc l base r71_1 e σ = (stepOps run esc base q71_1_0 e σ).bind fun x => (stepOps run esc base q71_1_1 x.1 x.2).bind (Zk [2, 3, 4, 6, 7] base) := reg2
def q71_2_0 : List MOper := [⟨some 18,.mov false (.tmp 7),none⟩, ⟨some 19,.un .not (.tmp 18),none⟩, ⟨some 20,.mov false (.tmp 19),none⟩, ⟨some 21,.fieldAddr 1 (.tmp 6),some (20, false)⟩, ⟨some 22,.load false false 1 (.tmp 21),some (20, false)⟩, ⟨some 23,.fieldAddr 1 (.tmp 3),some (20, false)⟩]
def q71_2_1 : List MOper := [⟨some 24,.fieldAddr 1 (.tmp 23),some (20, false)⟩, ⟨some 25,.load false false 1 (.tmp 24),some (20, false)⟩, ⟨some 26,.bin .neq (.tmp 22) (.tmp 25),some (20, false)⟩, ⟨some 27,.pick (.tmp 20) (.lit (.bool true)) (.tmp 26),none⟩]
def r71_2 : MCode := .region 2 (q71_2_0 ++ q71_2_1) false [2, 3, 4, 6, 27]
theorem x71_2 : exec run esc l base r71_2 e σ = (stepOps run esc base q71_2_0 e σ).bind fun x => (stepOps run esc base q71_2_1 x.1 x.2).bind (Zk [2, 3, 4, 6, 27] base) := reg2
def q71_3_0 : List MOper := [⟨some 28,.load false true 5 (.tmp 2),none⟩, ⟨none,.store 5 (.tmp 4) (.tmp 28),none⟩, ⟨some 5,.mov false (.lit (.int .i64 70)),none⟩]
def r71_3 : MCode := .region 3 q71_3_0 false [4, 5]
theorem x71_3 : exec run esc l base r71_3 e σ = (stepOps run esc base q71_3_0 e σ).bind (Zk [4, 5] base) := rfl
def q71_4_0 : List MOper := [⟨some 29,.load false true 5 (.tmp 2),none⟩, ⟨some 30,.fieldAddr 1 (.tmp 3),none⟩, ⟨some 31,.fieldAddr 0 (.tmp 30),none⟩, ⟨some 32,.load false false 1 (.tmp 31),none⟩, ⟨some 33,.call (.lit (.fn 84 [])) [(.tmp 29), (.tmp 32)],none⟩, ⟨none,.store 5 (.tmp 2) (.tmp 33),none⟩]
def r71_4 : MCode := .region 4 q71_4_0 false [2, 3, 4, 6]
theorem x71_4 : exec run esc l base r71_4 e σ = (stepOps run esc base q71_4_0 e σ).bind (Zk [2, 3, 4, 6] base) := rfl
def q71_5_0 : List MOper := [⟨some 34,.fieldAddr 6 (.tmp 3),none⟩, ⟨some 35,.load false false 1 (.tmp 34),none⟩]
def r71_5 : MCode := .region 5 q71_5_0 false [2, 3, 4, 6, 35]
theorem x71_5 : exec run esc l base r71_5 e σ = (stepOps run esc base q71_5_0 e σ).bind (Zk [2, 3, 4, 6, 35] base) := rfl
def q71_6_0 : List MOper := [⟨some 36,.fieldAddr 2 (.tmp 6),none⟩, ⟨some 37,.load false false 1 (.tmp 36),none⟩, ⟨some 38,.len false (.tmp 37),none⟩, ⟨some 39,.mov false (.lit (.int .i64 0)),none⟩]
def r71_6 : MCode := .region 6 q71_6_0 false [2, 3, 4, 37, 38, 39]
theorem x71_6 : exec run esc l base r71_6 e σ = (stepOps run esc base q71_6_0 e σ).bind (Zk [2, 3, 4, 37, 38, 39] base) := rfl
def q71_7_0 : List MOper := [⟨some 40,.bin .lss (.tmp 39) (.tmp 38),none⟩]
def r71_7 : MCode := .region 7 q71_7_0 false [2, 3, 4, 37, 38, 39, 40]
theorem x71_7 : exec run esc l base r71_7 e σ = (stepOps run esc base q71_7_0 e σ).bind (Zk [2, 3, 4, 37, 38, 39, 40] base) := rfl
def q71_8_0 : List MOper := [⟨some 41,.index 5 (.tmp 37) (.tmp 39),none⟩, ⟨some 42,.load false true 5 (.tmp 41),none⟩, ⟨some 9,.alloc [(.int .i64 0), (.int .i64 0), (.int .i64 0), (.bool false), (.slice true [])],none⟩, ⟨none,.store 5 (.tmp 9) (.tmp 42),none⟩]
def r71_8 : MCode := .region 8 q71_8_0 false [2, 3, 4, 9, 37, 38, 39]
theorem x71_8 : exec run esc l base r71_8 e σ = (stepOps run esc base q71_8_0 e σ).bind (Zk [2, 3, 4, 9, 37, 38, 39] base) := rfl
def q71_9_0 : List MOper := [⟨some 43,.load false true 5 (.tmp 2),none⟩, ⟨some 44,.load false true 5 (.tmp 9),none⟩, ⟨some 45,.call (.lit (.fn 82 [])) [(.tmp 43), (.tmp 44)],none⟩, ⟨none,.store 5 (.tmp 2) (.tmp 45),none⟩]
def r71_9 : MCode := .region 9 q71_9_0 false [2, 3, 4, 37, 38, 39]
theorem x71_9 : exec run esc l base r71_9 e σ = (stepOps run esc base q71_9_0 e σ).bind (Zk [2, 3, 4, 37, 38, 39] base) := rfl
def q71_10_0 : List MOper := [⟨some 46,.bin .add (.tmp 39) (.lit (.int .i64 1)),none⟩, ⟨some 39,.mov false (.tmp 46),none⟩]
def r71_10 : MCode := .region 10 q71_10_0 false [2, 3, 4, 37, 38, 39]
theorem x71_10 : exec run esc l base r71_10 e σ = (stepOps run esc base q71_10_0 e σ).bind (Zk [2, 3, 4, 37, 38, 39] base) := rfl
def l71_0 : MCode := (.seq r71_7 (.seq (.cond (.tmp 40) .skip (.exit 0)) (.seq (.block 1 (.seq r71_8 r71_9)) r71_10)))
def q71_11_0 : List MOper := [⟨some 47,.fieldAddr 1 (.tmp 2),none⟩, ⟨some 48,.load false false 1 (.tmp 47),none⟩, ⟨some 49,.bin .add (.tmp 48) (.lit (.int .i64 1)),none⟩, ⟨some 50,.fieldAddr 1 (.tmp 2),none⟩, ⟨none,.store 1 (.tmp 50) (.tmp 49),none⟩]
def r71_11 : MCode := .region 11 q71_11_0 false [2, 3, 4]
theorem x71_11 : exec run esc l base r71_11 e σ = (stepOps run esc base q71_11_0 e σ).bind (Zk [2, 3, 4] base) := rfl
def q71_12_0 : List MOper := [⟨some 51,.fieldAddr 4 (.tmp 2),none⟩, ⟨some 52,.load false false 1 (.tmp 51),none⟩, ⟨some 53,.fieldAddr 1 (.tmp 3),none⟩, ⟨some 54,.fieldAddr 0 (.tmp 53),none⟩, ⟨some 55,.load false false 1 (.tmp 54),none⟩, ⟨some 56,.call (.lit (.fn 16 [])) [(.tmp 52), (.tmp 55)],none⟩]
def q71_12_1 : List MOper := [⟨some 57,.fieldAddr 4 (.tmp 2),none⟩, ⟨none,.store 1 (.tmp 57) (.tmp 56),none⟩]
def r71_12 : MCode := .region 12 (q71_12_0 ++ q71_12_1) false [2, 4]
theorem x71_12 : exec run esc l base r71_12 e σ = (stepOps run esc base q71_12_0 e σ).bind fun x => (stepOps run esc base q71_12_1 x.1 x.2).bind (Zk [2, 4] base) := reg2
def q71_13_0 : List MOper := [⟨some 58,.load false true 5 (.tmp 2),none⟩, ⟨none,.store 5 (.tmp 4) (.tmp 58),none⟩, ⟨some 5,.mov false (.lit (.int .i64 0)),none⟩]
def r71_13 : MCode := .region 13 q71_13_0 false [4, 5]
theorem x71_13 : exec run esc l base r71_13 e σ = (stepOps run esc base q71_13_0 e σ).bind (Zk [4, 5] base) := rfl
def m71 : MFunc := ⟨(.seq r71_0 (.seq r71_1 (.seq (.seq r71_2 (.cond (.tmp 27) (.seq r71_3 .ret) .skip)) (.seq r71_4 (.seq (.seq r71_5 (.cond (.tmp 35) (.seq r71_6 (.block 0 (.loop l71_0))) .skip)) (.seq r71_11 (.seq r71_12 (.seq r71_13 .ret)))))))), [.cell 4 true 5, .tmp 5], false, false⟩
def q72_0_0 : List MOper := [⟨some 2,.box 5 (.tmp 0),none⟩, ⟨some 3,.box 18 (.tmp 1),none⟩, ⟨some 4,.alloc [(.int .i64 0), (.int .i64 0), (.slice true []), (.slice true []), (.slice true [])],none⟩, ⟨some 5,.mov false (.lit (.int .i64 0)),none⟩]
def r72_0 : MCode := .region 0 q72_0_0 false [2, 3, 4]
theorem x72_0 : exec run esc l base r72_0 e σ = (stepOps run esc base q72_0_0 e σ).bind (Zk [2, 3, 4] base) := rfl
def q72_1_0 : List MOper := [⟨some 6,.fieldAddr 8 (.tmp 3),none⟩, ⟨some 7,.load false false 1 (.tmp 6),none⟩, ⟨some 8,.fieldAddr 0 (.tmp 2),none⟩, ⟨some 9,.load false false 1 (.tmp 8),none⟩, ⟨some 10,.bin .lss (.tmp 7) (.tmp 9),none⟩, ⟨some 11,.mov false (.tmp 10),none⟩]
def q72_1_1 : List MOper := [⟨some 12,.fieldAddr 8 (.tmp 3),some (11, false)⟩, ⟨some 13,.load false false 1 (.tmp 12),some (11, false)⟩, ⟨some 14,.fieldAddr 1 (.tmp 2),some (11, false)⟩, ⟨some 15,.load false false 1 (.tmp 14),some (11, false)⟩, ⟨some 16,.bin .gtr (.tmp 13) (.tmp 15),some (11, false)⟩, ⟨some 17,.pick (.tmp 11) (.lit (.bool true)) (.tmp 16),none⟩]
def r72_1 : MCode := .region 1 (q72_1_0 ++ q72_1_1) false [2, 3, 4, 17]
theorem x72_1 : exec run esc l base r72_1 e σ = (stepOps run esc base q72_1_0 e σ).bind fun x => (stepOps run esc base q72_1_1 x.1 x.2).bind (Zk [2, 3, 4, 17] base) := reg2
def q72_2_0 : List MOper := [⟨some 18,.load false true 5 (.tmp 2),none⟩, ⟨none,.store 5 (.tmp 4) (.tmp 18),none⟩, ⟨some 5,.mov false (.lit (.int .i64 70)),none⟩]
def r72_2 : MCode := .region 2 q72_2_0 false [4, 5]
theorem x72_2 : exec run esc l base r72_2 e σ = (stepOps run esc base q72_2_0 e σ).bind (Zk [4, 5] base) := rfl
def q72_3_0 : List MOper := [⟨some 19,.fieldAddr 8 (.tmp 3),none⟩, ⟨some 20,.load false false 1 (.tmp 19),none⟩, ⟨some 21,.fieldAddr 0 (.tmp 2),none⟩, ⟨none,.store 1 (.tmp 21) (.tmp 20),none⟩]
def r72_3 : MCode := .region 3 q72_3_0 false [2, 4]
theorem x72_3 : exec run esc l base r72_3 e σ = (stepOps run esc base q72_3_0 e σ).bind (Zk [2, 4] base) := rfl
def q72_4_0 : List MOper := [⟨some 22,.fieldAddr 2 (.tmp 2),none⟩, ⟨some 23,.load false false 1 (.tmp 22),none⟩, ⟨some 24,.mkfn 85 [(.tmp 2)],none⟩, ⟨some 25,.call (.lit (.fn 62 [])) [(.tmp 23), (.tmp 24)],none⟩, ⟨some 26,.fieldAddr 2 (.tmp 2),none⟩, ⟨none,.store 1 (.tmp 26) (.tmp 25),none⟩]
def r72_4 : MCode := .region 4 q72_4_0 false [2, 4]
theorem x72_4 : exec run esc l base r72_4 e σ = (stepOps run esc base q72_4_0 e σ).bind (Zk [2, 4] base) := rfl
def q72_5_0 : List MOper := [⟨some 27,.load false true 5 (.tmp 2),none⟩, ⟨none,.store 5 (.tmp 4) (.tmp 27),none⟩, ⟨some 5,.mov false (.lit (.int .i64 0)),none⟩]
def r72_5 : MCode := .region 5 q72_5_0 false [4, 5]
theorem x72_5 : exec run esc l base r72_5 e σ = (stepOps run esc base q72_5_0 e σ).bind (Zk [4, 5] base) := rfl
def m72 : MFunc := ⟨(.seq r72_0 (.seq (.seq r72_1 (.cond (.tmp 17) (.seq r72_2 .ret) .skip)) (.seq r72_3 (.seq r72_4 (.seq r72_5 .ret))))), [.cell 4 true 5, .tmp 5], false, false⟩
def q73_0_0 : List MOper := [⟨some 2,.box 5 (.tmp 0),none⟩, ⟨some 3,.box 18 (.tmp 1),none⟩, ⟨some 4,.alloc [(.int .i64 0), (.int .i64 0), (.slice true []), (.slice true []), (.slice true [])],none⟩, ⟨some 5,.mov false (.lit (.int .i64 0)),none⟩]
def r73_0 : MCode := .region 0 q73_0_0 false [2, 4]
theorem x73_0 : exec run esc l base r73_0 e σ = (stepOps run esc base q73_0_0 e σ).bind (Zk [2, 4] base) := rfl
def q73_1_0 : List MOper := [⟨some 6,.load false true 5 (.tmp 2),none⟩, ⟨none,.store 5 (.tmp 4) (.tmp 6),none⟩, ⟨some 5,.mov false (.lit (.int .i64 70)),none⟩]
def r73_1 : MCode := .region 1 q73_1_0 false [4, 5]
theorem x73_1 : exec run esc l base r73_1 e σ = (stepOps run esc base q73_1_0 e σ).bind (Zk [4, 5] base) := rfl
def m73 : MFunc := ⟨(.seq r73_0 (.seq r73_1 .ret)), [.cell 4 true 5, .tmp 5], false, false⟩
def q74_0_0 : List MOper := [⟨some 2,.box 5 (.tmp 0),none⟩, ⟨some 3,.box 18 (.tmp 1),none⟩, ⟨some 4,.alloc [(.int .i64 0), (.int .i64 0), (.slice true []), (.slice true []), (.slice true [])],none⟩, ⟨some 5,.mov false (.lit (.int .i64 0)),none⟩]
def r74_0 : MCode := .region 0 q74_0_0 false [2, 3, 4]
theorem x74_0 : exec run esc l base r74_0 e σ = (stepOps run esc base q74_0_0 e σ).bind (Zk [2, 3, 4] base) := rfl
def q74_1_0 : List MOper := [⟨some 7,.fieldAddr 1 (.tmp 2),none⟩, ⟨some 8,.load false false 1 (.tmp 7),none⟩, ⟨some 9,.fieldAddr 9 (.tmp 3),none⟩, ⟨some 10,.fieldAddr 0 (.tmp 9),none⟩, ⟨none,.store 1 (.tmp 10) (.tmp 8),none⟩]
def r74_1 : MCode := .region 1 q74_1_0 false [2, 3, 4]
theorem x74_1 : exec run esc l base r74_1 e σ = (stepOps run esc base q74_1_0 e σ).bind (Zk [2, 3, 4] base) := rfl
def q74_2_0 : List MOper := [⟨some 11,.fieldAddr 2 (.tmp 2),none⟩, ⟨some 12,.load false false 1 (.tmp 11),none⟩, ⟨some 13,.len false (.tmp 12),none⟩, ⟨some 6,.mov false (.tmp 13),none⟩]
def r74_2 : MCode := .region 2 q74_2_0 false [2, 3, 4, 6]
theorem x74_2 : exec run esc l base r74_2 e σ = (stepOps run esc base q74_2_0 e σ).bind (Zk [2, 3, 4, 6] base) := rfl
def q74_3_0 : List MOper := [⟨some 14,.fieldAddr 2 (.tmp 2),none⟩, ⟨some 15,.load false false 1 (.tmp 14),none⟩, ⟨some 16,.mov false (.tmp 6),none⟩, ⟨some 17,.mov false (.tmp 6),none⟩, ⟨some 18,.slice 5 (.tmp 15) none (some (.tmp 16)) (some (.tmp 17)),none⟩, ⟨some 19,.fieldAddr 9 (.tmp 3),none⟩]
def q74_3_1 : List MOper := [⟨some 20,.load false true 5 (.tmp 19),none⟩, ⟨some 21,.buildSlice 5 [(.tmp 20)],none⟩, ⟨some 22,.append false 5 56 (.tmp 18) (.tmp 21),none⟩, ⟨some 23,.fieldAddr 2 (.tmp 2),none⟩, ⟨none,.store 1 (.tmp 23) (.tmp 22),none⟩]
def r74_3 : MCode := .region 3 (q74_3_0 ++ q74_3_1) true [2, 4]
theorem x74_3 : exec run esc l base r74_3 e σ = (stepOps run esc base q74_3_0 e σ).bind fun x => (stepOps run esc base q74_3_1 x.1 x.2).bind (Zk [2, 4] base) := reg2
def q74_4_0 : List MOper := [⟨some 24,.fieldAddr 1 (.tmp 2),none⟩, ⟨some 25,.load false false 1 (.tmp 24),none⟩, ⟨some 26,.bin .add (.tmp 25) (.lit (.int .i64 1)),none⟩, ⟨some 27,.fieldAddr 1 (.tmp 2),none⟩, ⟨none,.store 1 (.tmp 27) (.tmp 26),none⟩]
def r74_4 : MCode := .region 4 q74_4_0 false [2, 4]
theorem x74_4 : exec run esc l base r74_4 e σ = (stepOps run esc base q74_4_0 e σ).bind (Zk [2, 4] base) := rfl
def q74_5_0 : List MOper := [⟨some 28,.load false true 5 (.tmp 2),none⟩, ⟨none,.store 5 (.tmp 4) (.tmp 28),none⟩, ⟨some 5,.mov false (.lit (.int .i64 0)),none⟩]
def r74_5 : MCode := .region 5 q74_5_0 false [4, 5]
theorem x74_5 : exec run esc l base r74_5 e σ = (stepOps run esc base q74_5_0 e σ).bind (Zk [4, 5] base) := rfl
def m74 : MFunc := ⟨(.seq r74_0 (.seq r74_1 (.seq r74_2 (.seq r74_3 (.seq r74_4 (.seq r74_5 .ret)))))), [.cell 4 true 5, .tmp 5], false, false⟩
def q75_0_0 : List MOper := [⟨some 2,.box 5 (.tmp 0),none⟩, ⟨some 3,.box 18 (.tmp 1),none⟩, ⟨some 4,.alloc [(.int .i64 0), (.int .i64 0), (.slice true []), (.slice true []), (.slice true [])],none⟩, ⟨some 5,.mov false (.lit (.int .i64 0)),none⟩]
def r75_0 : MCode := .region 0 q75_0_0 false [2, 3, 4]
theorem x75_0 : exec run esc l base r75_0 e σ = (stepOps run esc base q75_0_0 e σ).bind (Zk [2, 3, 4] base) := rfl
def q75_1_0 : List MOper := [⟨some 9,.load false true 5 (.tmp 2),none⟩, ⟨some 10,.fieldAddr 14 (.tmp 3),none⟩, ⟨some 11,.fieldAddr 0 (.tmp 10),none⟩, ⟨some 12,.load false false 1 (.tmp 11),none⟩, ⟨some 13,.call (.lit (.fn 65 [])) [(.tmp 9), (.tmp 12)],none⟩, ⟨some 8,.mov false (.tmp 13),none⟩]
def q75_1_1 : List MOper := [⟨some 14,.extract 0 (.tmp 8),none⟩, ⟨some 15,.extract 1 (.tmp 8),none⟩, ⟨some 6,.alloc [(.int .i64 0), (.int .i64 0), (.slice true [])],none⟩, ⟨none,.store 3 (.tmp 6) (.tmp 14),none⟩, ⟨some 7,.mov false (.tmp 15),none⟩]
def r75_1 : MCode := .region 1 (q75_1_0 ++ q75_1_1) false [2, 3, 4, 7]
theorem x75_1 : exec run esc l base r75_1 e σ = (stepOps run esc base q75_1_0 e σ).bind fun x => (stepOps run esc base q75_1_1 x.1 x.2).bind (Zk [2, 3, 4, 7] base) := reg2
def q75_2_0 : List MOper := [⟨some 16,.mov false (.tmp 7),none⟩]
def r75_2 : MCode := .region 2 q75_2_0 false [2, 3, 4, 16]
theorem x75_2 : exec run esc l base r75_2 e σ = (stepOps run esc base q75_2_0 e σ).bind (Zk [2, 3, 4, 16] base) := rfl
def q75_3_0 : List MOper := [⟨some 17,.load false true 5 (.tmp 2),none⟩, ⟨none,.store 5 (.tmp 4) (.tmp 17),none⟩, ⟨some 5,.mov false (.lit (.int .i64 70)),none⟩]
def r75_3 : MCode := .region 3 q75_3_0 false [4, 5]
theorem x75_3 : exec run esc l base r75_3 e σ = (stepOps run esc base q75_3_0 e σ).bind (Zk [4, 5] base) := rfl
def q75_4_0 : List MOper := [⟨some 18,.fieldAddr 4 (.tmp 2),none⟩, ⟨some 19,.load false false 1 (.tmp 18),none⟩, ⟨some 20,.fieldAddr 14 (.tmp 3),none⟩, ⟨some 21,.load false true 4 (.tmp 20),none⟩, ⟨some 22,.call (.lit (.fn 33 [])) [(.tmp 19), (.tmp 21)],none⟩, ⟨some 23,.fieldAddr 4 (.tmp 2),none⟩]
def q75_4_1 : List MOper := [⟨none,.store 1 (.tmp 23) (.tmp 22),none⟩]
def r75_4 : MCode := .region 4 (q75_4_0 ++ q75_4_1) false [2, 4]
theorem x75_4 : exec run esc l base r75_4 e σ = (stepOps run esc base q75_4_0 e σ).bind fun x => (stepOps run esc base q75_4_1 x.1 x.2).bind (Zk [2, 4] base) := reg2
def q75_5_0 : List MOper := [⟨some 24,.load false true 5 (.tmp 2),none⟩, ⟨none,.store 5 (.tmp 4) (.tmp 24),none⟩, ⟨some 5,.mov false (.lit (.int .i64 0)),none⟩]
def r75_5 : MCode := .region 5 q75_5_0 false [4, 5]
theorem x75_5 : exec run esc l base r75_5 e σ = (stepOps run esc base q75_5_0 e σ).bind (Zk [4, 5] base) := rfl
def m75 : MFunc := ⟨(.seq r75_0 (.seq (.seq r75_1 (.seq r75_2 (.cond (.tmp 16) (.seq r75_3 .ret) .skip))) (.seq r75_4 (.seq r75_5 .ret)))), [.cell 4 true 5, .tmp 5], false, false⟩
def q76_0_0 : List MOper := [⟨some 2,.box 18 (.tmp 0),none⟩, ⟨some 3,.box 18 (.tmp 1),none⟩, ⟨some 4,.mov false (.lit (.bool false)),none⟩]
def r76_0 : MCode := .region 0 q76_0_0 false [2, 3]
theorem x76_0 : exec run esc l base r76_0 e σ = (stepOps run esc base q76_0_0 e σ).bind (Zk [2, 3] base) := rfl
def q76_1_0 : List MOper := [⟨some 5,.fieldAddr 0 (.tmp 2),none⟩, ⟨some 6,.load false false 1 (.tmp 5),none⟩, ⟨some 7,.fieldAddr 0 (.tmp 3),none⟩, ⟨some 8,.load false false 1 (.tmp 7),none⟩, ⟨some 9,.bin .eql (.tmp 6) (.tmp 8),none⟩, ⟨some 10,.mov false (.tmp 9),none⟩]
def q76_1_1 : List MOper := [⟨some 11,.fieldAddr 6 (.tmp 2),some (10, true)⟩, ⟨some 12,.load false false 1 (.tmp 11),some (10, true)⟩, ⟨some 13,.fieldAddr 6 (.tmp 3),some (10, true)⟩, ⟨some 14,.load false false 1 (.tmp 13),some (10, true)⟩, ⟨some 15,.eqb false (.tmp 12) (.tmp 14),some (10, true)⟩, ⟨some 16,.pick (.tmp 10) (.tmp 15) (.lit (.bool false)),none⟩]
def q76_1_2 : List MOper := [⟨some 17,.mov false (.tmp 16),none⟩, ⟨some 18,.fieldAddr 7 (.tmp 2),some (17, true)⟩, ⟨some 19,.load false false 1 (.tmp 18),some (17, true)⟩, ⟨some 20,.fieldAddr 7 (.tmp 3),some (17, true)⟩, ⟨some 21,.load false false 1 (.tmp 20),some (17, true)⟩, ⟨some 22,.bin .eql (.tmp 19) (.tmp 21),some (17, true)⟩]
def q76_1_3 : List MOper := [⟨some 23,.pick (.tmp 17) (.tmp 22) (.lit (.bool false)),none⟩, ⟨some 24,.mov false (.tmp 23),none⟩, ⟨some 25,.fieldAddr 8 (.tmp 2),some (24, true)⟩, ⟨some 26,.load false false 1 (.tmp 25),some (24, true)⟩, ⟨some 27,.fieldAddr 8 (.tmp 3),some (24, true)⟩, ⟨some 28,.load false false 1 (.tmp 27),some (24, true)⟩]
def q76_1_4 : List MOper := [⟨some 29,.bin .eql (.tmp 26) (.tmp 28),some (24, true)⟩, ⟨some 30,.pick (.tmp 24) (.tmp 29) (.lit (.bool false)),none⟩, ⟨some 31,.mov false (.tmp 30),none⟩, ⟨some 32,.fieldAddr 9 (.tmp 2),some (31, true)⟩, ⟨some 33,.load false true 5 (.tmp 32),some (31, true)⟩, ⟨some 34,.fieldAddr 9 (.tmp 3),some (31, true)⟩]
def q76_1_5 : List MOper := [⟨some 35,.load false true 5 (.tmp 34),some (31, true)⟩, ⟨some 36,.eqs false [0, 0, 0, 2, 2] (.tmp 33) (.tmp 35),some (31, true)⟩, ⟨some 37,.pick (.tmp 31) (.tmp 36) (.lit (.bool false)),none⟩, ⟨some 38,.mov false (.tmp 37),none⟩, ⟨some 39,.fieldAddr 1 (.tmp 2),some (38, true)⟩, ⟨some 40,.load false true 5 (.tmp 39),some (38, true)⟩]
def q76_1_6 : List MOper := [⟨some 41,.fieldAddr 1 (.tmp 3),some (38, true)⟩, ⟨some 42,.load false true 5 (.tmp 41),some (38, true)⟩, ⟨some 43,.call (.lit (.fn 86 [])) [(.tmp 40), (.tmp 42)],some (38, true)⟩, ⟨some 44,.pick (.tmp 38) (.tmp 43) (.lit (.bool false)),none⟩, ⟨some 45,.mov false (.tmp 44),none⟩, ⟨some 46,.fieldAddr 14 (.tmp 2),some (45, true)⟩]
def q76_1_7 : List MOper := [⟨some 47,.load false true 4 (.tmp 46),some (45, true)⟩, ⟨some 48,.fieldAddr 14 (.tmp 3),some (45, true)⟩, ⟨some 49,.load false true 4 (.tmp 48),some (45, true)⟩, ⟨some 50,.call (.lit (.fn 45 [])) [(.tmp 47), (.tmp 49)],some (45, true)⟩, ⟨some 51,.pick (.tmp 45) (.tmp 50) (.lit (.bool false)),none⟩, ⟨some 4,.mov false (.tmp 51),none⟩]
def r76_1 : MCode := .region 1 (q76_1_0 ++ (q76_1_1 ++ (q76_1_2 ++ (q76_1_3 ++ (q76_1_4 ++ (q76_1_5 ++ (q76_1_6 ++ q76_1_7))))))) false [4]
theorem x76_1 : exec run esc l base r76_1 e σ = (stepOps run esc base q76_1_0 e σ).bind fun x => (stepOps run esc base q76_1_1 x.1 x.2).bind fun x => (stepOps run esc base q76_1_2 x.1 x.2).bind fun x => (stepOps run esc base q76_1_3 x.1 x.2).bind fun x => (stepOps run esc base q76_1_4 x.1 x.2).bind fun x => (stepOps run esc base q76_1_5 x.1 x.2).bind fun x => (stepOps run esc base q76_1_6 x.1 x.2).bind fun x => (stepOps run esc base q76_1_7 x.1 x.2).bind (Zk [4] base) := by simp only [r76_1, regN, regA, Option.bind_assoc]
def m76 : MFunc := ⟨(.seq r76_0 (.seq r76_1 .ret)), [.tmp 4], false, false⟩
def q77_0_0 : List MOper := [⟨some 2,.alloc [(.int .i8 0), (.int .i64 0), (.int .i64 0), (.int .i64 0), (.bool false), (.slice true []), (.bool false), (.int .i64 0), (.int .i64 0), (.int .i64 0), (.int .i64 0), (.int .i64 0), (.str []), (.str []), (.int .i64 0), (.int .i64 0), (.int .i64 0), (.slice true [])],none⟩]
def r77_0 : MCode := .region 0 q77_0_0 false [0, 2]
theorem x77_0 : exec run esc l base r77_0 e σ = (stepOps run esc base q77_0_0 e σ).bind (Zk [0, 2] base) := rfl
def q77_1_0 : List MOper := [⟨some 3,.mov false (.tmp 0),none⟩, ⟨some 4,.nilCheck (.tmp 3),none⟩, ⟨some 5,.fieldAddr 0 (.tmp 4),none⟩, ⟨some 6,.load false false 1 (.tmp 5),none⟩, ⟨some 7,.fieldAddr 0 (.tmp 2),none⟩, ⟨none,.store 1 (.tmp 7) (.tmp 6),none⟩]
def r77_1 : MCode := .region 1 q77_1_0 false [0, 2]
theorem x77_1 : exec run esc l base r77_1 e σ = (stepOps run esc base q77_1_0 e σ).bind (Zk [0, 2] base) := rfl
def q77_2_0 : List MOper := [⟨some 8,.mov false (.tmp 0),none⟩, ⟨some 9,.nilCheck (.tmp 8),none⟩, ⟨some 10,.fieldAddr 0 (.tmp 9),none⟩, ⟨some 11,.load false false 1 (.tmp 10),none⟩]
def r77_2 : MCode := .region 2 q77_2_0 false [0, 2, 11]
theorem x77_2 : exec run esc l base r77_2 e σ = (stepOps run esc base q77_2_0 e σ).bind (Zk [0, 2, 11] base) := rfl
def q77_3_0 : List MOper := [⟨some 13,.bin .eql (.tmp 11) (.lit (.int .i8 3)),none⟩, ⟨some 12,.mov false (.tmp 13),none⟩]
def r77_3 : MCode := .region 3 q77_3_0 false [0, 2, 11, 12]
theorem x77_3 : exec run esc l base r77_3 e σ = (stepOps run esc base q77_3_0 e σ).bind (Zk [0, 2, 11, 12] base) := rfl
def q77_4_0 : List MOper := [⟨some 15,.bin .eql (.tmp 11) (.lit (.int .i8 0)),none⟩, ⟨some 14,.mov false (.tmp 15),none⟩]
def r77_4 : MCode := .region 4 q77_4_0 false [0, 2, 11, 14]
theorem x77_4 : exec run esc l base r77_4 e σ = (stepOps run esc base q77_4_0 e σ).bind (Zk [0, 2, 11, 14] base) := rfl
def q77_5_0 : List MOper := [⟨some 17,.bin .eql (.tmp 11) (.lit (.int .i8 1)),none⟩, ⟨some 16,.mov false (.tmp 17),none⟩]
def r77_5 : MCode := .region 5 q77_5_0 false [0, 2, 11, 16]
theorem x77_5 : exec run esc l base r77_5 e σ = (stepOps run esc base q77_5_0 e σ).bind (Zk [0, 2, 11, 16] base) := rfl
def q77_6_0 : List MOper := [⟨some 19,.bin .eql (.tmp 11) (.lit (.int .i8 4)),none⟩, ⟨some 18,.mov false (.tmp 19),none⟩]
def r77_6 : MCode := .region 6 q77_6_0 false [0, 2, 11, 18]
theorem x77_6 : exec run esc l base r77_6 e σ = (stepOps run esc base q77_6_0 e σ).bind (Zk [0, 2, 11, 18] base) := rfl
def q77_7_0 : List MOper := [⟨some 21,.bin .eql (.tmp 11) (.lit (.int .i8 2)),none⟩, ⟨some 20,.mov false (.tmp 21),none⟩]
def r77_7 : MCode := .region 7 q77_7_0 false [0, 2, 11, 20]
theorem x77_7 : exec run esc l base r77_7 e σ = (stepOps run esc base q77_7_0 e σ).bind (Zk [0, 2, 11, 20] base) := rfl
def q77_8_0 : List MOper := [⟨some 23,.bin .eql (.tmp 11) (.lit (.int .i8 5)),none⟩, ⟨some 22,.mov false (.tmp 23),none⟩]
def r77_8 : MCode := .region 8 q77_8_0 false [0, 2, 11, 22]
theorem x77_8 : exec run esc l base r77_8 e σ = (stepOps run esc base q77_8_0 e σ).bind (Zk [0, 2, 11, 22] base) := rfl
def q77_9_0 : List MOper := [⟨some 25,.bin .eql (.tmp 11) (.lit (.int .i8 6)),none⟩, ⟨some 24,.mov false (.tmp 25),none⟩]
def r77_9 : MCode := .region 9 q77_9_0 false [0, 2, 24]
theorem x77_9 : exec run esc l base r77_9 e σ = (stepOps run esc base q77_9_0 e σ).bind (Zk [0, 2, 24] base) := rfl
def q77_10_0 : List MOper := [⟨some 26,.mov false (.tmp 0),none⟩, ⟨some 27,.nilCheck (.tmp 26),none⟩, ⟨some 28,.fieldAddr 6 (.tmp 27),none⟩, ⟨some 29,.load false false 1 (.tmp 28),none⟩, ⟨some 30,.fieldAddr 6 (.tmp 2),none⟩, ⟨none,.store 1 (.tmp 30) (.tmp 29),none⟩]
def r77_10 : MCode := .region 10 q77_10_0 false [0, 2]
theorem x77_10 : exec run esc l base r77_10 e σ = (stepOps run esc base q77_10_0 e σ).bind (Zk [0, 2] base) := rfl
def q77_11_0 : List MOper := [⟨some 31,.mov false (.tmp 0),none⟩, ⟨some 32,.nilCheck (.tmp 31),none⟩, ⟨some 33,.fieldAddr 6 (.tmp 32),none⟩, ⟨some 34,.load false false 1 (.tmp 33),none⟩]
def r77_11 : MCode := .region 11 q77_11_0 false [0, 2, 34]
theorem x77_11 : exec run esc l base r77_11 e σ = (stepOps run esc base q77_11_0 e σ).bind (Zk [0, 2, 34] base) := rfl
def q77_12_0 : List MOper := [⟨some 35,.mov false (.tmp 0),none⟩, ⟨some 36,.nilCheck (.tmp 35),none⟩, ⟨some 37,.fieldAddr 7 (.tmp 36),none⟩, ⟨some 38,.load false false 1 (.tmp 37),none⟩, ⟨some 39,.fieldAddr 7 (.tmp 2),none⟩, ⟨none,.store 1 (.tmp 39) (.tmp 38),none⟩]
def r77_12 : MCode := .region 12 q77_12_0 false [0, 2]
theorem x77_12 : exec run esc l base r77_12 e σ = (stepOps run esc base q77_12_0 e σ).bind (Zk [0, 2] base) := rfl
def q77_13_0 : List MOper := [⟨some 40,.mov false (.tmp 0),none⟩, ⟨some 41,.nilCheck (.tmp 40),none⟩, ⟨some 42,.fieldAddr 1 (.tmp 41),none⟩, ⟨some 43,.load false true 5 (.tmp 42),none⟩, ⟨some 44,.fieldAddr 1 (.tmp 2),none⟩, ⟨none,.store 5 (.tmp 44) (.tmp 43),none⟩]
def r77_13 : MCode := .region 13 q77_13_0 false [2]
theorem x77_13 : exec run esc l base r77_13 e σ = (stepOps run esc base q77_13_0 e σ).bind (Zk [2] base) := rfl
def q77_14_0 : List MOper := [⟨some 45,.mov false (.tmp 0),none⟩, ⟨some 46,.nilCheck (.tmp 45),none⟩, ⟨some 47,.fieldAddr 1 (.tmp 46),none⟩, ⟨some 48,.fieldAddr 0 (.tmp 47),none⟩, ⟨some 49,.load false false 1 (.tmp 48),none⟩, ⟨some 50,.mov false (.tmp 0),none⟩]
def q77_14_1 : List MOper := [⟨some 51,.nilCheck (.tmp 50),none⟩, ⟨some 52,.fieldAddr 1 (.tmp 51),none⟩, ⟨some 53,.fieldAddr 1 (.tmp 52),none⟩, ⟨some 54,.load false false 1 (.tmp 53),none⟩, ⟨some 55,.mov false (.tmp 0),none⟩, ⟨some 56,.nilCheck (.tmp 55),none⟩]
def q77_14_2 : List MOper := [⟨some 57,.fieldAddr 6 (.tmp 56),none⟩, ⟨some 58,.load false false 1 (.tmp 57),none⟩, ⟨some 59,.fieldAddr 1 (.tmp 2),none⟩, ⟨some 60,.fieldAddr 0 (.tmp 59),none⟩, ⟨none,.storef 1 (.tmp 60) (.tmp 49) [53, 57],none⟩, ⟨some 61,.fieldAddr 1 (.tmp 2),none⟩]
def q77_14_3 : List MOper := [⟨some 62,.fieldAddr 1 (.tmp 61),none⟩, ⟨none,.storef 1 (.tmp 62) (.tmp 54) [57],none⟩, ⟨some 63,.fieldAddr 6 (.tmp 2),none⟩, ⟨none,.store 1 (.tmp 63) (.tmp 58),none⟩]
def r77_14 : MCode := .region 14 (q77_14_0 ++ (q77_14_1 ++ (q77_14_2 ++ q77_14_3))) true [2]
theorem x77_14 : exec run esc l base r77_14 e σ = (stepOps run esc base q77_14_0 e σ).bind fun x => (stepOps run esc base q77_14_1 x.1 x.2).bind fun x => (stepOps run esc base q77_14_2 x.1 x.2).bind fun x => (stepOps run esc base q77_14_3 x.1 x.2).bind (Zk [2] base) := by simp only [r77_14, regN, regA, Option.bind_assoc]
def q77_15_0 : List MOper := [⟨some 64,.mov false (.tmp 0),none⟩, ⟨some 65,.nilCheck (.tmp 64),none⟩, ⟨some 66,.fieldAddr 1 (.tmp 65),none⟩, ⟨some 67,.fieldAddr 0 (.tmp 66),none⟩, ⟨some 68,.load false false 1 (.tmp 67),none⟩, ⟨some 69,.mov false (.tmp 0),none⟩]
def q77_15_1 : List MOper := [⟨some 70,.nilCheck (.tmp 69),none⟩, ⟨some 71,.fieldAddr 1 (.tmp 70),none⟩, ⟨some 72,.fieldAddr 1 (.tmp 71),none⟩, ⟨some 73,.load false false 1 (.tmp 72),none⟩, ⟨some 74,.mov false (.tmp 0),none⟩, ⟨some 75,.nilCheck (.tmp 74),none⟩]
def q77_15_2 : List MOper := [⟨some 76,.fieldAddr 7 (.tmp 75),none⟩, ⟨some 77,.load false false 1 (.tmp 76),none⟩, ⟨some 78,.fieldAddr 1 (.tmp 2),none⟩, ⟨some 79,.fieldAddr 0 (.tmp 78),none⟩, ⟨none,.storef 1 (.tmp 79) (.tmp 68) [72, 76],none⟩, ⟨some 80,.fieldAddr 1 (.tmp 2),none⟩]
def q77_15_3 : List MOper := [⟨some 81,.fieldAddr 1 (.tmp 80),none⟩, ⟨none,.storef 1 (.tmp 81) (.tmp 73) [76],none⟩, ⟨some 82,.fieldAddr 7 (.tmp 2),none⟩, ⟨none,.store 1 (.tmp 82) (.tmp 77),none⟩]
def r77_15 : MCode := .region 15 (q77_15_0 ++ (q77_15_1 ++ (q77_15_2 ++ q77_15_3))) true [2]
theorem x77_15 : exec run esc l base r77_15 e σ = (stepOps run esc base q77_15_0 e σ).bind fun x => (stepOps run esc base q77_15_1 x.1 x.2).bind fun x => (stepOps run esc base q77_15_2 x.1 x.2).bind fun x => (stepOps run esc base q77_15_3 x.1 x.2).bind (Zk [2] base) := by simp only [r77_15, regN, regA, Option.bind_assoc]
def q77_16_0 : List MOper := [⟨some 83,.mov false (.tmp 0),none⟩, ⟨some 84,.nilCheck (.tmp 83),none⟩, ⟨some 85,.fieldAddr 8 (.tmp 84),none⟩, ⟨some 86,.load false false 1 (.tmp 85),none⟩, ⟨some 87,.fieldAddr 8 (.tmp 2),none⟩, ⟨none,.store 1 (.tmp 87) (.tmp 86),none⟩]
def r77_16 : MCode := .region 16 q77_16_0 false [2]
theorem x77_16 : exec run esc l base r77_16 e σ = (stepOps run esc base q77_16_0 e σ).bind (Zk [2] base) := rfl
def q77_17_0 : List MOper := [⟨some 88,.mov false (.tmp 0),none⟩, ⟨some 89,.nilCheck (.tmp 88),none⟩, ⟨some 90,.fieldAddr 9 (.tmp 89),none⟩, ⟨some 91,.load false true 5 (.tmp 90),none⟩, ⟨some 92,.fieldAddr 9 (.tmp 2),none⟩, ⟨none,.store 5 (.tmp 92) (.tmp 91),none⟩]
def r77_17 : MCode := .region 17 q77_17_0 false [2]
theorem x77_17 : exec run esc l base r77_17 e σ = (stepOps run esc base q77_17_0 e σ).bind (Zk [2] base) := rfl
def q77_18_0 : List MOper := [⟨some 93,.fieldAddr 9 (.tmp 2),none⟩, ⟨some 94,.fieldAddr 0 (.tmp 93),none⟩, ⟨none,.store 1 (.tmp 94) (.lit (.int .i64 0)),none⟩]
def r77_18 : MCode := .region 18 q77_18_0 false [2]
theorem x77_18 : exec run esc l base r77_18 e σ = (stepOps run esc base q77_18_0 e σ).bind (Zk [2] base) := rfl
def q77_19_0 : List MOper := [⟨some 95,.mov false (.tmp 0),none⟩, ⟨some 96,.nilCheck (.tmp 95),none⟩, ⟨some 97,.fieldAddr 14 (.tmp 96),none⟩, ⟨some 98,.load false true 4 (.tmp 97),none⟩, ⟨some 99,.fieldAddr 14 (.tmp 2),none⟩, ⟨none,.store 4 (.tmp 99) (.tmp 98),none⟩]
def r77_19 : MCode := .region 19 q77_19_0 false [2]
theorem x77_19 : exec run esc l base r77_19 e σ = (stepOps run esc base q77_19_0 e σ).bind (Zk [2] base) := rfl
def q77_20_0 : List MOper := [⟨some 100,.load false true 18 (.tmp 2),none⟩, ⟨none,.store 18 (.tmp 2) (.tmp 100),none⟩]
def r77_20 : MCode := .region 20 q77_20_0 false [2]
theorem x77_20 : exec run esc l base r77_20 e σ = (stepOps run esc base q77_20_0 e σ).bind (Zk [2] base) := rfl
def m77 : MFunc := ⟨(.seq r77_0 (.seq r77_1 (.seq (.seq r77_2 (.block 0 (.seq (.block 7 (.seq (.block 6 (.seq (.block 5 (.seq (.block 4 (.seq (.block 3 (.seq (.block 2 (.seq (.block 1 (.seq (.seq (.seq r77_3 (.cond (.tmp 12) (.exit 1) .skip)) (.seq (.seq r77_4 (.cond (.tmp 14) (.exit 2) .skip)) (.seq (.seq r77_5 (.cond (.tmp 16) (.exit 3) .skip)) (.seq (.seq r77_6 (.cond (.tmp 18) (.exit 4) .skip)) (.seq (.seq r77_7 (.cond (.tmp 20) (.exit 5) .skip)) (.seq (.seq r77_8 (.cond (.tmp 22) (.exit 6) .skip)) (.seq r77_9 (.cond (.tmp 24) (.exit 7) .skip)))))))) (.exit 0))) (.seq r77_10 (.seq r77_11 (.cond (.tmp 34) r77_12 .skip))))) (.seq r77_13 (.exit 0)))) (.seq r77_14 (.exit 0)))) (.seq r77_15 (.exit 0)))) (.seq r77_16 (.exit 0)))) (.seq (.seq r77_17 r77_18) (.exit 0)))) (.seq r77_19 (.exit 0))))) (.seq r77_20 .ret)))), [.cell 2 true 18], false, false⟩
def q78_0_0 : List MOper := [⟨some 4,.mov true (.lit (.slice true [])),none⟩]
def r78_0 : MCode := .region 0 q78_0_0 false [0, 1, 4]
theorem x78_0 : exec run esc l base r78_0 e σ = (stepOps run esc base q78_0_0 e σ).bind (Zk [0, 1, 4] base) := rfl
def q78_1_0 : List MOper := [⟨some 7,.mov false (.tmp 0),none⟩, ⟨some 8,.len false (.tmp 7),none⟩, ⟨some 9,.mov false (.lit (.int .i64 0)),none⟩]
def r78_1 : MCode := .region 1 q78_1_0 false [1, 4, 7, 8, 9]
theorem x78_1 : exec run esc l base r78_1 e σ = (stepOps run esc base q78_1_0 e σ).bind (Zk [1, 4, 7, 8, 9] base) := rfl
def q78_2_0 : List MOper := [⟨some 10,.bin .lss (.tmp 9) (.tmp 8),none⟩]
def r78_2 : MCode := .region 2 q78_2_0 false [1, 4, 7, 8, 9, 10]
theorem x78_2 : exec run esc l base r78_2 e σ = (stepOps run esc base q78_2_0 e σ).bind (Zk [1, 4, 7, 8, 9, 10] base) := rfl
def q78_3_0 : List MOper := [⟨some 11,.index 3 (.tmp 7) (.tmp 9),none⟩, ⟨some 12,.load false true 3 (.tmp 11),none⟩, ⟨some 6,.alloc [(.int .i64 0), (.int .i64 0), (.slice true [])],none⟩, ⟨none,.store 3 (.tmp 6) (.tmp 12),none⟩]
def r78_3 : MCode := .region 3 q78_3_0 false [1, 4, 6, 7, 8, 9]
theorem x78_3 : exec run esc l base r78_3 e σ = (stepOps run esc base q78_3_0 e σ).bind (Zk [1, 4, 6, 7, 8, 9] base) := rfl
def q78_4_0 : List MOper := [⟨some 13,.mov false (.tmp 1),none⟩, ⟨some 14,.load false true 3 (.tmp 6),none⟩, ⟨some 15,.call (.tmp 13) [(.tmp 14)],none⟩]
def r78_4 : MCode := .region 4 q78_4_0 false [1, 4, 6, 7, 8, 9, 15]
theorem x78_4 : exec run esc l base r78_4 e σ = (stepOps run esc base q78_4_0 e σ).bind (Zk [1, 4, 6, 7, 8, 9, 15] base) := rfl
def q78_5_0 : List MOper := [⟨some 16,.mov true (.tmp 4),none⟩, ⟨some 17,.load false true 3 (.tmp 6),none⟩, ⟨some 18,.buildSlice 3 [(.tmp 17)],none⟩, ⟨some 19,.append false 3 40 (.tmp 16) (.tmp 18),none⟩, ⟨some 4,.mov true (.tmp 19),none⟩]
def r78_5 : MCode := .region 5 q78_5_0 false [1, 4, 7, 8, 9]
theorem x78_5 : exec run esc l base r78_5 e σ = (stepOps run esc base q78_5_0 e σ).bind (Zk [1, 4, 7, 8, 9] base) := rfl
def q78_6_0 : List MOper := [⟨some 20,.bin .add (.tmp 9) (.lit (.int .i64 1)),none⟩, ⟨some 9,.mov false (.tmp 20),none⟩]
def r78_6 : MCode := .region 6 q78_6_0 false [1, 4, 7, 8, 9]
theorem x78_6 : exec run esc l base r78_6 e σ = (stepOps run esc base q78_6_0 e σ).bind (Zk [1, 4, 7, 8, 9] base) := rfl
def l78_0 : MCode := (.seq r78_2 (.seq (.cond (.tmp 10) .skip (.exit 0)) (.seq (.block 1 (.seq r78_3 (.seq r78_4 (.cond (.tmp 15) r78_5 .skip)))) r78_6)))
def q78_7_0 : List MOper := [⟨some 21,.mov true (.tmp 4),none⟩, ⟨some 4,.mov true (.tmp 21),none⟩]
def r78_7 : MCode := .region 7 q78_7_0 false [4]
theorem x78_7 : exec run esc l base r78_7 e σ = (stepOps run esc base q78_7_0 e σ).bind (Zk [4] base) := rfl
def m78 : MFunc := ⟨(.seq r78_0 (.seq (.seq r78_1 (.block 0 (.loop l78_0))) (.seq r78_7 .ret))), [.tmp 4], true, false⟩
def q79_0_0 : List MOper := [⟨some 2,.box 3 (.tmp 0),none⟩, ⟨some 3,.mov false (.lit (.bool false)),none⟩]
def r79_0 : MCode := .region 0 q79_0_0 false [1, 2]
theorem x79_0 : exec run esc l base r79_0 e σ = (stepOps run esc base q79_0_0 e σ).bind (Zk [1, 2] base) := rfl
def q79_1_0 : List MOper := [⟨some 4,.fieldAddr 0 (.tmp 2),none⟩, ⟨some 5,.load false false 1 (.tmp 4),none⟩, ⟨some 6,.load false false 1 (.tmp 1),none⟩, ⟨some 7,.bin .eql (.tmp 5) (.tmp 6),none⟩, ⟨some 3,.mov false (.tmp 7),none⟩]
def r79_1 : MCode := .region 1 q79_1_0 false [3]
theorem x79_1 : exec run esc l base r79_1 e σ = (stepOps run esc base q79_1_0 e σ).bind (Zk [3] base) := rfl
def m79 : MFunc := ⟨(.seq r79_0 (.seq r79_1 .ret)), [.tmp 3], false, false⟩
def q80_0_0 : List MOper := [⟨some 4,.mov false (.lit (.bool false)),none⟩]
def r80_0 : MCode := .region 0 q80_0_0 false [0, 1]
theorem x80_0 : exec run esc l base r80_0 e σ = (stepOps run esc base q80_0_0 e σ).bind (Zk [0, 1] base) := rfl
def q80_1_0 : List MOper := [⟨some 5,.mov false (.tmp 0),none⟩, ⟨some 6,.bin .geq (.tmp 5) (.lit (.int .i64 1)),none⟩, ⟨some 7,.mov false (.tmp 6),none⟩, ⟨some 8,.mov false (.tmp 0),some (7, true)⟩, ⟨some 9,.bin .leq (.tmp 8) (.lit (.int .i64 8)),some (7, true)⟩, ⟨some 10,.pick (.tmp 7) (.tmp 9) (.lit (.bool false)),none⟩]
def q80_1_1 : List MOper := [⟨some 11,.mov false (.tmp 10),none⟩, ⟨some 12,.mov false (.tmp 1),some (11, true)⟩, ⟨some 13,.bin .geq (.tmp 12) (.lit (.int .i64 0)),some (11, true)⟩, ⟨some 14,.pick (.tmp 11) (.tmp 13) (.lit (.bool false)),none⟩, ⟨some 15,.mov false (.tmp 14),none⟩, ⟨some 16,.mov false (.tmp 1),some (15, true)⟩]
def q80_1_2 : List MOper := [⟨some 17,.bin .leq (.tmp 16) (.lit (.int .i64 100)),some (15, true)⟩, ⟨some 18,.pick (.tmp 15) (.tmp 17) (.lit (.bool false)),none⟩, ⟨some 4,.mov false (.tmp 18),none⟩]
def r80_1 : MCode := .region 1 (q80_1_0 ++ (q80_1_1 ++ q80_1_2)) false [4]
theorem x80_1 : exec run esc l base r80_1 e σ = (stepOps run esc base q80_1_0 e σ).bind fun x => (stepOps run esc base q80_1_1 x.1 x.2).bind fun x => (stepOps run esc base q80_1_2 x.1 x.2).bind (Zk [4] base) := by simp only [r80_1, regN, regA, Option.bind_assoc]
def m80 : MFunc := ⟨(.seq r80_0 (.seq r80_1 .ret)), [.tmp 4], false, false⟩
def q81_0_0 : List MOper := [⟨some 6,.mov false (.lit (.bool false)),none⟩]
def r81_0 : MCode := .region 0 q81_0_0 false [0, 1, 2]
theorem x81_0 : exec run esc l base r81_0 e σ = (stepOps run esc base q81_0_0 e σ).bind (Zk [0, 1, 2] base) := rfl
def q81_1_0 : List MOper := [⟨some 7,.mov false (.tmp 0),none⟩, ⟨some 8,.mov false (.tmp 1),none⟩, ⟨some 9,.bin .geq (.tmp 7) (.tmp 8),none⟩, ⟨some 10,.mov false (.tmp 9),none⟩, ⟨some 11,.mov false (.tmp 0),some (10, true)⟩, ⟨some 12,.mov false (.tmp 2),some (10, true)⟩]
def q81_1_1 : List MOper := [⟨some 13,.bin .leq (.tmp 11) (.tmp 12),some (10, true)⟩, ⟨some 14,.pick (.tmp 10) (.tmp 13) (.lit (.bool false)),none⟩, ⟨some 6,.mov false (.tmp 14),none⟩]
def r81_1 : MCode := .region 1 (q81_1_0 ++ q81_1_1) false [6]
theorem x81_1 : exec run esc l base r81_1 e σ = (stepOps run esc base q81_1_0 e σ).bind fun x => (stepOps run esc base q81_1_1 x.1 x.2).bind (Zk [6] base) := reg2
def m81 : MFunc := ⟨(.seq r81_0 (.seq r81_1 .ret)), [.tmp 6], false, false⟩
def q82_0_0 : List MOper := [⟨some 2,.box 5 (.tmp 0),none⟩, ⟨some 3,.box 5 (.tmp 1),none⟩, ⟨some 4,.alloc [(.int .i64 0), (.int .i64 0), (.slice true []), (.slice true []), (.slice true [])],none⟩]
def r82_0 : MCode := .region 0 q82_0_0 false [2, 3, 4]
theorem x82_0 : exec run esc l base r82_0 e σ = (stepOps run esc base q82_0_0 e σ).bind (Zk [2, 3, 4] base) := rfl
def q82_1_0 : List MOper := [⟨some 6,.fieldAddr 2 (.tmp 2),none⟩, ⟨some 7,.load false false 1 (.tmp 6),none⟩, ⟨some 8,.len false (.tmp 7),none⟩, ⟨some 5,.mov false (.tmp 8),none⟩]
def r82_1 : MCode := .region 1 q82_1_0 false [2, 3, 4, 5]
theorem x82_1 : exec run esc l base r82_1 e σ = (stepOps run esc base q82_1_0 e σ).bind (Zk [2, 3, 4, 5] base) := rfl
def q82_2_0 : List MOper := [⟨some 9,.fieldAddr 2 (.tmp 2),none⟩, ⟨some 10,.load false false 1 (.tmp 9),none⟩, ⟨some 11,.mov false (.tmp 5),none⟩, ⟨some 12,.mov false (.tmp 5),none⟩, ⟨some 13,.slice 5 (.tmp 10) none (some (.tmp 11)) (some (.tmp 12)),none⟩, ⟨some 14,.load false true 5 (.tmp 3),none⟩]
def q82_2_1 : List MOper := [⟨some 15,.fieldAddr 1 (.tmp 2),none⟩, ⟨some 16,.load false false 1 (.tmp 15),none⟩, ⟨some 17,.callc (.lit (.fn 87 [])) [(.tmp 14), (.tmp 16)],none⟩, ⟨some 18,.append false 5 56 (.tmp 13) (.tmp 17),none⟩, ⟨some 19,.fieldAddr 2 (.tmp 2),none⟩, ⟨none,.store 1 (.tmp 19) (.tmp 18),none⟩]
def r82_2 : MCode := .region 2 (q82_2_0 ++ q82_2_1) true [2, 3, 4]
theorem x82_2 : exec run esc l base r82_2 e σ = (stepOps run esc base q82_2_0 e σ).bind fun x => (stepOps run esc base q82_2_1 x.1 x.2).bind (Zk [2, 3, 4] base) := reg2
def q82_3_0 : List MOper := [⟨some 20,.fieldAddr 1 (.tmp 2),none⟩, ⟨some 21,.load false false 1 (.tmp 20),none⟩, ⟨some 22,.fieldAddr 4 (.tmp 3),none⟩, ⟨some 23,.load false false 1 (.tmp 22),none⟩, ⟨some 24,.len false (.tmp 23),none⟩, ⟨some 25,.bin .add (.tmp 21) (.tmp 24),none⟩]
def q82_3_1 : List MOper := [⟨some 26,.fieldAddr 1 (.tmp 2),none⟩, ⟨none,.store 1 (.tmp 26) (.tmp 25),none⟩]
def r82_3 : MCode := .region 3 (q82_3_0 ++ q82_3_1) false [2, 4]
theorem x82_3 : exec run esc l base r82_3 e σ = (stepOps run esc base q82_3_0 e σ).bind fun x => (stepOps run esc base q82_3_1 x.1 x.2).bind (Zk [2, 4] base) := reg2
def q82_4_0 : List MOper := [⟨some 27,.load false true 5 (.tmp 2),none⟩, ⟨none,.store 5 (.tmp 4) (.tmp 27),none⟩]
def r82_4 : MCode := .region 4 q82_4_0 false [4]
theorem x82_4 : exec run esc l base r82_4 e σ = (stepOps run esc base q82_4_0 e σ).bind (Zk [4] base) := rfl
def m82 : MFunc := ⟨(.seq r82_0 (.seq r82_1 (.seq r82_2 (.seq r82_3 (.seq r82_4 .ret))))), [.cell 4 true 5], false, false⟩
def q83_0_0 : List MOper := [⟨some 2,.box 5 (.tmp 0),none⟩, ⟨some 3,.box 3 (.tmp 1),none⟩, ⟨some 4,.alloc [(.int .i64 0), (.int .i64 0), (.slice true []), (.slice true []), (.slice true [])],none⟩]
def r83_0 : MCode := .region 0 q83_0_0 false [2, 3, 4]
theorem x83_0 : exec run esc l base r83_0 e σ = (stepOps run esc base q83_0_0 e σ).bind (Zk [2, 3, 4] base) := rfl
def q83_1_0 : List MOper := [⟨some 7,.fieldAddr 3 (.tmp 2),none⟩, ⟨some 8,.load false false 1 (.tmp 7),none⟩, ⟨some 9,.mkfn 88 [(.tmp 3)],none⟩, ⟨some 10,.call (.lit (.fn 78 [])) [(.tmp 8), (.tmp 9)],none⟩, ⟨some 5,.mov true (.tmp 10),none⟩]
def r83_1 : MCode := .region 1 q83_1_0 false [2, 3, 4, 5]
theorem x83_1 : exec run esc l base r83_1 e σ = (stepOps run esc base q83_1_0 e σ).bind (Zk [2, 3, 4, 5] base) := rfl
def q83_2_0 : List MOper := [⟨some 11,.fieldAddr 3 (.tmp 2),none⟩, ⟨some 12,.load false false 1 (.tmp 11),none⟩, ⟨some 13,.mkfn 89 [(.tmp 3)],none⟩, ⟨some 14,.call (.lit (.fn 78 [])) [(.tmp 12), (.tmp 13)],none⟩, ⟨some 6,.mov true (.tmp 14),none⟩]
def r83_2 : MCode := .region 2 q83_2_0 false [2, 3, 4, 5, 6]
theorem x83_2 : exec run esc l base r83_2 e σ = (stepOps run esc base q83_2_0 e σ).bind (Zk [2, 3, 4, 5, 6] base) := rfl
def q83_3_0 : List MOper := [⟨some 15,.mov true (.tmp 5),none⟩, ⟨some 16,.load false true 3 (.tmp 3),none⟩, ⟨some 17,.buildSlice 3 [(.tmp 16)],none⟩, ⟨some 18,.append false 3 40 (.tmp 15) (.tmp 17),none⟩, ⟨some 19,.mov false (.tmp 6),none⟩, ⟨some 20,.append false 3 40 (.tmp 18) (.tmp 19),none⟩]
def q83_3_1 : List MOper := [⟨some 21,.fieldAddr 3 (.tmp 2),none⟩, ⟨none,.store 1 (.tmp 21) (.tmp 20),none⟩]
def r83_3 : MCode := .region 3 (q83_3_0 ++ q83_3_1) false [2, 4]
theorem x83_3 : exec run esc l base r83_3 e σ = (stepOps run esc base q83_3_0 e σ).bind fun x => (stepOps run esc base q83_3_1 x.1 x.2).bind (Zk [2, 4] base) := reg2
def q83_4_0 : List MOper := [⟨some 22,.load false true 5 (.tmp 2),none⟩, ⟨none,.store 5 (.tmp 4) (.tmp 22),none⟩]
def r83_4 : MCode := .region 4 q83_4_0 false [4]
theorem x83_4 : exec run esc l base r83_4 e σ = (stepOps run esc base q83_4_0 e σ).bind (Zk [4] base) := rfl
def m83 : MFunc := ⟨(.seq r83_0 (.seq r83_1 (.seq r83_2 (.seq r83_3 (.seq r83_4 .ret))))), [.cell 4 true 5], false, false⟩
def q84_0_0 : List MOper := [⟨some 2,.box 5 (.tmp 0),none⟩, ⟨some 3,.box 1 (.tmp 1),none⟩, ⟨some 4,.alloc [(.int .i64 0), (.int .i64 0), (.slice true []), (.slice true []), (.slice true [])],none⟩]
def r84_0 : MCode := .region 0 q84_0_0 false [2, 3, 4]
theorem x84_0 : exec run esc l base r84_0 e σ = (stepOps run esc base q84_0_0 e σ).bind (Zk [2, 3, 4] base) := rfl
def q84_1_0 : List MOper := [⟨some 5,.fieldAddr 3 (.tmp 2),none⟩, ⟨some 6,.load false false 1 (.tmp 5),none⟩, ⟨some 7,.mkfn 90 [(.tmp 3)],none⟩, ⟨some 8,.call (.lit (.fn 78 [])) [(.tmp 6), (.tmp 7)],none⟩, ⟨some 9,.fieldAddr 3 (.tmp 2),none⟩, ⟨none,.store 1 (.tmp 9) (.tmp 8),none⟩]
def r84_1 : MCode := .region 1 q84_1_0 false [2, 4]
theorem x84_1 : exec run esc l base r84_1 e σ = (stepOps run esc base q84_1_0 e σ).bind (Zk [2, 4] base) := rfl
def q84_2_0 : List MOper := [⟨some 10,.load false true 5 (.tmp 2),none⟩, ⟨none,.store 5 (.tmp 4) (.tmp 10),none⟩]
def r84_2 : MCode := .region 2 q84_2_0 false [4]
theorem x84_2 : exec run esc l base r84_2 e σ = (stepOps run esc base q84_2_0 e σ).bind (Zk [4] base) := rfl
def m84 : MFunc := ⟨(.seq r84_0 (.seq r84_1 (.seq r84_2 .ret))), [.cell 4 true 5], false, false⟩
def q85_0_0 : List MOper := [⟨some 2,.box 5 (.tmp 0),none⟩, ⟨some 3,.mov false (.lit (.bool false)),none⟩]
def r85_0 : MCode := .region 0 q85_0_0 false [1, 2]
theorem x85_0 : exec run esc l base r85_0 e σ = (stepOps run esc base q85_0_0 e σ).bind (Zk [1, 2] base) := rfl
def q85_1_0 : List MOper := [⟨some 4,.fieldAddr 0 (.tmp 2),none⟩, ⟨some 5,.load false false 1 (.tmp 4),none⟩, ⟨some 6,.fieldAddr 0 (.tmp 1),none⟩, ⟨some 7,.load false false 1 (.tmp 6),none⟩, ⟨some 8,.bin .geq (.tmp 5) (.tmp 7),none⟩, ⟨some 3,.mov false (.tmp 8),none⟩]
def r85_1 : MCode := .region 1 q85_1_0 false [3]
theorem x85_1 : exec run esc l base r85_1 e σ = (stepOps run esc base q85_1_0 e σ).bind (Zk [3] base) := rfl
def m85 : MFunc := ⟨(.seq r85_0 (.seq r85_1 .ret)), [.tmp 3], false, false⟩
def q86_0_0 : List MOper := [⟨some 2,.box 5 (.tmp 0),none⟩, ⟨some 3,.box 5 (.tmp 1),none⟩, ⟨some 4,.mov false (.lit (.bool false)),none⟩]
def r86_0 : MCode := .region 0 q86_0_0 false [2, 3]
theorem x86_0 : exec run esc l base r86_0 e σ = (stepOps run esc base q86_0_0 e σ).bind (Zk [2, 3] base) := rfl
def q86_1_0 : List MOper := [⟨some 6,.fieldAddr 0 (.tmp 2),none⟩, ⟨some 7,.load false false 1 (.tmp 6),none⟩, ⟨some 8,.fieldAddr 0 (.tmp 3),none⟩, ⟨some 9,.load false false 1 (.tmp 8),none⟩, ⟨some 10,.bin .neq (.tmp 7) (.tmp 9),none⟩, ⟨some 11,.mov false (.tmp 10),none⟩]
def q86_1_1 : List MOper := [⟨some 12,.fieldAddr 1 (.tmp 2),some (11, false)⟩, ⟨some 13,.load false false 1 (.tmp 12),some (11, false)⟩, ⟨some 14,.fieldAddr 1 (.tmp 3),some (11, false)⟩, ⟨some 15,.load false false 1 (.tmp 14),some (11, false)⟩, ⟨some 16,.bin .neq (.tmp 13) (.tmp 15),some (11, false)⟩, ⟨some 17,.pick (.tmp 11) (.lit (.bool true)) (.tmp 16),none⟩]
def q86_1_2 : List MOper := [⟨some 18,.mov false (.tmp 17),none⟩, ⟨some 19,.fieldAddr 2 (.tmp 2),some (18, false)⟩, ⟨some 20,.load false false 1 (.tmp 19),some (18, false)⟩, ⟨some 21,.fieldAddr 2 (.tmp 3),some (18, false)⟩, ⟨some 22,.load false false 1 (.tmp 21),some (18, false)⟩, ⟨some 23,.bin .neq (.tmp 20) (.tmp 22),some (18, false)⟩]
def q86_1_3 : List MOper := [⟨some 24,.pick (.tmp 18) (.lit (.bool true)) (.tmp 23),none⟩, ⟨some 25,.mov false (.tmp 24),none⟩, ⟨some 26,.fieldAddr 3 (.tmp 2),some (25, false)⟩, ⟨some 27,.load false false 1 (.tmp 26),some (25, false)⟩, ⟨some 28,.fieldAddr 3 (.tmp 3),some (25, false)⟩, ⟨some 29,.load false false 1 (.tmp 28),some (25, false)⟩]
def q86_1_4 : List MOper := [⟨some 30,.eqb true (.tmp 27) (.tmp 29),some (25, false)⟩, ⟨some 31,.pick (.tmp 25) (.lit (.bool true)) (.tmp 30),none⟩, ⟨some 32,.mov false (.tmp 31),none⟩, ⟨some 33,.fieldAddr 4 (.tmp 2),some (32, false)⟩, ⟨some 34,.load false false 1 (.tmp 33),some (32, false)⟩, ⟨some 35,.len false (.tmp 34),some (32, false)⟩]
def q86_1_5 : List MOper := [⟨some 36,.fieldAddr 4 (.tmp 3),some (32, false)⟩, ⟨some 37,.load false false 1 (.tmp 36),some (32, false)⟩, ⟨some 38,.len false (.tmp 37),some (32, false)⟩, ⟨some 39,.bin .neq (.tmp 35) (.tmp 38),some (32, false)⟩, ⟨some 40,.pick (.tmp 32) (.lit (.bool true)) (.tmp 39),none⟩]
def r86_1 : MCode := .region 1 (q86_1_0 ++ (q86_1_1 ++ (q86_1_2 ++ (q86_1_3 ++ (q86_1_4 ++ q86_1_5))))) false [2, 3, 40]
theorem x86_1 : exec run esc l base r86_1 e σ = (stepOps run esc base q86_1_0 e σ).bind fun x => (stepOps run esc base q86_1_1 x.1 x.2).bind fun x => (stepOps run esc base q86_1_2 x.1 x.2).bind fun x => (stepOps run esc base q86_1_3 x.1 x.2).bind fun x => (stepOps run esc base q86_1_4 x.1 x.2).bind fun x => (stepOps run esc base q86_1_5 x.1 x.2).bind (Zk [2, 3, 40] base) := by simp only [r86_1, regN, regA, Option.bind_assoc]
def q86_2_0 : List MOper := [⟨some 4,.mov false (.lit (.bool false)),none⟩]
def r86_2 : MCode := .region 2 q86_2_0 false [4]
theorem x86_2 : exec run esc l base r86_2 e σ = (stepOps run esc base q86_2_0 e σ).bind (Zk [4] base) := rfl
def q86_3_0 : List MOper := [⟨some 41,.fieldAddr 4 (.tmp 2),none⟩, ⟨some 42,.load false false 1 (.tmp 41),none⟩, ⟨some 43,.len false (.tmp 42),none⟩, ⟨some 44,.mov false (.lit (.int .i64 0)),none⟩]
def r86_3 : MCode := .region 3 q86_3_0 false [2, 3, 43, 44]
theorem x86_3 : exec run esc l base r86_3 e σ = (stepOps run esc base q86_3_0 e σ).bind (Zk [2, 3, 43, 44] base) := rfl
def q86_4_0 : List MOper := [⟨some 45,.bin .lss (.tmp 44) (.tmp 43),none⟩]
def r86_4 : MCode := .region 4 q86_4_0 false [2, 3, 43, 44, 45]
theorem x86_4 : exec run esc l base r86_4 e σ = (stepOps run esc base q86_4_0 e σ).bind (Zk [2, 3, 43, 44, 45] base) := rfl
def q86_5_0 : List MOper := [⟨some 46,.mov false (.tmp 44),none⟩, ⟨some 5,.mov false (.tmp 46),none⟩]
def r86_5 : MCode := .region 5 q86_5_0 false [2, 3, 5, 43, 44]
theorem x86_5 : exec run esc l base r86_5 e σ = (stepOps run esc base q86_5_0 e σ).bind (Zk [2, 3, 5, 43, 44] base) := rfl
def q86_6_0 : List MOper := [⟨some 47,.fieldAddr 4 (.tmp 2),none⟩, ⟨some 48,.load false false 1 (.tmp 47),none⟩, ⟨some 49,.mov false (.tmp 5),none⟩, ⟨some 50,.index 2 (.tmp 48) (.tmp 49),none⟩, ⟨some 51,.load false true 2 (.tmp 50),none⟩, ⟨some 52,.fieldAddr 4 (.tmp 3),none⟩]
def q86_6_1 : List MOper := [⟨some 53,.load false false 1 (.tmp 52),none⟩, ⟨some 54,.mov false (.tmp 5),none⟩, ⟨some 55,.index 2 (.tmp 53) (.tmp 54),none⟩, ⟨some 56,.load false true 2 (.tmp 55),none⟩, ⟨some 57,.eqs true [2, 2] (.tmp 51) (.tmp 56),none⟩]
def r86_6 : MCode := .region 6 (q86_6_0 ++ q86_6_1) true [2, 3, 43, 44, 57]
theorem x86_6 : exec run esc l base r86_6 e σ = (stepOps run esc base q86_6_0 e σ).bind fun x => (stepOps run esc base q86_6_1 x.1 x.2).bind (Zk [2, 3, 43, 44, 57] base) := reg2
def q86_7_0 : List MOper := [⟨some 4,.mov false (.lit (.bool false)),none⟩]
def r86_7 : MCode := .region 7 q86_7_0 false [4]
theorem x86_7 : exec run esc l base r86_7 e σ = (stepOps run esc base q86_7_0 e σ).bind (Zk [4] base) := rfl
def q86_8_0 : List MOper := [⟨some 58,.bin .add (.tmp 44) (.lit (.int .i64 1)),none⟩, ⟨some 44,.mov false (.tmp 58),none⟩]
def r86_8 : MCode := .region 8 q86_8_0 false [2, 3, 43, 44]
theorem x86_8 : exec run esc l base r86_8 e σ = (stepOps run esc base q86_8_0 e σ).bind (Zk [2, 3, 43, 44] base) := rfl
def l86_0 : MCode := (.seq r86_4 (.seq (.cond (.tmp 45) .skip (.exit 0)) (.seq (.block 1 (.seq r86_5 (.seq r86_6 (.cond (.tmp 57) (.seq r86_7 .ret) .skip)))) r86_8)))
def q86_9_0 : List MOper := [⟨some 4,.mov false (.lit (.bool true)),none⟩]
def r86_9 : MCode := .region 9 q86_9_0 false [4]
theorem x86_9 : exec run esc l base r86_9 e σ = (stepOps run esc base q86_9_0 e σ).bind (Zk [4] base) := rfl
def m86 : MFunc := ⟨(.seq r86_0 (.seq (.seq r86_1 (.cond (.tmp 40) (.seq r86_2 .ret) .skip)) (.seq (.seq r86_3 (.block 0 (.loop l86_0))) (.seq r86_9 .ret)))), [.tmp 4], false, false⟩
def q87_0_0 : List MOper := [⟨some 2,.box 5 (.tmp 0),none⟩, ⟨some 4,.mov true (.lit (.slice true [])),none⟩]
def r87_0 : MCode := .region 0 q87_0_0 false [1, 2, 4]
theorem x87_0 : exec run esc l base r87_0 e σ = (stepOps run esc base q87_0_0 e σ).bind (Zk [1, 2, 4] base) := rfl
def q87_1_0 : List MOper := [⟨some 5,.mov false (.lit (.int .i64 1)),none⟩]
def r87_1 : MCode := .region 1 q87_1_0 false [1, 2, 4, 5]
theorem x87_1 : exec run esc l base r87_1 e σ = (stepOps run esc base q87_1_0 e σ).bind (Zk [1, 2, 4, 5] base) := rfl
def q87_2_0 : List MOper := [⟨some 8,.mov false (.tmp 1),none⟩, ⟨some 9,.bin .eql (.tmp 8) (.lit (.int .i64 (-1))),none⟩]
def r87_2 : MCode := .region 2 q87_2_0 false [1, 2, 4, 5, 9]
theorem x87_2 : exec run esc l base r87_2 e σ = (stepOps run esc base q87_2_0 e σ).bind (Zk [1, 2, 4, 5, 9] base) := rfl
def q87_3_0 : List MOper := [⟨some 5,.mov false (.lit (.int .i64 0)),none⟩]
def r87_3 : MCode := .region 3 q87_3_0 false [1, 2, 4, 5]
theorem x87_3 : exec run esc l base r87_3 e σ = (stepOps run esc base q87_3_0 e σ).bind (Zk [1, 2, 4, 5] base) := rfl
def q87_4_0 : List MOper := [⟨some 10,.fieldAddr 4 (.tmp 2),none⟩, ⟨some 11,.load false false 1 (.tmp 10),none⟩, ⟨some 12,.len false (.tmp 11),none⟩, ⟨some 13,.mov false (.lit (.int .i64 0)),none⟩]
def r87_4 : MCode := .region 4 q87_4_0 false [1, 2, 4, 5, 12, 13]
theorem x87_4 : exec run esc l base r87_4 e σ = (stepOps run esc base q87_4_0 e σ).bind (Zk [1, 2, 4, 5, 12, 13] base) := rfl
def q87_5_0 : List MOper := [⟨some 14,.bin .lss (.tmp 13) (.tmp 12),none⟩]
def r87_5 : MCode := .region 5 q87_5_0 false [1, 2, 4, 5, 12, 13, 14]
theorem x87_5 : exec run esc l base r87_5 e σ = (stepOps run esc base q87_5_0 e σ).bind (Zk [1, 2, 4, 5, 12, 13, 14] base) := rfl
def q87_6_0 : List MOper := [⟨some 15,.mov false (.tmp 13),none⟩, ⟨some 6,.mov false (.tmp 15),none⟩]
def r87_6 : MCode := .region 6 q87_6_0 false [1, 2, 4, 5, 6, 12, 13]
theorem x87_6 : exec run esc l base r87_6 e σ = (stepOps run esc base q87_6_0 e σ).bind (Zk [1, 2, 4, 5, 6, 12, 13] base) := rfl
def q87_7_0 : List MOper := [⟨some 16,.fieldAddr 4 (.tmp 2),none⟩, ⟨some 17,.load false false 1 (.tmp 16),none⟩, ⟨some 18,.mov false (.tmp 6),none⟩, ⟨some 19,.index 2 (.tmp 17) (.tmp 18),none⟩, ⟨some 20,.load false true 2 (.tmp 19),none⟩, ⟨some 7,.alloc [(.str []), (.str [])],none⟩]
def q87_7_1 : List MOper := [⟨none,.store 2 (.tmp 7) (.tmp 20),none⟩]
def r87_7 : MCode := .region 7 (q87_7_0 ++ q87_7_1) false [1, 2, 4, 5, 6, 7, 12, 13]
theorem x87_7 : exec run esc l base r87_7 e σ = (stepOps run esc base q87_7_0 e σ).bind fun x => (stepOps run esc base q87_7_1 x.1 x.2).bind (Zk [1, 2, 4, 5, 6, 7, 12, 13] base) := reg2
def q87_8_0 : List MOper := [⟨some 21,.mov true (.tmp 4),none⟩, ⟨some 22,.mov false (.tmp 1),none⟩, ⟨some 23,.mov false (.tmp 5),none⟩, ⟨some 24,.mov false (.tmp 6),none⟩, ⟨some 25,.bin .mul (.tmp 23) (.tmp 24),none⟩, ⟨some 26,.bin .add (.tmp 22) (.tmp 25),none⟩]
def q87_8_1 : List MOper := [⟨some 27,.fieldAddr 0 (.tmp 2),none⟩, ⟨some 28,.load false false 1 (.tmp 27),none⟩, ⟨some 29,.fieldAddr 2 (.tmp 2),none⟩, ⟨some 30,.load false false 1 (.tmp 29),none⟩, ⟨some 31,.mov false (.tmp 6),none⟩, ⟨some 32,.bin .add (.tmp 30) (.tmp 31),none⟩]
def q87_8_2 : List MOper := [⟨some 33,.fieldAddr 0 (.tmp 7),none⟩, ⟨some 34,.load false false 1 (.tmp 33),none⟩, ⟨some 35,.fieldAddr 1 (.tmp 7),none⟩, ⟨some 36,.load false false 1 (.tmp 35),none⟩, ⟨some 37,.build [(.int .i64 0), (.int .i64 0), (.int .i64 0), (.str []), (.str [])] [(0, 1, (.tmp 26)), (1, 1, (.tmp 28)), (2, 1, (.tmp 32)), (3, 1, (.tmp 34)), (4, 1, (.tmp 36))],none⟩, ⟨some 38,.buildSlice 5 [(.tmp 37)],none⟩]
def q87_8_3 : List MOper := [⟨some 39,.append false 5 56 (.tmp 21) (.tmp 38),none⟩, ⟨some 4,.mov true (.tmp 39),none⟩]
def r87_8 : MCode := .region 8 (q87_8_0 ++ (q87_8_1 ++ (q87_8_2 ++ q87_8_3))) false [1, 2, 4, 5, 12, 13]
theorem x87_8 : exec run esc l base r87_8 e σ = (stepOps run esc base q87_8_0 e σ).bind fun x => (stepOps run esc base q87_8_1 x.1 x.2).bind fun x => (stepOps run esc base q87_8_2 x.1 x.2).bind fun x => (stepOps run esc base q87_8_3 x.1 x.2).bind (Zk [1, 2, 4, 5, 12, 13] base) := by simp only [r87_8, regN, regA, Option.bind_assoc]
def q87_9_0 : List MOper := [⟨some 40,.bin .add (.tmp 13) (.lit (.int .i64 1)),none⟩, ⟨some 13,.mov false (.tmp 40),none⟩]
def r87_9 : MCode := .region 9 q87_9_0 false [1, 2, 4, 5, 12, 13]
theorem x87_9 : exec run esc l base r87_9 e σ = (stepOps run esc base q87_9_0 e σ).bind (Zk [1, 2, 4, 5, 12, 13] base) := rfl
def l87_0 : MCode := (.seq r87_5 (.seq (.cond (.tmp 14) .skip (.exit 0)) (.seq (.block 1 (.seq r87_6 (.seq r87_7 r87_8))) r87_9)))
def q87_10_0 : List MOper := [⟨some 41,.mov true (.tmp 4),none⟩, ⟨some 4,.mov true (.tmp 41),none⟩]
def r87_10 : MCode := .region 10 q87_10_0 false [4]
theorem x87_10 : exec run esc l base r87_10 e σ = (stepOps run esc base q87_10_0 e σ).bind (Zk [4] base) := rfl
def m87 : MFunc := ⟨(.seq r87_0 (.seq r87_1 (.seq (.seq r87_2 (.cond (.tmp 9) r87_3 .skip)) (.seq (.seq r87_4 (.block 0 (.loop l87_0))) (.seq r87_10 .ret))))), [.tmp 4], false, false⟩
def q88_0_0 : List MOper := [⟨some 2,.box 3 (.tmp 0),none⟩, ⟨some 3,.mov false (.lit (.bool false)),none⟩]
def r88_0 : MCode := .region 0 q88_0_0 false [1, 2]
theorem x88_0 : exec run esc l base r88_0 e σ = (stepOps run esc base q88_0_0 e σ).bind (Zk [1, 2] base) := rfl
def q88_1_0 : List MOper := [⟨some 4,.fieldAddr 0 (.tmp 2),none⟩, ⟨some 5,.load false false 1 (.tmp 4),none⟩, ⟨some 6,.fieldAddr 0 (.tmp 1),none⟩, ⟨some 7,.load false false 1 (.tmp 6),none⟩, ⟨some 8,.bin .lss (.tmp 5) (.tmp 7),none⟩, ⟨some 3,.mov false (.tmp 8),none⟩]
def r88_1 : MCode := .region 1 q88_1_0 false [3]
theorem x88_1 : exec run esc l base r88_1 e σ = (stepOps run esc base q88_1_0 e σ).bind (Zk [3] base) := rfl
def m88 : MFunc := ⟨(.seq r88_0 (.seq r88_1 .ret)), [.tmp 3], false, false⟩
def q89_0_0 : List MOper := [⟨some 2,.box 3 (.tmp 0),none⟩, ⟨some 3,.mov false (.lit (.bool false)),none⟩]
def r89_0 : MCode := .region 0 q89_0_0 false [1, 2]
theorem x89_0 : exec run esc l base r89_0 e σ = (stepOps run esc base q89_0_0 e σ).bind (Zk [1, 2] base) := rfl
def q89_1_0 : List MOper := [⟨some 4,.fieldAddr 0 (.tmp 2),none⟩, ⟨some 5,.load false false 1 (.tmp 4),none⟩, ⟨some 6,.fieldAddr 0 (.tmp 1),none⟩, ⟨some 7,.load false false 1 (.tmp 6),none⟩, ⟨some 8,.bin .gtr (.tmp 5) (.tmp 7),none⟩, ⟨some 3,.mov false (.tmp 8),none⟩]
def r89_1 : MCode := .region 1 q89_1_0 false [3]
theorem x89_1 : exec run esc l base r89_1 e σ = (stepOps run esc base q89_1_0 e σ).bind (Zk [3] base) := rfl
def m89 : MFunc := ⟨(.seq r89_0 (.seq r89_1 .ret)), [.tmp 3], false, false⟩
def q90_0_0 : List MOper := [⟨some 2,.box 3 (.tmp 0),none⟩, ⟨some 3,.mov false (.lit (.bool false)),none⟩]
def r90_0 : MCode := .region 0 q90_0_0 false [1, 2]
theorem x90_0 : exec run esc l base r90_0 e σ = (stepOps run esc base q90_0_0 e σ).bind (Zk [1, 2] base) := rfl
def q90_1_0 : List MOper := [⟨some 4,.fieldAddr 0 (.tmp 2),none⟩, ⟨some 5,.load false false 1 (.tmp 4),none⟩, ⟨some 6,.load false false 1 (.tmp 1),none⟩, ⟨some 7,.bin .neq (.tmp 5) (.tmp 6),none⟩, ⟨some 3,.mov false (.tmp 7),none⟩]
def r90_1 : MCode := .region 1 q90_1_0 false [3]
theorem x90_1 : exec run esc l base r90_1 e σ = (stepOps run esc base q90_1_0 e σ).bind (Zk [3] base) := rfl
def m90 : MFunc := ⟨(.seq r90_0 (.seq r90_1 .ret)), [.tmp 3], false, false⟩
def tab : Tab := fun f => match f with
  | 3 => some m3
  | 7 => some m7
  | 8 => some m8
  | 9 => some m9
  | 10 => some m10
  | 11 => some m11
  | 12 => some m12
  | 13 => some m13
  | 14 => some m14
  | 15 => some m15
  | 16 => some m16
  | 17 => some m17
  | 18 => some m18
  | 19 => some m19
  | 20 => some m20
  | 21 => some m21
  | 22 => some m22
  | 23 => some m23
  | 24 => some m24
  | 25 => some m25
  | 26 => some m26
  | 27 => some m27
  | 28 => some m28
  | 29 => some m29
  | 30 => some m30
  | 31 => some m31
  | 32 => some m32
  | 33 => some m33
  | 34 => some m34
  | 35 => some m35
  | 36 => some m36
  | 37 => some m37
  | 38 => some m38
  | 39 => some m39
  | 40 => some m40
  | 41 => some m41
  | 42 => some m42
  | 43 => some m43
  | 44 => some m44
  | 45 => some m45
  | 46 => some m46
  | 47 => some m47
  | 48 => some m48
  | 49 => some m49
  | 50 => some m50
  | 51 => some m51
  | 52 => some m52
  | 53 => some m53
  | 54 => some m54
  | 55 => some m55
  | 56 => some m56
  | 57 => some m57
  | 58 => some m58
  | 59 => some m59
  | 60 => some m60
  | 61 => some m61
  | 62 => some m62
  | 63 => some m63
  | 64 => some m64
  | 65 => some m65
  | 66 => some m66
  | 67 => some m67
  | 68 => some m68
  | 69 => some m69
  | 70 => some m70
  | 71 => some m71
  | 72 => some m72
  | 73 => some m73
  | 74 => some m74
  | 75 => some m75
  | 76 => some m76
  | 77 => some m77
  | 78 => some m78
  | 79 => some m79
  | 80 => some m80
  | 81 => some m81
  | 82 => some m82
  | 83 => some m83
  | 84 => some m84
  | 85 => some m85
  | 86 => some m86
  | 87 => some m87
  | 88 => some m88
  | 89 => some m89
  | 90 => some m90
  | _ => none
theorem tab_3 : tab 3 = some m3 := rfl
theorem esc_3 : tab.esc 3 = false := rfl
theorem tab_7 : tab 7 = some m7 := rfl
theorem esc_7 : tab.esc 7 = false := rfl
theorem tab_8 : tab 8 = some m8 := rfl
theorem esc_8 : tab.esc 8 = false := rfl
theorem tab_9 : tab 9 = some m9 := rfl
theorem esc_9 : tab.esc 9 = false := rfl
theorem tab_10 : tab 10 = some m10 := rfl
theorem esc_10 : tab.esc 10 = false := rfl
theorem tab_11 : tab 11 = some m11 := rfl
theorem esc_11 : tab.esc 11 = false := rfl
theorem tab_12 : tab 12 = some m12 := rfl
theorem esc_12 : tab.esc 12 = false := rfl
theorem tab_13 : tab 13 = some m13 := rfl
theorem esc_13 : tab.esc 13 = false := rfl
theorem tab_14 : tab 14 = some m14 := rfl
theorem esc_14 : tab.esc 14 = false := rfl
theorem tab_15 : tab 15 = some m15 := rfl
theorem esc_15 : tab.esc 15 = false := rfl
theorem tab_16 : tab 16 = some m16 := rfl
theorem esc_16 : tab.esc 16 = false := rfl
theorem tab_17 : tab 17 = some m17 := rfl
theorem esc_17 : tab.esc 17 = false := rfl
theorem tab_18 : tab 18 = some m18 := rfl
theorem esc_18 : tab.esc 18 = false := rfl
theorem tab_19 : tab 19 = some m19 := rfl
theorem esc_19 : tab.esc 19 = false := rfl
theorem tab_20 : tab 20 = some m20 := rfl
theorem esc_20 : tab.esc 20 = false := rfl
theorem tab_21 : tab 21 = some m21 := rfl
theorem esc_21 : tab.esc 21 = false := rfl
theorem tab_22 : tab 22 = some m22 := rfl
theorem esc_22 : tab.esc 22 = false := rfl
theorem tab_23 : tab 23 = some m23 := rfl
theorem esc_23 : tab.esc 23 = false := rfl
theorem tab_24 : tab 24 = some m24 := rfl
theorem esc_24 : tab.esc 24 = false := rfl
theorem tab_25 : tab 25 = some m25 := rfl
theorem esc_25 : tab.esc 25 = false := rfl
theorem tab_26 : tab 26 = some m26 := rfl
theorem esc_26 : tab.esc 26 = false := rfl
theorem tab_27 : tab 27 = some m27 := rfl
theorem esc_27 : tab.esc 27 = false := rfl
theorem tab_28 : tab 28 = some m28 := rfl
theorem esc_28 : tab.esc 28 = false := rfl
theorem tab_29 : tab 29 = some m29 := rfl
theorem esc_29 : tab.esc 29 = false := rfl
theorem tab_30 : tab 30 = some m30 := rfl
theorem esc_30 : tab.esc 30 = false := rfl
theorem tab_31 : tab 31 = some m31 := rfl
theorem esc_31 : tab.esc 31 = false := rfl
theorem tab_32 : tab 32 = some m32 := rfl
theorem esc_32 : tab.esc 32 = false := rfl
theorem tab_33 : tab 33 = some m33 := rfl
theorem esc_33 : tab.esc 33 = false := rfl
theorem tab_34 : tab 34 = some m34 := rfl
theorem esc_34 : tab.esc 34 = false := rfl
theorem tab_35 : tab 35 = some m35 := rfl
theorem esc_35 : tab.esc 35 = false := rfl
theorem tab_36 : tab 36 = some m36 := rfl
theorem esc_36 : tab.esc 36 = false := rfl
theorem tab_37 : tab 37 = some m37 := rfl
theorem esc_37 : tab.esc 37 = false := rfl
theorem tab_38 : tab 38 = some m38 := rfl
theorem esc_38 : tab.esc 38 = false := rfl
theorem tab_39 : tab 39 = some m39 := rfl
theorem esc_39 : tab.esc 39 = false := rfl
theorem tab_40 : tab 40 = some m40 := rfl
theorem esc_40 : tab.esc 40 = false := rfl
theorem tab_41 : tab 41 = some m41 := rfl
theorem esc_41 : tab.esc 41 = false := rfl
theorem tab_42 : tab 42 = some m42 := rfl
theorem esc_42 : tab.esc 42 = false := rfl
theorem tab_43 : tab 43 = some m43 := rfl
theorem esc_43 : tab.esc 43 = false := rfl
theorem tab_44 : tab 44 = some m44 := rfl
theorem esc_44 : tab.esc 44 = false := rfl
theorem tab_45 : tab 45 = some m45 := rfl
theorem esc_45 : tab.esc 45 = false := rfl
theorem tab_46 : tab 46 = some m46 := rfl
theorem esc_46 : tab.esc 46 = false := rfl
theorem tab_47 : tab 47 = some m47 := rfl
theorem esc_47 : tab.esc 47 = false := rfl
theorem tab_48 : tab 48 = some m48 := rfl
theorem esc_48 : tab.esc 48 = false := rfl
theorem tab_49 : tab 49 = some m49 := rfl
theorem esc_49 : tab.esc 49 = false := rfl
theorem tab_50 : tab 50 = some m50 := rfl
theorem esc_50 : tab.esc 50 = false := rfl
theorem tab_51 : tab 51 = some m51 := rfl
theorem esc_51 : tab.esc 51 = false := rfl
theorem tab_52 : tab 52 = some m52 := rfl
theorem esc_52 : tab.esc 52 = false := rfl
theorem tab_53 : tab 53 = some m53 := rfl
theorem esc_53 : tab.esc 53 = false := rfl
theorem tab_54 : tab 54 = some m54 := rfl
theorem esc_54 : tab.esc 54 = false := rfl
theorem tab_55 : tab 55 = some m55 := rfl
theorem esc_55 : tab.esc 55 = false := rfl
theorem tab_56 : tab 56 = some m56 := rfl
theorem esc_56 : tab.esc 56 = false := rfl
theorem tab_57 : tab 57 = some m57 := rfl
theorem esc_57 : tab.esc 57 = false := rfl
theorem tab_58 : tab 58 = some m58 := rfl
theorem esc_58 : tab.esc 58 = false := rfl
theorem tab_59 : tab 59 = some m59 := rfl
theorem esc_59 : tab.esc 59 = false := rfl
theorem tab_60 : tab 60 = some m60 := rfl
theorem esc_60 : tab.esc 60 = false := rfl
theorem tab_61 : tab 61 = some m61 := rfl
theorem esc_61 : tab.esc 61 = false := rfl
theorem tab_62 : tab 62 = some m62 := rfl
theorem esc_62 : tab.esc 62 = false := rfl
theorem tab_63 : tab 63 = some m63 := rfl
theorem esc_63 : tab.esc 63 = false := rfl
theorem tab_64 : tab 64 = some m64 := rfl
theorem esc_64 : tab.esc 64 = false := rfl
theorem tab_65 : tab 65 = some m65 := rfl
theorem esc_65 : tab.esc 65 = false := rfl
theorem tab_66 : tab 66 = some m66 := rfl
theorem esc_66 : tab.esc 66 = false := rfl
theorem tab_67 : tab 67 = some m67 := rfl
theorem esc_67 : tab.esc 67 = false := rfl
theorem tab_68 : tab 68 = some m68 := rfl
theorem esc_68 : tab.esc 68 = false := rfl
theorem tab_69 : tab 69 = some m69 := rfl
theorem esc_69 : tab.esc 69 = false := rfl
theorem tab_70 : tab 70 = some m70 := rfl
theorem esc_70 : tab.esc 70 = false := rfl
theorem tab_71 : tab 71 = some m71 := rfl
theorem esc_71 : tab.esc 71 = false := rfl
theorem tab_72 : tab 72 = some m72 := rfl
theorem esc_72 : tab.esc 72 = false := rfl
theorem tab_73 : tab 73 = some m73 := rfl
theorem esc_73 : tab.esc 73 = false := rfl
theorem tab_74 : tab 74 = some m74 := rfl
theorem esc_74 : tab.esc 74 = false := rfl
theorem tab_75 : tab 75 = some m75 := rfl
theorem esc_75 : tab.esc 75 = false := rfl
theorem tab_76 : tab 76 = some m76 := rfl
theorem esc_76 : tab.esc 76 = false := rfl
theorem tab_77 : tab 77 = some m77 := rfl
theorem esc_77 : tab.esc 77 = false := rfl
theorem tab_78 : tab 78 = some m78 := rfl
theorem esc_78 : tab.esc 78 = false := rfl
theorem tab_79 : tab 79 = some m79 := rfl
theorem esc_79 : tab.esc 79 = false := rfl
theorem tab_80 : tab 80 = some m80 := rfl
theorem esc_80 : tab.esc 80 = false := rfl
theorem tab_81 : tab 81 = some m81 := rfl
theorem esc_81 : tab.esc 81 = false := rfl
theorem tab_82 : tab 82 = some m82 := rfl
theorem esc_82 : tab.esc 82 = false := rfl
theorem tab_83 : tab 83 = some m83 := rfl
theorem esc_83 : tab.esc 83 = false := rfl
theorem tab_84 : tab 84 = some m84 := rfl
theorem esc_84 : tab.esc 84 = false := rfl
theorem tab_85 : tab 85 = some m85 := rfl
theorem esc_85 : tab.esc 85 = false := rfl
theorem tab_86 : tab 86 = some m86 := rfl
theorem esc_86 : tab.esc 86 = false := rfl
theorem tab_87 : tab 87 = some m87 := rfl
theorem esc_87 : tab.esc 87 = false := rfl
theorem tab_88 : tab 88 = some m88 := rfl
theorem esc_88 : tab.esc 88 = false := rfl
theorem tab_89 : tab 89 = some m89 := rfl
theorem esc_89 : tab.esc 89 = false := rfl
theorem tab_90 : tab 90 = some m90 := rfl
theorem esc_90 : tab.esc 90 = false := rfl
end Go.Mir.A
