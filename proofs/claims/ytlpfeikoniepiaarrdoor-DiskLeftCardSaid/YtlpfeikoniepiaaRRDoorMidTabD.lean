import Derived.Test.YtlpfeikoniepiaaRRDoorMidDef
namespace Go.Mir.D
set_option linter.all false
variable {run : Run} {esc : Nat → Bool} {l : (Env → St → Out) → Env → St → Out} {base : Nat} {e : Env} {σ : St}
def q3_0_0 : List MOper := [⟨some 3,.box 4 (.tmp 0),none⟩, ⟨some 6,.mov false (.lit (.bool false)),none⟩]
def r3_0 : MCode := .region 0 q3_0_0 false [1, 2, 3]
theorem x3_0 : exec run esc l base r3_0 e σ = (stepOps run esc base q3_0_0 e σ).bind (Zk [1, 2, 3] base) := rfl
def q3_1_0 : List MOper := [⟨some 13,.load false true 4 (.tmp 3),none⟩, ⟨some 14,.call (.lit (.fn 12 [])) [(.tmp 13)],none⟩, ⟨some 15,.mov false (.tmp 14),none⟩, ⟨some 16,.load false true 4 (.tmp 3),some (15, false)⟩, ⟨some 17,.call (.lit (.fn 13 [])) [(.tmp 16)],some (15, false)⟩, ⟨some 18,.bin .neq (.tmp 17) (.lit (.int .i64 0)),some (15, false)⟩]
def q3_1_1 : List MOper := [⟨some 19,.pick (.tmp 15) (.lit (.bool true)) (.tmp 18),none⟩, ⟨some 20,.mov false (.tmp 19),none⟩, ⟨some 21,.fieldAddr 3 (.tmp 3),some (20, false)⟩, ⟨some 22,.load false false 1 (.tmp 21),some (20, false)⟩, ⟨some 23,.pick (.tmp 20) (.lit (.bool true)) (.tmp 22),none⟩, ⟨some 24,.mov false (.tmp 23),none⟩]
def q3_1_2 : List MOper := [⟨some 25,.fieldAddr 2 (.tmp 3),some (24, false)⟩, ⟨some 26,.load false false 1 (.tmp 25),some (24, false)⟩, ⟨some 27,.bin .geq (.tmp 26) (.lit (.int .i64 0)),some (24, false)⟩, ⟨some 28,.pick (.tmp 24) (.lit (.bool true)) (.tmp 27),none⟩, ⟨some 29,.mov false (.tmp 28),none⟩, ⟨some 30,.mov false (.tmp 1),some (29, false)⟩]
def q3_1_3 : List MOper := [⟨some 31,.call (.lit (.fn 14 [])) [(.tmp 30)],some (29, false)⟩, ⟨some 32,.un .not (.tmp 31),some (29, false)⟩, ⟨some 33,.pick (.tmp 29) (.lit (.bool true)) (.tmp 32),none⟩, ⟨some 34,.mov false (.tmp 33),none⟩, ⟨some 35,.mov false (.tmp 2),some (34, false)⟩, ⟨some 36,.len true (.tmp 35),some (34, false)⟩]
def q3_1_4 : List MOper := [⟨some 37,.bin .eql (.tmp 36) (.lit (.int .i64 0)),some (34, false)⟩, ⟨some 38,.pick (.tmp 34) (.lit (.bool true)) (.tmp 37),none⟩, ⟨some 39,.mov false (.tmp 38),none⟩, ⟨some 40,.mov false (.tmp 2),some (39, false)⟩, ⟨some 41,.len true (.tmp 40),some (39, false)⟩, ⟨some 42,.bin .gtr (.tmp 41) (.lit (.int .i64 131072)),some (39, false)⟩]
def q3_1_5 : List MOper := [⟨some 43,.pick (.tmp 39) (.lit (.bool true)) (.tmp 42),none⟩]
def r3_1 : MCode := .region 1 (q3_1_0 ++ (q3_1_1 ++ (q3_1_2 ++ (q3_1_3 ++ (q3_1_4 ++ q3_1_5))))) false [1, 2, 3, 43]
theorem x3_1 : exec run esc l base r3_1 e σ = (stepOps run esc base q3_1_0 e σ).bind fun x => (stepOps run esc base q3_1_1 x.1 x.2).bind fun x => (stepOps run esc base q3_1_2 x.1 x.2).bind fun x => (stepOps run esc base q3_1_3 x.1 x.2).bind fun x => (stepOps run esc base q3_1_4 x.1 x.2).bind fun x => (stepOps run esc base q3_1_5 x.1 x.2).bind (Zk [1, 2, 3, 43] base) := by simp only [r3_1, regN, regA, Option.bind_assoc]
def q3_2_0 : List MOper := [⟨some 44,.call (.lit (.fn 15 [])) [],none⟩, ⟨some 6,.mov false (.tmp 44),none⟩]
def r3_2 : MCode := .region 2 q3_2_0 false [6]
theorem x3_2 : exec run esc l base r3_2 e σ = (stepOps run esc base q3_2_0 e σ).bind (Zk [6] base) := rfl
def q3_3_0 : List MOper := [⟨some 46,.load false true 4 (.tmp 3),none⟩, ⟨some 47,.mov false (.tmp 1),none⟩, ⟨some 48,.call (.lit (.fn 16 [])) [(.tmp 46), (.tmp 47)],none⟩, ⟨some 45,.mov false (.tmp 48),none⟩, ⟨some 49,.extract 0 (.tmp 45),none⟩, ⟨some 50,.extract 1 (.tmp 45),none⟩]
def q3_3_1 : List MOper := [⟨some 7,.alloc [(.str []), (.str []), (.int .i64 0)],none⟩, ⟨none,.store 3 (.tmp 7) (.tmp 49),none⟩, ⟨some 8,.mov false (.tmp 50),none⟩]
def r3_3 : MCode := .region 3 (q3_3_0 ++ q3_3_1) false [1, 2, 3, 7]
theorem x3_3 : exec run esc l base r3_3 e σ = (stepOps run esc base q3_3_0 e σ).bind fun x => (stepOps run esc base q3_3_1 x.1 x.2).bind (Zk [1, 2, 3, 7] base) := reg2
def q3_4_0 : List MOper := [⟨some 52,.load false true 4 (.tmp 3),none⟩, ⟨some 53,.mov false (.tmp 1),none⟩, ⟨some 54,.mov false (.tmp 2),none⟩, ⟨some 55,.callc (.lit (.fn 18 [])) [(.tmp 53), (.tmp 54)],none⟩, ⟨some 56,.callc (.lit (.fn 17 [])) [(.tmp 52), (.tmp 55)],none⟩, ⟨some 51,.mov false (.tmp 56),none⟩]
def q3_4_1 : List MOper := [⟨some 57,.extractn 0 (.tmp 51),none⟩, ⟨some 58,.extractn 1 (.tmp 51),none⟩, ⟨some 9,.alloc [(.slice true []), (.int .i64 0), (.int .i64 0), (.bool false)],none⟩, ⟨none,.store 4 (.tmp 9) (.tmp 57),none⟩, ⟨some 10,.mov false (.tmp 58),none⟩]
def r3_4 : MCode := .region 4 (q3_4_0 ++ q3_4_1) true [1, 2, 3, 7, 9, 10]
theorem x3_4 : exec run esc l base r3_4 e σ = (stepOps run esc base q3_4_0 e σ).bind fun x => (stepOps run esc base q3_4_1 x.1 x.2).bind (Zk [1, 2, 3, 7, 9, 10] base) := reg2
def q3_5_0 : List MOper := [⟨some 59,.load false true 4 (.tmp 3),none⟩, ⟨some 60,.callr (.lit (.fn 19 [])) [(.tmp 59)],none⟩, ⟨some 61,.mov false (.tmp 2),none⟩, ⟨some 62,.len true (.tmp 61),none⟩, ⟨some 63,.bin .add (.tmp 60) (.tmp 62),none⟩, ⟨some 64,.fieldAddr 1 (.tmp 3),none⟩]
def q3_5_1 : List MOper := [⟨some 65,.load false false 1 (.tmp 64),none⟩, ⟨some 66,.bin .gtr (.tmp 63) (.tmp 65),none⟩, ⟨some 67,.mov false (.tmp 66),none⟩, ⟨some 68,.fieldAddr 1 (.tmp 7),some (67, false)⟩, ⟨some 69,.load false false 1 (.tmp 68),some (67, false)⟩, ⟨some 70,.bin .eql (.tmp 69) (.lit (.str [])),some (67, false)⟩]
def q3_5_2 : List MOper := [⟨some 71,.mov false (.tmp 70),some (67, false)⟩, ⟨some 72,.fieldAddr 0 (.tmp 3),some (71, true)⟩, ⟨some 73,.load false false 1 (.tmp 72),some (71, true)⟩, ⟨some 74,.len false (.tmp 73),some (71, true)⟩, ⟨some 75,.bin .eql (.tmp 74) (.lit (.int .i64 64)),some (71, true)⟩, ⟨some 76,.pick (.tmp 71) (.tmp 75) (.lit (.bool false)),some (67, false)⟩]
def q3_5_3 : List MOper := [⟨some 77,.pick (.tmp 67) (.lit (.bool true)) (.tmp 76),none⟩]
def r3_5 : MCode := .region 5 (q3_5_0 ++ (q3_5_1 ++ (q3_5_2 ++ q3_5_3))) true [1, 2, 3, 7, 9, 10, 77]
theorem x3_5 : exec run esc l base r3_5 e σ = (stepOps run esc base q3_5_0 e σ).bind fun x => (stepOps run esc base q3_5_1 x.1 x.2).bind fun x => (stepOps run esc base q3_5_2 x.1 x.2).bind fun x => (stepOps run esc base q3_5_3 x.1 x.2).bind (Zk [1, 2, 3, 7, 9, 10, 77] base) := by simp only [r3_5, regN, regA, Option.bind_assoc]
def q3_6_0 : List MOper := [⟨some 78,.mov false (.tmp 10),none⟩, ⟨some 79,.bin .eql (.tmp 78) (.lit (.int .i64 31)),none⟩, ⟨some 80,.mov false (.tmp 79),none⟩, ⟨some 81,.mov false (.tmp 10),some (80, false)⟩, ⟨some 82,.bin .eql (.tmp 81) (.lit (.int .i64 3)),some (80, false)⟩, ⟨some 83,.pick (.tmp 80) (.lit (.bool true)) (.tmp 82),none⟩]
def q3_6_1 : List MOper := [⟨some 84,.mov false (.tmp 83),none⟩, ⟨some 85,.fieldAddr 0 (.tmp 9),some (84, true)⟩, ⟨some 86,.load false false 1 (.tmp 85),some (84, true)⟩, ⟨some 87,.len false (.tmp 86),some (84, true)⟩, ⟨some 88,.bin .eql (.tmp 87) (.lit (.int .i64 0)),some (84, true)⟩, ⟨some 89,.pick (.tmp 84) (.tmp 88) (.lit (.bool false)),none⟩]
def q3_6_2 : List MOper := [⟨some 90,.mov false (.tmp 89),none⟩, ⟨some 91,.call (.lit (.fn 15 [])) [],some (90, true)⟩, ⟨some 92,.pick (.tmp 90) (.tmp 91) (.lit (.bool false)),none⟩, ⟨some 6,.mov false (.tmp 92),none⟩]
def r3_6 : MCode := .region 6 (q3_6_0 ++ (q3_6_1 ++ q3_6_2)) false [6]
theorem x3_6 : exec run esc l base r3_6 e σ = (stepOps run esc base q3_6_0 e σ).bind fun x => (stepOps run esc base q3_6_1 x.1 x.2).bind fun x => (stepOps run esc base q3_6_2 x.1 x.2).bind (Zk [6] base) := by simp only [r3_6, regN, regA, Option.bind_assoc]
def q3_7_0 : List MOper := [⟨some 94,.load false true 4 (.tmp 9),none⟩, ⟨some 95,.mov false (.tmp 1),none⟩, ⟨some 96,.call (.lit (.fn 16 [])) [(.tmp 94), (.tmp 95)],none⟩, ⟨some 93,.mov false (.tmp 96),none⟩, ⟨some 97,.extract 0 (.tmp 93),none⟩, ⟨some 98,.extract 1 (.tmp 93),none⟩]
def q3_7_1 : List MOper := [⟨some 11,.alloc [(.str []), (.str []), (.int .i64 0)],none⟩, ⟨none,.store 3 (.tmp 11) (.tmp 97),none⟩, ⟨some 12,.mov false (.tmp 98),none⟩]
def r3_7 : MCode := .region 7 (q3_7_0 ++ q3_7_1) false [2, 3, 7, 9, 10, 11, 12]
theorem x3_7 : exec run esc l base r3_7 e σ = (stepOps run esc base q3_7_0 e σ).bind fun x => (stepOps run esc base q3_7_1 x.1 x.2).bind (Zk [2, 3, 7, 9, 10, 11, 12] base) := reg2
def q3_8_0 : List MOper := [⟨some 99,.mov false (.tmp 10),none⟩, ⟨some 100,.bin .eql (.tmp 99) (.lit (.int .i64 0)),none⟩, ⟨some 101,.mov false (.tmp 100),none⟩, ⟨some 102,.mov false (.tmp 12),some (101, true)⟩, ⟨some 103,.pick (.tmp 101) (.tmp 102) (.lit (.bool false)),none⟩, ⟨some 104,.mov false (.tmp 103),none⟩]
def q3_8_1 : List MOper := [⟨some 105,.fieldAddr 1 (.tmp 11),some (104, true)⟩, ⟨some 106,.load false false 1 (.tmp 105),some (104, true)⟩, ⟨some 107,.fieldAddr 1 (.tmp 7),some (104, true)⟩, ⟨some 108,.load false false 1 (.tmp 107),some (104, true)⟩, ⟨some 109,.mov false (.tmp 2),some (104, true)⟩, ⟨some 110,.bin .add (.tmp 108) (.tmp 109),some (104, true)⟩]
def q3_8_2 : List MOper := [⟨some 111,.bin .eql (.tmp 106) (.tmp 110),some (104, true)⟩, ⟨some 112,.pick (.tmp 104) (.tmp 111) (.lit (.bool false)),none⟩, ⟨some 113,.mov false (.tmp 112),none⟩, ⟨some 114,.fieldAddr 2 (.tmp 11),some (113, true)⟩, ⟨some 115,.load false false 1 (.tmp 114),some (113, true)⟩, ⟨some 116,.fieldAddr 2 (.tmp 7),some (113, true)⟩]
def q3_8_3 : List MOper := [⟨some 117,.load false false 1 (.tmp 116),some (113, true)⟩, ⟨some 118,.bin .eql (.tmp 115) (.tmp 117),some (113, true)⟩, ⟨some 119,.pick (.tmp 113) (.tmp 118) (.lit (.bool false)),none⟩, ⟨some 120,.mov false (.tmp 119),none⟩, ⟨some 121,.load false true 4 (.tmp 9),some (120, true)⟩, ⟨some 122,.callr (.lit (.fn 19 [])) [(.tmp 121)],some (120, true)⟩]
def q3_8_4 : List MOper := [⟨some 123,.load false true 4 (.tmp 3),some (120, true)⟩, ⟨some 124,.callr (.lit (.fn 19 [])) [(.tmp 123)],some (120, true)⟩, ⟨some 125,.mov false (.tmp 2),some (120, true)⟩, ⟨some 126,.len true (.tmp 125),some (120, true)⟩, ⟨some 127,.bin .add (.tmp 124) (.tmp 126),some (120, true)⟩, ⟨some 128,.bin .eql (.tmp 122) (.tmp 127),some (120, true)⟩]
def q3_8_5 : List MOper := [⟨some 129,.pick (.tmp 120) (.tmp 128) (.lit (.bool false)),none⟩, ⟨some 130,.mov false (.tmp 129),none⟩, ⟨some 131,.callr (.lit (.fn 15 [])) [],some (130, true)⟩, ⟨some 132,.pick (.tmp 130) (.tmp 131) (.lit (.bool false)),none⟩, ⟨some 6,.mov false (.tmp 132),none⟩]
def r3_8 : MCode := .region 8 (q3_8_0 ++ (q3_8_1 ++ (q3_8_2 ++ (q3_8_3 ++ (q3_8_4 ++ q3_8_5))))) true [6]
theorem x3_8 : exec run esc l base r3_8 e σ = (stepOps run esc base q3_8_0 e σ).bind fun x => (stepOps run esc base q3_8_1 x.1 x.2).bind fun x => (stepOps run esc base q3_8_2 x.1 x.2).bind fun x => (stepOps run esc base q3_8_3 x.1 x.2).bind fun x => (stepOps run esc base q3_8_4 x.1 x.2).bind fun x => (stepOps run esc base q3_8_5 x.1 x.2).bind (Zk [6] base) := by simp only [r3_8, regN, regA, Option.bind_assoc]
def m3 : MFunc := ⟨(.seq r3_0 (.seq (.seq r3_1 (.cond (.tmp 43) (.seq r3_2 .ret) .skip)) (.seq r3_3 (.seq r3_4 (.seq (.seq r3_5 (.cond (.tmp 77) (.seq r3_6 .ret) .skip)) (.seq r3_7 (.seq r3_8 .ret))))))), [.tmp 6], false, false⟩
def q5_0_0 : List MOper := [⟨some 4,.mov false (.lit (.bool false)),none⟩]
def r5_0 : MCode := .region 0 q5_0_0 false [0, 1]
theorem x5_0 : exec run esc l base r5_0 e σ = (stepOps run esc base q5_0_0 e σ).bind (Zk [0, 1] base) := rfl
def q5_1_0 : List MOper := [⟨some 15,.mov false (.tmp 0),none⟩, ⟨some 16,.call (.lit (.fn 23 [])) [(.tmp 15)],none⟩]
def r5_1 : MCode := .region 1 q5_1_0 false [0, 1, 16]
theorem x5_1 : exec run esc l base r5_1 e σ = (stepOps run esc base q5_1_0 e σ).bind (Zk [0, 1, 16] base) := rfl
def q5_2_0 : List MOper := [⟨some 17,.call (.lit (.fn 15 [])) [],none⟩, ⟨some 4,.mov false (.tmp 17),none⟩]
def r5_2 : MCode := .region 2 q5_2_0 false [4]
theorem x5_2 : exec run esc l base r5_2 e σ = (stepOps run esc base q5_2_0 e σ).bind (Zk [4] base) := rfl
def q5_3_0 : List MOper := [⟨some 18,.mov false (.tmp 1),none⟩, ⟨some 19,.bin .rem (.tmp 18) (.lit (.int .i64 50)),none⟩, ⟨some 20,.bin .add (.tmp 19) (.lit (.int .i64 50)),none⟩, ⟨some 21,.bin .rem (.tmp 20) (.lit (.int .i64 50)),none⟩, ⟨some 1,.mov false (.tmp 21),none⟩]
def r5_3 : MCode := .region 3 q5_3_0 false [0, 1]
theorem x5_3 : exec run esc l base r5_3 e σ = (stepOps run esc base q5_3_0 e σ).bind (Zk [0, 1] base) := rfl
def q5_4_0 : List MOper := [⟨some 23,.call (.lit (.fn 21 [])) [(.lit (.int .i64 65536))],none⟩, ⟨some 22,.mov false (.tmp 23),none⟩, ⟨some 24,.extract 0 (.tmp 22),none⟩, ⟨some 25,.extract 1 (.tmp 22),none⟩, ⟨some 5,.alloc [(.slice true []), (.int .i64 0), (.int .i64 0), (.bool false)],none⟩, ⟨none,.store 4 (.tmp 5) (.tmp 24),none⟩]
def q5_4_1 : List MOper := [⟨some 6,.mov false (.tmp 25),none⟩]
def r5_4 : MCode := .region 4 (q5_4_0 ++ q5_4_1) false [0, 1, 5, 6]
theorem x5_4 : exec run esc l base r5_4 e σ = (stepOps run esc base q5_4_0 e σ).bind fun x => (stepOps run esc base q5_4_1 x.1 x.2).bind (Zk [0, 1, 5, 6] base) := reg2
def q5_5_0 : List MOper := [⟨some 27,.load false true 4 (.tmp 5),none⟩, ⟨some 28,.mov false (.tmp 1),none⟩, ⟨some 29,.call (.lit (.fn 24 [])) [(.tmp 27), (.tmp 28)],none⟩, ⟨some 26,.mov false (.tmp 29),none⟩, ⟨some 30,.extract 0 (.tmp 26),none⟩, ⟨some 31,.extract 1 (.tmp 26),none⟩]
def q5_5_1 : List MOper := [⟨none,.store 4 (.tmp 5) (.tmp 30),none⟩, ⟨some 7,.mov false (.tmp 31),none⟩]
def r5_5 : MCode := .region 5 (q5_5_0 ++ q5_5_1) false [0, 1, 5, 6, 7]
theorem x5_5 : exec run esc l base r5_5 e σ = (stepOps run esc base q5_5_0 e σ).bind fun x => (stepOps run esc base q5_5_1 x.1 x.2).bind (Zk [0, 1, 5, 6, 7] base) := reg2
def q5_6_0 : List MOper := [⟨some 32,.mov false (.tmp 6),none⟩, ⟨some 33,.bin .neq (.tmp 32) (.lit (.int .i64 0)),none⟩, ⟨some 34,.mov false (.tmp 33),none⟩, ⟨some 35,.mov false (.tmp 7),some (34, false)⟩, ⟨some 36,.bin .neq (.tmp 35) (.lit (.int .i64 0)),some (34, false)⟩, ⟨some 37,.pick (.tmp 34) (.lit (.bool true)) (.tmp 36),none⟩]
def r5_6 : MCode := .region 6 q5_6_0 false [0, 1, 5, 37]
theorem x5_6 : exec run esc l base r5_6 e σ = (stepOps run esc base q5_6_0 e σ).bind (Zk [0, 1, 5, 37] base) := rfl
def q5_7_0 : List MOper := [⟨some 4,.mov false (.lit (.bool false)),none⟩]
def r5_7 : MCode := .region 7 q5_7_0 false [4]
theorem x5_7 : exec run esc l base r5_7 e σ = (stepOps run esc base q5_7_0 e σ).bind (Zk [4] base) := rfl
def q5_8_0 : List MOper := [⟨some 8,.mov false (.lit (.int .i64 0)),none⟩]
def r5_8 : MCode := .region 8 q5_8_0 false [0, 1, 5, 8]
theorem x5_8 : exec run esc l base r5_8 e σ = (stepOps run esc base q5_8_0 e σ).bind (Zk [0, 1, 5, 8] base) := rfl
def q5_9_0 : List MOper := [⟨some 38,.mov false (.tmp 0),none⟩, ⟨some 39,.len false (.tmp 38),none⟩, ⟨some 40,.mov false (.lit (.int .i64 0)),none⟩]
def r5_9 : MCode := .region 9 q5_9_0 false [1, 5, 8, 38, 39, 40]
theorem x5_9 : exec run esc l base r5_9 e σ = (stepOps run esc base q5_9_0 e σ).bind (Zk [1, 5, 8, 38, 39, 40] base) := rfl
def q5_10_0 : List MOper := [⟨some 41,.bin .lss (.tmp 40) (.tmp 39),none⟩]
def r5_10 : MCode := .region 10 q5_10_0 false [1, 5, 8, 38, 39, 40, 41]
theorem x5_10 : exec run esc l base r5_10 e σ = (stepOps run esc base q5_10_0 e σ).bind (Zk [1, 5, 8, 38, 39, 40, 41] base) := rfl
def q5_11_0 : List MOper := [⟨some 42,.index 4 (.tmp 38) (.tmp 40),none⟩, ⟨some 43,.load false true 4 (.tmp 42),none⟩, ⟨some 10,.alloc [(.int .i8 0), (.str []), (.str []), (.int .i64 0)],none⟩, ⟨none,.store 4 (.tmp 10) (.tmp 43),none⟩]
def r5_11 : MCode := .region 11 q5_11_0 false [1, 5, 8, 10, 38, 39, 40]
theorem x5_11 : exec run esc l base r5_11 e σ = (stepOps run esc base q5_11_0 e σ).bind (Zk [1, 5, 8, 10, 38, 39, 40] base) := rfl
def q5_12_0 : List MOper := [⟨some 45,.load false true 4 (.tmp 5),none⟩, ⟨some 46,.load false true 4 (.tmp 10),none⟩, ⟨some 47,.call (.lit (.fn 17 [])) [(.tmp 45), (.tmp 46)],none⟩, ⟨some 44,.mov false (.tmp 47),none⟩, ⟨some 48,.extract 0 (.tmp 44),none⟩, ⟨some 49,.extract 1 (.tmp 44),none⟩]
def q5_12_1 : List MOper := [⟨some 11,.alloc [(.slice true []), (.int .i64 0), (.int .i64 0), (.bool false)],none⟩, ⟨none,.store 4 (.tmp 11) (.tmp 48),none⟩, ⟨some 12,.mov false (.tmp 49),none⟩]
def r5_12 : MCode := .region 12 (q5_12_0 ++ q5_12_1) false [1, 5, 8, 11, 12, 38, 39, 40]
theorem x5_12 : exec run esc l base r5_12 e σ = (stepOps run esc base q5_12_0 e σ).bind fun x => (stepOps run esc base q5_12_1 x.1 x.2).bind (Zk [1, 5, 8, 11, 12, 38, 39, 40] base) := reg2
def q5_13_0 : List MOper := [⟨some 50,.mov false (.tmp 12),none⟩, ⟨some 51,.bin .eql (.tmp 50) (.lit (.int .i64 30)),none⟩]
def r5_13 : MCode := .region 13 q5_13_0 false [1, 5, 8, 11, 12, 38, 39, 40, 51]
theorem x5_13 : exec run esc l base r5_13 e σ = (stepOps run esc base q5_13_0 e σ).bind (Zk [1, 5, 8, 11, 12, 38, 39, 40, 51] base) := rfl
def q5_14_0 : List MOper := [⟨some 52,.mov false (.tmp 8),none⟩, ⟨some 53,.mov false (.tmp 1),none⟩, ⟨some 54,.bin .neq (.tmp 52) (.tmp 53),none⟩, ⟨some 55,.mov false (.tmp 54),none⟩, ⟨some 56,.fieldAddr 3 (.tmp 11),some (55, false)⟩, ⟨some 57,.load false false 1 (.tmp 56),some (55, false)⟩]
def q5_14_1 : List MOper := [⟨some 58,.un .not (.tmp 57),some (55, false)⟩, ⟨some 59,.mov false (.tmp 58),some (55, false)⟩, ⟨some 60,.fieldAddr 3 (.tmp 5),some (59, true)⟩, ⟨some 61,.load false false 1 (.tmp 60),some (59, true)⟩, ⟨some 62,.un .not (.tmp 61),some (59, true)⟩, ⟨some 63,.pick (.tmp 59) (.tmp 62) (.lit (.bool false)),some (55, false)⟩]
def q5_14_2 : List MOper := [⟨some 64,.pick (.tmp 55) (.lit (.bool true)) (.tmp 63),none⟩]
def r5_14 : MCode := .region 14 (q5_14_0 ++ (q5_14_1 ++ q5_14_2)) false [1, 5, 8, 11, 38, 39, 40, 64]
theorem x5_14 : exec run esc l base r5_14 e σ = (stepOps run esc base q5_14_0 e σ).bind fun x => (stepOps run esc base q5_14_1 x.1 x.2).bind fun x => (stepOps run esc base q5_14_2 x.1 x.2).bind (Zk [1, 5, 8, 11, 38, 39, 40, 64] base) := by simp only [r5_14, regN, regA, Option.bind_assoc]
def q5_15_0 : List MOper := [⟨some 4,.mov false (.lit (.bool false)),none⟩]
def r5_15 : MCode := .region 15 q5_15_0 false [4]
theorem x5_15 : exec run esc l base r5_15 e σ = (stepOps run esc base q5_15_0 e σ).bind (Zk [4] base) := rfl
def q5_16_0 : List MOper := [⟨some 65,.fieldAddr 3 (.tmp 11),none⟩, ⟨some 66,.load false false 1 (.tmp 65),none⟩]
def r5_16 : MCode := .region 16 q5_16_0 false [1, 5, 8, 11, 38, 39, 40, 66]
theorem x5_16 : exec run esc l base r5_16 e σ = (stepOps run esc base q5_16_0 e σ).bind (Zk [1, 5, 8, 11, 38, 39, 40, 66] base) := rfl
def q5_17_0 : List MOper := [⟨some 67,.load false true 4 (.tmp 11),none⟩, ⟨none,.store 4 (.tmp 5) (.tmp 67),none⟩]
def r5_17 : MCode := .region 17 q5_17_0 false [1, 5, 8, 38, 39, 40]
theorem x5_17 : exec run esc l base r5_17 e σ = (stepOps run esc base q5_17_0 e σ).bind (Zk [1, 5, 8, 38, 39, 40] base) := rfl
def q5_18_0 : List MOper := [⟨some 68,.mov false (.tmp 12),none⟩, ⟨some 69,.bin .eql (.tmp 68) (.lit (.int .i64 0)),none⟩]
def r5_18 : MCode := .region 18 q5_18_0 false [1, 5, 8, 11, 38, 39, 40, 69]
theorem x5_18 : exec run esc l base r5_18 e σ = (stepOps run esc base q5_18_0 e σ).bind (Zk [1, 5, 8, 11, 38, 39, 40, 69] base) := rfl
def q5_19_0 : List MOper := [⟨some 70,.mov false (.tmp 8),none⟩, ⟨some 71,.mov false (.tmp 1),none⟩, ⟨some 72,.bin .geq (.tmp 70) (.tmp 71),none⟩, ⟨some 73,.mov false (.tmp 72),none⟩, ⟨some 74,.fieldAddr 3 (.tmp 5),some (73, false)⟩, ⟨some 75,.load false false 1 (.tmp 74),some (73, false)⟩]
def q5_19_1 : List MOper := [⟨some 76,.pick (.tmp 73) (.lit (.bool true)) (.tmp 75),none⟩]
def r5_19 : MCode := .region 19 (q5_19_0 ++ q5_19_1) false [1, 5, 8, 11, 38, 39, 40, 76]
theorem x5_19 : exec run esc l base r5_19 e σ = (stepOps run esc base q5_19_0 e σ).bind fun x => (stepOps run esc base q5_19_1 x.1 x.2).bind (Zk [1, 5, 8, 11, 38, 39, 40, 76] base) := reg2
def q5_20_0 : List MOper := [⟨some 4,.mov false (.lit (.bool false)),none⟩]
def r5_20 : MCode := .region 20 q5_20_0 false [4]
theorem x5_20 : exec run esc l base r5_20 e σ = (stepOps run esc base q5_20_0 e σ).bind (Zk [4] base) := rfl
def q5_21_0 : List MOper := [⟨some 77,.mov false (.tmp 8),none⟩, ⟨some 78,.bin .add (.tmp 77) (.lit (.int .i64 1)),none⟩, ⟨some 8,.mov false (.tmp 78),none⟩]
def r5_21 : MCode := .region 21 q5_21_0 false [1, 5, 8, 11, 38, 39, 40]
theorem x5_21 : exec run esc l base r5_21 e σ = (stepOps run esc base q5_21_0 e σ).bind (Zk [1, 5, 8, 11, 38, 39, 40] base) := rfl
def q5_22_0 : List MOper := [⟨some 79,.load false true 4 (.tmp 11),none⟩, ⟨none,.store 4 (.tmp 5) (.tmp 79),none⟩]
def r5_22 : MCode := .region 22 q5_22_0 false [1, 5, 8, 38, 39, 40]
theorem x5_22 : exec run esc l base r5_22 e σ = (stepOps run esc base q5_22_0 e σ).bind (Zk [1, 5, 8, 38, 39, 40] base) := rfl
def q5_23_0 : List MOper := [⟨some 80,.bin .add (.tmp 40) (.lit (.int .i64 1)),none⟩, ⟨some 40,.mov false (.tmp 80),none⟩]
def r5_23 : MCode := .region 23 q5_23_0 false [1, 5, 8, 38, 39, 40]
theorem x5_23 : exec run esc l base r5_23 e σ = (stepOps run esc base q5_23_0 e σ).bind (Zk [1, 5, 8, 38, 39, 40] base) := rfl
def l5_0 : MCode := (.seq r5_10 (.seq (.cond (.tmp 41) .skip (.exit 0)) (.seq (.block 1 (.seq r5_11 (.seq r5_12 (.seq (.seq r5_13 (.cond (.tmp 51) (.seq (.seq r5_14 (.cond (.tmp 64) (.seq r5_15 .ret) .skip)) (.seq (.seq r5_16 (.cond (.tmp 66) r5_17 .skip)) (.exit 1))) .skip)) (.seq r5_18 (.cond (.tmp 69) (.seq (.seq r5_19 (.cond (.tmp 76) (.seq r5_20 .ret) .skip)) (.seq r5_21 r5_22)) .skip)))))) r5_23)))
def q5_24_0 : List MOper := [⟨some 82,.load false true 4 (.tmp 5),none⟩, ⟨some 83,.call (.lit (.fn 25 [])) [(.tmp 82), (.lit (.slice true []))],none⟩, ⟨some 81,.mov false (.tmp 83),none⟩, ⟨some 84,.extract 0 (.tmp 81),none⟩, ⟨some 85,.extract 1 (.tmp 81),none⟩, ⟨some 13,.alloc [(.slice true []), (.int .i64 0), (.int .i64 0), (.bool false)],none⟩]
def q5_24_1 : List MOper := [⟨none,.store 4 (.tmp 13) (.tmp 84),none⟩, ⟨some 14,.mov false (.tmp 85),none⟩]
def r5_24 : MCode := .region 24 (q5_24_0 ++ q5_24_1) false [1, 5, 8, 13, 14]
theorem x5_24 : exec run esc l base r5_24 e σ = (stepOps run esc base q5_24_0 e σ).bind fun x => (stepOps run esc base q5_24_1 x.1 x.2).bind (Zk [1, 5, 8, 13, 14] base) := reg2
def q5_25_0 : List MOper := [⟨some 86,.mov false (.tmp 14),none⟩, ⟨some 87,.bin .eql (.tmp 86) (.lit (.int .i64 0)),none⟩, ⟨some 88,.mov false (.tmp 87),none⟩, ⟨some 89,.fieldAddr 3 (.tmp 13),some (88, true)⟩, ⟨some 90,.load false false 1 (.tmp 89),some (88, true)⟩, ⟨some 91,.un .not (.tmp 90),some (88, true)⟩]
def q5_25_1 : List MOper := [⟨some 92,.pick (.tmp 88) (.tmp 91) (.lit (.bool false)),none⟩, ⟨some 93,.mov false (.tmp 92),none⟩, ⟨some 94,.fieldAddr 2 (.tmp 13),some (93, true)⟩, ⟨some 95,.load false false 1 (.tmp 94),some (93, true)⟩, ⟨some 96,.bin .eql (.tmp 95) (.lit (.int .i64 (-1))),some (93, true)⟩, ⟨some 97,.pick (.tmp 93) (.tmp 96) (.lit (.bool false)),none⟩]
def q5_25_2 : List MOper := [⟨some 98,.mov false (.tmp 97),none⟩, ⟨some 99,.fieldAddr 3 (.tmp 5),some (98, true)⟩, ⟨some 100,.load false false 1 (.tmp 99),some (98, true)⟩, ⟨some 101,.mov false (.tmp 100),some (98, true)⟩, ⟨some 102,.fieldAddr 2 (.tmp 5),some (101, false)⟩, ⟨some 103,.load false false 1 (.tmp 102),some (101, false)⟩]
def q5_25_3 : List MOper := [⟨some 104,.mov false (.tmp 1),some (101, false)⟩, ⟨some 105,.mov false (.tmp 8),some (101, false)⟩, ⟨some 106,.bin .sub (.tmp 104) (.tmp 105),some (101, false)⟩, ⟨some 107,.bin .eql (.tmp 103) (.tmp 106),some (101, false)⟩, ⟨some 108,.pick (.tmp 101) (.lit (.bool true)) (.tmp 107),some (98, true)⟩, ⟨some 109,.pick (.tmp 98) (.tmp 108) (.lit (.bool false)),none⟩]
def q5_25_4 : List MOper := [⟨some 110,.mov false (.tmp 109),none⟩, ⟨some 111,.call (.lit (.fn 15 [])) [],some (110, true)⟩, ⟨some 112,.pick (.tmp 110) (.tmp 111) (.lit (.bool false)),none⟩, ⟨some 4,.mov false (.tmp 112),none⟩]
def r5_25 : MCode := .region 25 (q5_25_0 ++ (q5_25_1 ++ (q5_25_2 ++ (q5_25_3 ++ q5_25_4)))) false [4]
theorem x5_25 : exec run esc l base r5_25 e σ = (stepOps run esc base q5_25_0 e σ).bind fun x => (stepOps run esc base q5_25_1 x.1 x.2).bind fun x => (stepOps run esc base q5_25_2 x.1 x.2).bind fun x => (stepOps run esc base q5_25_3 x.1 x.2).bind fun x => (stepOps run esc base q5_25_4 x.1 x.2).bind (Zk [4] base) := by simp only [r5_25, regN, regA, Option.bind_assoc]
def m5 : MFunc := ⟨(.seq r5_0 (.seq (.seq r5_1 (.cond (.tmp 16) (.seq r5_2 .ret) .skip)) (.seq r5_3 (.seq r5_4 (.seq r5_5 (.seq (.seq r5_6 (.cond (.tmp 37) (.seq r5_7 .ret) .skip)) (.seq r5_8 (.seq (.seq r5_9 (.block 0 (.loop l5_0))) (.seq r5_24 (.seq r5_25 .ret)))))))))), [.tmp 4], false, false⟩
def q6_0_0 : List MOper := [⟨some 3,.box 4 (.tmp 0),none⟩, ⟨some 4,.box 4 (.tmp 1),none⟩, ⟨some 5,.box 4 (.tmp 2),none⟩, ⟨some 6,.mov false (.lit (.bool false)),none⟩]
def r6_0 : MCode := .region 0 q6_0_0 false [3, 4, 5]
theorem x6_0 : exec run esc l base r6_0 e σ = (stepOps run esc base q6_0_0 e σ).bind (Zk [3, 4, 5] base) := rfl
def q6_1_0 : List MOper := [⟨some 15,.load false true 4 (.tmp 3),none⟩, ⟨some 16,.callr (.lit (.fn 12 [])) [(.tmp 15)],none⟩, ⟨some 17,.mov false (.tmp 16),none⟩, ⟨some 18,.load false true 4 (.tmp 4),some (17, false)⟩, ⟨some 19,.load false true 4 (.tmp 5),some (17, false)⟩, ⟨some 20,.buildSlice 4 [(.tmp 18), (.tmp 19)],some (17, false)⟩]
def q6_1_1 : List MOper := [⟨some 21,.callr (.lit (.fn 23 [])) [(.tmp 20)],some (17, false)⟩, ⟨some 22,.pick (.tmp 17) (.lit (.bool true)) (.tmp 21),none⟩, ⟨some 23,.mov false (.tmp 22),none⟩, ⟨some 24,.load false true 4 (.tmp 3),some (23, false)⟩, ⟨some 25,.callr (.lit (.fn 13 [])) [(.tmp 24)],some (23, false)⟩, ⟨some 26,.bin .neq (.tmp 25) (.lit (.int .i64 0)),some (23, false)⟩]
def q6_1_2 : List MOper := [⟨some 27,.pick (.tmp 23) (.lit (.bool true)) (.tmp 26),none⟩, ⟨some 28,.mov false (.tmp 27),none⟩, ⟨some 29,.fieldAddr 1 (.tmp 4),some (28, false)⟩, ⟨some 30,.load false false 1 (.tmp 29),some (28, false)⟩, ⟨some 31,.fieldAddr 1 (.tmp 5),some (28, false)⟩, ⟨some 32,.load false false 1 (.tmp 31),some (28, false)⟩]
def q6_1_3 : List MOper := [⟨some 33,.bin .eql (.tmp 30) (.tmp 32),some (28, false)⟩, ⟨some 34,.pick (.tmp 28) (.lit (.bool true)) (.tmp 33),none⟩, ⟨some 35,.mov false (.tmp 34),none⟩, ⟨some 36,.fieldAddr 0 (.tmp 3),some (35, false)⟩, ⟨some 37,.load false false 1 (.tmp 36),some (35, false)⟩, ⟨some 38,.len false (.tmp 37),some (35, false)⟩]
def q6_1_4 : List MOper := [⟨some 39,.bin .gtr (.tmp 38) (.lit (.int .i64 62)),some (35, false)⟩, ⟨some 40,.pick (.tmp 35) (.lit (.bool true)) (.tmp 39),none⟩, ⟨some 41,.mov false (.tmp 40),none⟩, ⟨some 42,.fieldAddr 3 (.tmp 3),some (41, false)⟩, ⟨some 43,.load false false 1 (.tmp 42),some (41, false)⟩, ⟨some 44,.pick (.tmp 41) (.lit (.bool true)) (.tmp 43),none⟩]
def q6_1_5 : List MOper := [⟨some 45,.mov false (.tmp 44),none⟩, ⟨some 46,.fieldAddr 2 (.tmp 3),some (45, false)⟩, ⟨some 47,.load false false 1 (.tmp 46),some (45, false)⟩, ⟨some 48,.bin .geq (.tmp 47) (.lit (.int .i64 0)),some (45, false)⟩, ⟨some 49,.pick (.tmp 45) (.lit (.bool true)) (.tmp 48),none⟩, ⟨some 50,.mov false (.tmp 49),none⟩]
def q6_1_6 : List MOper := [⟨some 51,.load false true 4 (.tmp 3),some (50, false)⟩, ⟨some 52,.callr (.lit (.fn 19 [])) [(.tmp 51)],some (50, false)⟩, ⟨some 53,.fieldAddr 2 (.tmp 4),some (50, false)⟩, ⟨some 54,.load false false 1 (.tmp 53),some (50, false)⟩, ⟨some 55,.len true (.tmp 54),some (50, false)⟩, ⟨some 56,.bin .add (.tmp 52) (.tmp 55),some (50, false)⟩]
def q6_1_7 : List MOper := [⟨some 57,.fieldAddr 2 (.tmp 5),some (50, false)⟩, ⟨some 58,.load false false 1 (.tmp 57),some (50, false)⟩, ⟨some 59,.len true (.tmp 58),some (50, false)⟩, ⟨some 60,.bin .add (.tmp 56) (.tmp 59),some (50, false)⟩, ⟨some 61,.fieldAddr 1 (.tmp 3),some (50, false)⟩, ⟨some 62,.load false false 1 (.tmp 61),some (50, false)⟩]
def q6_1_8 : List MOper := [⟨some 63,.bin .gtr (.tmp 60) (.tmp 62),some (50, false)⟩, ⟨some 64,.pick (.tmp 50) (.lit (.bool true)) (.tmp 63),none⟩]
def r6_1 : MCode := .region 1 (q6_1_0 ++ (q6_1_1 ++ (q6_1_2 ++ (q6_1_3 ++ (q6_1_4 ++ (q6_1_5 ++ (q6_1_6 ++ (q6_1_7 ++ q6_1_8)))))))) true [3, 4, 5, 64]
theorem x6_1 : exec run esc l base r6_1 e σ = (stepOps run esc base q6_1_0 e σ).bind fun x => (stepOps run esc base q6_1_1 x.1 x.2).bind fun x => (stepOps run esc base q6_1_2 x.1 x.2).bind fun x => (stepOps run esc base q6_1_3 x.1 x.2).bind fun x => (stepOps run esc base q6_1_4 x.1 x.2).bind fun x => (stepOps run esc base q6_1_5 x.1 x.2).bind fun x => (stepOps run esc base q6_1_6 x.1 x.2).bind fun x => (stepOps run esc base q6_1_7 x.1 x.2).bind fun x => (stepOps run esc base q6_1_8 x.1 x.2).bind (Zk [3, 4, 5, 64] base) := by simp only [r6_1, regN, regA, Option.bind_assoc]
def q6_2_0 : List MOper := [⟨some 65,.call (.lit (.fn 15 [])) [],none⟩, ⟨some 6,.mov false (.tmp 65),none⟩]
def r6_2 : MCode := .region 2 q6_2_0 false [6]
theorem x6_2 : exec run esc l base r6_2 e σ = (stepOps run esc base q6_2_0 e σ).bind (Zk [6] base) := rfl
def q6_3_0 : List MOper := [⟨some 67,.load false true 4 (.tmp 3),none⟩, ⟨some 68,.load false true 4 (.tmp 4),none⟩, ⟨some 69,.call (.lit (.fn 17 [])) [(.tmp 67), (.tmp 68)],none⟩, ⟨some 66,.mov false (.tmp 69),none⟩, ⟨some 70,.extract 0 (.tmp 66),none⟩, ⟨some 71,.extract 1 (.tmp 66),none⟩]
def q6_3_1 : List MOper := [⟨some 7,.alloc [(.slice true []), (.int .i64 0), (.int .i64 0), (.bool false)],none⟩, ⟨none,.store 4 (.tmp 7) (.tmp 70),none⟩, ⟨some 8,.mov false (.tmp 71),none⟩]
def r6_3 : MCode := .region 3 (q6_3_0 ++ q6_3_1) false [3, 4, 5, 7, 8]
theorem x6_3 : exec run esc l base r6_3 e σ = (stepOps run esc base q6_3_0 e σ).bind fun x => (stepOps run esc base q6_3_1 x.1 x.2).bind (Zk [3, 4, 5, 7, 8] base) := reg2
def q6_4_0 : List MOper := [⟨some 73,.load false true 4 (.tmp 3),none⟩, ⟨some 74,.load false true 4 (.tmp 5),none⟩, ⟨some 75,.call (.lit (.fn 17 [])) [(.tmp 73), (.tmp 74)],none⟩, ⟨some 72,.mov false (.tmp 75),none⟩, ⟨some 76,.extract 0 (.tmp 72),none⟩, ⟨some 77,.extract 1 (.tmp 72),none⟩]
def q6_4_1 : List MOper := [⟨some 9,.alloc [(.slice true []), (.int .i64 0), (.int .i64 0), (.bool false)],none⟩, ⟨none,.store 4 (.tmp 9) (.tmp 76),none⟩, ⟨some 10,.mov false (.tmp 77),none⟩]
def r6_4 : MCode := .region 4 (q6_4_0 ++ q6_4_1) false [4, 5, 7, 8, 9, 10]
theorem x6_4 : exec run esc l base r6_4 e σ = (stepOps run esc base q6_4_0 e σ).bind fun x => (stepOps run esc base q6_4_1 x.1 x.2).bind (Zk [4, 5, 7, 8, 9, 10] base) := reg2
def q6_5_0 : List MOper := [⟨some 78,.mov false (.tmp 8),none⟩, ⟨some 79,.bin .neq (.tmp 78) (.lit (.int .i64 0)),none⟩, ⟨some 80,.mov false (.tmp 79),none⟩, ⟨some 81,.mov false (.tmp 10),some (80, false)⟩, ⟨some 82,.bin .neq (.tmp 81) (.lit (.int .i64 0)),some (80, false)⟩, ⟨some 83,.pick (.tmp 80) (.lit (.bool true)) (.tmp 82),none⟩]
def r6_5 : MCode := .region 5 q6_5_0 false [4, 5, 7, 9, 83]
theorem x6_5 : exec run esc l base r6_5 e σ = (stepOps run esc base q6_5_0 e σ).bind (Zk [4, 5, 7, 9, 83] base) := rfl
def q6_6_0 : List MOper := [⟨some 84,.call (.lit (.fn 15 [])) [],none⟩, ⟨some 6,.mov false (.tmp 84),none⟩]
def r6_6 : MCode := .region 6 q6_6_0 false [6]
theorem x6_6 : exec run esc l base r6_6 e σ = (stepOps run esc base q6_6_0 e σ).bind (Zk [6] base) := rfl
def q6_7_0 : List MOper := [⟨some 86,.load false true 4 (.tmp 7),none⟩, ⟨some 87,.load false true 4 (.tmp 5),none⟩, ⟨some 88,.call (.lit (.fn 17 [])) [(.tmp 86), (.tmp 87)],none⟩, ⟨some 85,.mov false (.tmp 88),none⟩, ⟨some 89,.extract 0 (.tmp 85),none⟩, ⟨some 90,.extract 1 (.tmp 85),none⟩]
def q6_7_1 : List MOper := [⟨some 11,.alloc [(.slice true []), (.int .i64 0), (.int .i64 0), (.bool false)],none⟩, ⟨none,.store 4 (.tmp 11) (.tmp 89),none⟩, ⟨some 12,.mov false (.tmp 90),none⟩]
def r6_7 : MCode := .region 7 (q6_7_0 ++ q6_7_1) false [4, 9, 11, 12]
theorem x6_7 : exec run esc l base r6_7 e σ = (stepOps run esc base q6_7_0 e σ).bind fun x => (stepOps run esc base q6_7_1 x.1 x.2).bind (Zk [4, 9, 11, 12] base) := reg2
def q6_8_0 : List MOper := [⟨some 92,.load false true 4 (.tmp 9),none⟩, ⟨some 93,.load false true 4 (.tmp 4),none⟩, ⟨some 94,.call (.lit (.fn 17 [])) [(.tmp 92), (.tmp 93)],none⟩, ⟨some 91,.mov false (.tmp 94),none⟩, ⟨some 95,.extract 0 (.tmp 91),none⟩, ⟨some 96,.extract 1 (.tmp 91),none⟩]
def q6_8_1 : List MOper := [⟨some 13,.alloc [(.slice true []), (.int .i64 0), (.int .i64 0), (.bool false)],none⟩, ⟨none,.store 4 (.tmp 13) (.tmp 95),none⟩, ⟨some 14,.mov false (.tmp 96),none⟩]
def r6_8 : MCode := .region 8 (q6_8_0 ++ q6_8_1) false [11, 12, 13, 14]
theorem x6_8 : exec run esc l base r6_8 e σ = (stepOps run esc base q6_8_0 e σ).bind fun x => (stepOps run esc base q6_8_1 x.1 x.2).bind (Zk [11, 12, 13, 14] base) := reg2
def q6_9_0 : List MOper := [⟨some 97,.mov false (.tmp 12),none⟩, ⟨some 98,.bin .eql (.tmp 97) (.lit (.int .i64 0)),none⟩, ⟨some 99,.mov false (.tmp 98),none⟩, ⟨some 100,.mov false (.tmp 14),some (99, true)⟩, ⟨some 101,.bin .eql (.tmp 100) (.lit (.int .i64 0)),some (99, true)⟩, ⟨some 102,.pick (.tmp 99) (.tmp 101) (.lit (.bool false)),none⟩]
def q6_9_1 : List MOper := [⟨some 103,.mov false (.tmp 102),none⟩, ⟨some 104,.load false true 4 (.tmp 11),some (103, true)⟩, ⟨some 105,.load false true 4 (.tmp 13),some (103, true)⟩, ⟨some 106,.call (.lit (.fn 26 [])) [(.tmp 104), (.tmp 105)],some (103, true)⟩, ⟨some 107,.pick (.tmp 103) (.tmp 106) (.lit (.bool false)),none⟩, ⟨some 108,.mov false (.tmp 107),none⟩]
def q6_9_2 : List MOper := [⟨some 109,.call (.lit (.fn 15 [])) [],some (108, true)⟩, ⟨some 110,.pick (.tmp 108) (.tmp 109) (.lit (.bool false)),none⟩, ⟨some 6,.mov false (.tmp 110),none⟩]
def r6_9 : MCode := .region 9 (q6_9_0 ++ (q6_9_1 ++ q6_9_2)) false [6]
theorem x6_9 : exec run esc l base r6_9 e σ = (stepOps run esc base q6_9_0 e σ).bind fun x => (stepOps run esc base q6_9_1 x.1 x.2).bind fun x => (stepOps run esc base q6_9_2 x.1 x.2).bind (Zk [6] base) := by simp only [r6_9, regN, regA, Option.bind_assoc]
def m6 : MFunc := ⟨(.seq r6_0 (.seq (.seq r6_1 (.cond (.tmp 64) (.seq r6_2 .ret) .skip)) (.seq r6_3 (.seq r6_4 (.seq (.seq r6_5 (.cond (.tmp 83) (.seq r6_6 .ret) .skip)) (.seq r6_7 (.seq r6_8 (.seq r6_9 .ret)))))))), [.tmp 6], false, false⟩
def q12_0_0 : List MOper := [⟨some 1,.box 4 (.tmp 0),none⟩, ⟨some 2,.mov false (.lit (.bool false)),none⟩]
def r12_0 : MCode := .region 0 q12_0_0 false [1]
theorem x12_0 : exec run esc l base r12_0 e σ = (stepOps run esc base q12_0_0 e σ).bind (Zk [1] base) := rfl
def q12_1_0 : List MOper := [⟨some 4,.fieldAddr 0 (.tmp 1),none⟩, ⟨some 5,.load false false 1 (.tmp 4),none⟩, ⟨some 6,.len false (.tmp 5),none⟩, ⟨some 7,.bin .gtr (.tmp 6) (.lit (.int .i64 100)),none⟩]
def r12_1 : MCode := .region 1 q12_1_0 false [1, 7]
theorem x12_1 : exec run esc l base r12_1 e σ = (stepOps run esc base q12_1_0 e σ).bind (Zk [1, 7] base) := rfl
def q12_2_0 : List MOper := [⟨some 2,.mov false (.lit (.bool true)),none⟩]
def r12_2 : MCode := .region 2 q12_2_0 false [2]
theorem x12_2 : exec run esc l base r12_2 e σ = (stepOps run esc base q12_2_0 e σ).bind (Zk [2] base) := rfl
def q12_3_0 : List MOper := [⟨some 3,.mov false (.lit (.int .i64 0)),none⟩]
def r12_3 : MCode := .region 3 q12_3_0 false [1, 3]
theorem x12_3 : exec run esc l base r12_3 e σ = (stepOps run esc base q12_3_0 e σ).bind (Zk [1, 3] base) := rfl
def q12_4_0 : List MOper := [⟨some 8,.mov false (.tmp 3),none⟩, ⟨some 9,.fieldAddr 0 (.tmp 1),none⟩, ⟨some 10,.load false false 1 (.tmp 9),none⟩, ⟨some 11,.len false (.tmp 10),none⟩, ⟨some 12,.bin .lss (.tmp 8) (.tmp 11),none⟩]
def r12_4 : MCode := .region 4 q12_4_0 false [1, 3, 12]
theorem x12_4 : exec run esc l base r12_4 e σ = (stepOps run esc base q12_4_0 e σ).bind (Zk [1, 3, 12] base) := rfl
def q12_6_0 : List MOper := [⟨some 15,.fieldAddr 0 (.tmp 1),none⟩, ⟨some 16,.load false false 1 (.tmp 15),none⟩, ⟨some 17,.mov false (.tmp 3),none⟩, ⟨some 18,.index 3 (.tmp 16) (.tmp 17),none⟩, ⟨some 19,.fieldAddr 1 (.tmp 18),none⟩, ⟨some 20,.load false false 1 (.tmp 19),none⟩]
def q12_6_1 : List MOper := [⟨some 21,.len true (.tmp 20),none⟩, ⟨some 22,.bin .gtr (.tmp 21) (.lit (.int .i64 131072)),none⟩, ⟨some 23,.mov false (.tmp 22),none⟩, ⟨some 24,.fieldAddr 0 (.tmp 1),some (23, false)⟩, ⟨some 25,.load false false 1 (.tmp 24),some (23, false)⟩, ⟨some 26,.mov false (.tmp 3),some (23, false)⟩]
def q12_6_2 : List MOper := [⟨some 27,.index 3 (.tmp 25) (.tmp 26),some (23, false)⟩, ⟨some 28,.fieldAddr 0 (.tmp 27),some (23, false)⟩, ⟨some 29,.load false false 1 (.tmp 28),some (23, false)⟩, ⟨some 30,.len true (.tmp 29),some (23, false)⟩, ⟨some 31,.bin .gtr (.tmp 30) (.lit (.int .i64 100)),some (23, false)⟩, ⟨some 32,.pick (.tmp 23) (.lit (.bool true)) (.tmp 31),none⟩]
def r12_6 : MCode := .region 6 (q12_6_0 ++ (q12_6_1 ++ q12_6_2)) false [1, 3, 32]
theorem x12_6 : exec run esc l base r12_6 e σ = (stepOps run esc base q12_6_0 e σ).bind fun x => (stepOps run esc base q12_6_1 x.1 x.2).bind fun x => (stepOps run esc base q12_6_2 x.1 x.2).bind (Zk [1, 3, 32] base) := by simp only [r12_6, regN, regA, Option.bind_assoc]
def q12_7_0 : List MOper := [⟨some 2,.mov false (.lit (.bool true)),none⟩]
def r12_7 : MCode := .region 7 q12_7_0 false [2]
theorem x12_7 : exec run esc l base r12_7 e σ = (stepOps run esc base q12_7_0 e σ).bind (Zk [2] base) := rfl
def q12_5_0 : List MOper := [⟨some 13,.mov false (.tmp 3),none⟩, ⟨some 14,.bin .add (.tmp 13) (.lit (.int .i64 1)),none⟩, ⟨some 3,.mov false (.tmp 14),none⟩]
def r12_5 : MCode := .region 5 q12_5_0 false [1, 3]
theorem x12_5 : exec run esc l base r12_5 e σ = (stepOps run esc base q12_5_0 e σ).bind (Zk [1, 3] base) := rfl
def l12_0 : MCode := (.seq (.seq r12_4 (.cond (.tmp 12) .skip (.exit 0))) (.seq (.block 1 (.seq r12_6 (.cond (.tmp 32) (.seq r12_7 .ret) .skip))) r12_5))
def q12_8_0 : List MOper := [⟨some 2,.mov false (.lit (.bool false)),none⟩]
def r12_8 : MCode := .region 8 q12_8_0 false [2]
theorem x12_8 : exec run esc l base r12_8 e σ = (stepOps run esc base q12_8_0 e σ).bind (Zk [2] base) := rfl
def m12 : MFunc := ⟨(.seq r12_0 (.seq (.seq r12_1 (.cond (.tmp 7) (.seq r12_2 .ret) .skip)) (.seq (.seq r12_3 (.block 0 (.loop l12_0))) (.seq r12_8 .ret)))), [.tmp 2], false, false⟩
def q13_0_0 : List MOper := [⟨some 1,.box 4 (.tmp 0),none⟩, ⟨some 2,.mov false (.lit (.int .i64 0)),none⟩]
def r13_0 : MCode := .region 0 q13_0_0 false [1]
theorem x13_0 : exec run esc l base r13_0 e σ = (stepOps run esc base q13_0_0 e σ).bind (Zk [1] base) := rfl
def q13_1_0 : List MOper := [⟨some 3,.mov false (.lit (.str [])),none⟩]
def r13_1 : MCode := .region 1 q13_1_0 false [1, 3]
theorem x13_1 : exec run esc l base r13_1 e σ = (stepOps run esc base q13_1_0 e σ).bind (Zk [1, 3] base) := rfl
def q13_2_0 : List MOper := [⟨some 6,.fieldAddr 0 (.tmp 1),none⟩, ⟨some 7,.load false false 1 (.tmp 6),none⟩, ⟨some 8,.len false (.tmp 7),none⟩, ⟨some 9,.mov false (.lit (.int .i64 0)),none⟩]
def r13_2 : MCode := .region 2 q13_2_0 false [1, 3, 7, 8, 9]
theorem x13_2 : exec run esc l base r13_2 e σ = (stepOps run esc base q13_2_0 e σ).bind (Zk [1, 3, 7, 8, 9] base) := rfl
def q13_3_0 : List MOper := [⟨some 10,.bin .lss (.tmp 9) (.tmp 8),none⟩]
def r13_3 : MCode := .region 3 q13_3_0 false [1, 3, 7, 8, 9, 10]
theorem x13_3 : exec run esc l base r13_3 e σ = (stepOps run esc base q13_3_0 e σ).bind (Zk [1, 3, 7, 8, 9, 10] base) := rfl
def q13_4_0 : List MOper := [⟨some 11,.index 3 (.tmp 7) (.tmp 9),none⟩, ⟨some 12,.load false true 3 (.tmp 11),none⟩, ⟨some 5,.alloc [(.str []), (.str []), (.int .i64 0)],none⟩, ⟨none,.store 3 (.tmp 5) (.tmp 12),none⟩]
def r13_4 : MCode := .region 4 q13_4_0 false [1, 3, 5, 7, 8, 9]
theorem x13_4 : exec run esc l base r13_4 e σ = (stepOps run esc base q13_4_0 e σ).bind (Zk [1, 3, 5, 7, 8, 9] base) := rfl
def q13_5_0 : List MOper := [⟨some 13,.fieldAddr 0 (.tmp 5),none⟩, ⟨some 14,.load false false 1 (.tmp 13),none⟩, ⟨some 15,.call (.lit (.fn 14 [])) [(.tmp 14)],none⟩, ⟨some 16,.un .not (.tmp 15),none⟩, ⟨some 17,.mov false (.tmp 16),none⟩, ⟨some 18,.fieldAddr 0 (.tmp 5),some (17, false)⟩]
def q13_5_1 : List MOper := [⟨some 19,.load false false 1 (.tmp 18),some (17, false)⟩, ⟨some 20,.mov false (.tmp 3),some (17, false)⟩, ⟨some 21,.bin .leq (.tmp 19) (.tmp 20),some (17, false)⟩, ⟨some 22,.pick (.tmp 17) (.lit (.bool true)) (.tmp 21),none⟩, ⟨some 23,.mov false (.tmp 22),none⟩, ⟨some 24,.fieldAddr 1 (.tmp 5),some (23, false)⟩]
def q13_5_2 : List MOper := [⟨some 25,.load false false 1 (.tmp 24),some (23, false)⟩, ⟨some 26,.bin .eql (.tmp 25) (.lit (.str [])),some (23, false)⟩, ⟨some 27,.pick (.tmp 23) (.lit (.bool true)) (.tmp 26),none⟩, ⟨some 28,.mov false (.tmp 27),none⟩, ⟨some 29,.fieldAddr 2 (.tmp 5),some (28, false)⟩, ⟨some 30,.load false false 1 (.tmp 29),some (28, false)⟩]
def q13_5_3 : List MOper := [⟨some 31,.bin .lss (.tmp 30) (.lit (.int .i64 0)),some (28, false)⟩, ⟨some 32,.pick (.tmp 28) (.lit (.bool true)) (.tmp 31),none⟩, ⟨some 33,.mov false (.tmp 32),none⟩, ⟨some 34,.fieldAddr 2 (.tmp 5),some (33, false)⟩, ⟨some 35,.load false false 1 (.tmp 34),some (33, false)⟩, ⟨some 36,.fieldAddr 1 (.tmp 5),some (33, false)⟩]
def q13_5_4 : List MOper := [⟨some 37,.load false false 1 (.tmp 36),some (33, false)⟩, ⟨some 38,.len true (.tmp 37),some (33, false)⟩, ⟨some 39,.bin .gtr (.tmp 35) (.tmp 38),some (33, false)⟩, ⟨some 40,.pick (.tmp 33) (.lit (.bool true)) (.tmp 39),none⟩]
def r13_5 : MCode := .region 5 (q13_5_0 ++ (q13_5_1 ++ (q13_5_2 ++ (q13_5_3 ++ q13_5_4)))) false [1, 5, 7, 8, 9, 40]
theorem x13_5 : exec run esc l base r13_5 e σ = (stepOps run esc base q13_5_0 e σ).bind fun x => (stepOps run esc base q13_5_1 x.1 x.2).bind fun x => (stepOps run esc base q13_5_2 x.1 x.2).bind fun x => (stepOps run esc base q13_5_3 x.1 x.2).bind fun x => (stepOps run esc base q13_5_4 x.1 x.2).bind (Zk [1, 5, 7, 8, 9, 40] base) := by simp only [r13_5, regN, regA, Option.bind_assoc]
def q13_6_0 : List MOper := [⟨some 2,.mov false (.lit (.int .i64 2)),none⟩]
def r13_6 : MCode := .region 6 q13_6_0 false [2]
theorem x13_6 : exec run esc l base r13_6 e σ = (stepOps run esc base q13_6_0 e σ).bind (Zk [2] base) := rfl
def q13_7_0 : List MOper := [⟨some 41,.fieldAddr 0 (.tmp 5),none⟩, ⟨some 42,.load false false 1 (.tmp 41),none⟩, ⟨some 3,.mov false (.tmp 42),none⟩]
def r13_7 : MCode := .region 7 q13_7_0 false [1, 3, 7, 8, 9]
theorem x13_7 : exec run esc l base r13_7 e σ = (stepOps run esc base q13_7_0 e σ).bind (Zk [1, 3, 7, 8, 9] base) := rfl
def q13_8_0 : List MOper := [⟨some 43,.bin .add (.tmp 9) (.lit (.int .i64 1)),none⟩, ⟨some 9,.mov false (.tmp 43),none⟩]
def r13_8 : MCode := .region 8 q13_8_0 false [1, 3, 7, 8, 9]
theorem x13_8 : exec run esc l base r13_8 e σ = (stepOps run esc base q13_8_0 e σ).bind (Zk [1, 3, 7, 8, 9] base) := rfl
def l13_0 : MCode := (.seq r13_3 (.seq (.cond (.tmp 10) .skip (.exit 0)) (.seq (.block 1 (.seq r13_4 (.seq (.seq r13_5 (.cond (.tmp 40) (.seq r13_6 .ret) .skip)) r13_7))) r13_8)))
def q13_9_0 : List MOper := [⟨some 44,.fieldAddr 0 (.tmp 1),none⟩, ⟨some 45,.load false false 1 (.tmp 44),none⟩, ⟨some 46,.len false (.tmp 45),none⟩, ⟨some 47,.bin .gtr (.tmp 46) (.lit (.int .i64 64)),none⟩, ⟨some 48,.mov false (.tmp 47),none⟩, ⟨some 49,.fieldAddr 1 (.tmp 1),some (48, false)⟩]
def q13_9_1 : List MOper := [⟨some 50,.load false false 1 (.tmp 49),some (48, false)⟩, ⟨some 51,.bin .lss (.tmp 50) (.lit (.int .i64 0)),some (48, false)⟩, ⟨some 52,.pick (.tmp 48) (.lit (.bool true)) (.tmp 51),none⟩, ⟨some 53,.mov false (.tmp 52),none⟩, ⟨some 54,.fieldAddr 1 (.tmp 1),some (53, false)⟩, ⟨some 55,.load false false 1 (.tmp 54),some (53, false)⟩]
def q13_9_2 : List MOper := [⟨some 56,.bin .gtr (.tmp 55) (.lit (.int .i64 65536)),some (53, false)⟩, ⟨some 57,.pick (.tmp 53) (.lit (.bool true)) (.tmp 56),none⟩, ⟨some 58,.mov false (.tmp 57),none⟩, ⟨some 59,.load false true 4 (.tmp 1),some (58, false)⟩, ⟨some 60,.callr (.lit (.fn 19 [])) [(.tmp 59)],some (58, false)⟩, ⟨some 61,.fieldAddr 1 (.tmp 1),some (58, false)⟩]
def q13_9_3 : List MOper := [⟨some 62,.load false false 1 (.tmp 61),some (58, false)⟩, ⟨some 63,.bin .gtr (.tmp 60) (.tmp 62),some (58, false)⟩, ⟨some 64,.pick (.tmp 58) (.lit (.bool true)) (.tmp 63),none⟩]
def r13_9 : MCode := .region 9 (q13_9_0 ++ (q13_9_1 ++ (q13_9_2 ++ q13_9_3))) true [64]
theorem x13_9 : exec run esc l base r13_9 e σ = (stepOps run esc base q13_9_0 e σ).bind fun x => (stepOps run esc base q13_9_1 x.1 x.2).bind fun x => (stepOps run esc base q13_9_2 x.1 x.2).bind fun x => (stepOps run esc base q13_9_3 x.1 x.2).bind (Zk [64] base) := by simp only [r13_9, regN, regA, Option.bind_assoc]
def q13_10_0 : List MOper := [⟨some 2,.mov false (.lit (.int .i64 2)),none⟩]
def r13_10 : MCode := .region 10 q13_10_0 false [2]
theorem x13_10 : exec run esc l base r13_10 e σ = (stepOps run esc base q13_10_0 e σ).bind (Zk [2] base) := rfl
def q13_11_0 : List MOper := [⟨some 2,.mov false (.lit (.int .i64 0)),none⟩]
def r13_11 : MCode := .region 11 q13_11_0 false [2]
theorem x13_11 : exec run esc l base r13_11 e σ = (stepOps run esc base q13_11_0 e σ).bind (Zk [2] base) := rfl
def m13 : MFunc := ⟨(.seq r13_0 (.seq r13_1 (.seq (.seq r13_2 (.block 0 (.loop l13_0))) (.seq (.seq r13_9 (.cond (.tmp 64) (.seq r13_10 .ret) .skip)) (.seq r13_11 .ret))))), [.tmp 2], false, false⟩
def q14_0_0 : List MOper := [⟨some 2,.mov false (.lit (.bool false)),none⟩]
def r14_0 : MCode := .region 0 q14_0_0 false [0]
theorem x14_0 : exec run esc l base r14_0 e σ = (stepOps run esc base q14_0_0 e σ).bind (Zk [0] base) := rfl
def q14_1_0 : List MOper := [⟨some 3,.mov false (.tmp 0),none⟩, ⟨some 4,.bin .neq (.tmp 3) (.lit (.str [])),none⟩, ⟨some 5,.mov false (.tmp 4),none⟩, ⟨some 6,.mov false (.tmp 0),some (5, true)⟩, ⟨some 7,.len true (.tmp 6),some (5, true)⟩, ⟨some 8,.bin .leq (.tmp 7) (.lit (.int .i64 8)),some (5, true)⟩]
def q14_1_1 : List MOper := [⟨some 9,.pick (.tmp 5) (.tmp 8) (.lit (.bool false)),none⟩, ⟨some 10,.mov false (.tmp 9),none⟩, ⟨some 11,.mov false (.tmp 0),some (10, true)⟩, ⟨some 12,.call (.lit (.fn 40 [])) [(.tmp 11), (.lit (.str [97, 98, 99, 100, 101, 102, 103, 104, 105, 106, 107, 108, 109, 110, 111, 112, 113, 114, 115, 116, 117, 118, 119, 120, 121, 122, 48, 49, 50, 51, 52, 53, 54, 55, 56, 57, 46]))],some (10, true)⟩, ⟨some 13,.bin .eql (.tmp 12) (.lit (.str [])),some (10, true)⟩, ⟨some 14,.pick (.tmp 10) (.tmp 13) (.lit (.bool false)),none⟩]
def q14_1_2 : List MOper := [⟨some 15,.mov false (.tmp 14),none⟩, ⟨some 16,.mov false (.tmp 0),some (15, true)⟩, ⟨some 17,.call (.lit (.fn 41 [])) [(.tmp 16)],some (15, true)⟩, ⟨some 18,.pick (.tmp 15) (.tmp 17) (.lit (.bool false)),none⟩, ⟨some 2,.mov false (.tmp 18),none⟩]
def r14_1 : MCode := .region 1 (q14_1_0 ++ (q14_1_1 ++ q14_1_2)) false [2]
theorem x14_1 : exec run esc l base r14_1 e σ = (stepOps run esc base q14_1_0 e σ).bind fun x => (stepOps run esc base q14_1_1 x.1 x.2).bind fun x => (stepOps run esc base q14_1_2 x.1 x.2).bind (Zk [2] base) := by simp only [r14_1, regN, regA, Option.bind_assoc]
def m14 : MFunc := ⟨(.seq r14_0 (.seq r14_1 .ret)), [.tmp 2], false, false⟩
def q15_0_0 : List MOper := [⟨some 0,.mov false (.lit (.bool false)),none⟩]
def r15_0 : MCode := .region 0 q15_0_0 false []
theorem x15_0 : exec run esc l base r15_0 e σ = (stepOps run esc base q15_0_0 e σ).bind (Zk [] base) := rfl
def q15_1_0 : List MOper := [⟨some 11,.call (.lit (.fn 21 [])) [(.lit (.int .i64 100))],none⟩, ⟨some 10,.mov false (.tmp 11),none⟩, ⟨some 12,.extract 0 (.tmp 10),none⟩, ⟨some 13,.extract 1 (.tmp 10),none⟩, ⟨some 1,.alloc [(.slice true []), (.int .i64 0), (.int .i64 0), (.bool false)],none⟩, ⟨none,.store 4 (.tmp 1) (.tmp 12),none⟩]
def q15_1_1 : List MOper := [⟨some 2,.mov false (.tmp 13),none⟩]
def r15_1 : MCode := .region 1 (q15_1_0 ++ q15_1_1) false [1, 2]
theorem x15_1 : exec run esc l base r15_1 e σ = (stepOps run esc base q15_1_0 e σ).bind fun x => (stepOps run esc base q15_1_1 x.1 x.2).bind (Zk [1, 2] base) := reg2
def q15_2_0 : List MOper := [⟨some 15,.load false true 4 (.tmp 1),none⟩, ⟨some 16,.callc (.lit (.fn 18 [])) [(.lit (.str [97])), (.lit (.str [97]))],none⟩, ⟨some 17,.callc (.lit (.fn 17 [])) [(.tmp 15), (.tmp 16)],none⟩, ⟨some 14,.mov false (.tmp 17),none⟩, ⟨some 18,.extractn 0 (.tmp 14),none⟩, ⟨some 19,.extractn 1 (.tmp 14),none⟩]
def q15_2_1 : List MOper := [⟨none,.store 4 (.tmp 1) (.tmp 18),none⟩, ⟨some 3,.mov false (.tmp 19),none⟩]
def r15_2 : MCode := .region 2 (q15_2_0 ++ q15_2_1) true [1, 2, 3]
theorem x15_2 : exec run esc l base r15_2 e σ = (stepOps run esc base q15_2_0 e σ).bind fun x => (stepOps run esc base q15_2_1 x.1 x.2).bind (Zk [1, 2, 3] base) := reg2
def q15_3_0 : List MOper := [⟨some 21,.load false true 4 (.tmp 1),none⟩, ⟨some 22,.build [(.int .i8 0), (.str []), (.str []), (.int .i64 0)] [(0, 1, (.lit (.int .i8 1))), (1, 1, (.lit (.str [97])))],none⟩, ⟨some 23,.call (.lit (.fn 17 [])) [(.tmp 21), (.tmp 22)],none⟩, ⟨some 20,.mov false (.tmp 23),none⟩, ⟨some 24,.extract 0 (.tmp 20),none⟩, ⟨some 25,.extract 1 (.tmp 20),none⟩]
def q15_3_1 : List MOper := [⟨none,.store 4 (.tmp 1) (.tmp 24),none⟩, ⟨some 4,.mov false (.tmp 25),none⟩]
def r15_3 : MCode := .region 3 (q15_3_0 ++ q15_3_1) false [1, 2, 3, 4]
theorem x15_3 : exec run esc l base r15_3 e σ = (stepOps run esc base q15_3_0 e σ).bind fun x => (stepOps run esc base q15_3_1 x.1 x.2).bind (Zk [1, 2, 3, 4] base) := reg2
def q15_4_0 : List MOper := [⟨some 27,.load false true 4 (.tmp 1),none⟩, ⟨some 28,.callc (.lit (.fn 18 [])) [(.lit (.str [97])), (.lit (.str [98, 99]))],none⟩, ⟨some 29,.callc (.lit (.fn 17 [])) [(.tmp 27), (.tmp 28)],none⟩, ⟨some 26,.mov false (.tmp 29),none⟩, ⟨some 30,.extractn 0 (.tmp 26),none⟩, ⟨some 31,.extractn 1 (.tmp 26),none⟩]
def q15_4_1 : List MOper := [⟨none,.store 4 (.tmp 1) (.tmp 30),none⟩, ⟨some 5,.mov false (.tmp 31),none⟩]
def r15_4 : MCode := .region 4 (q15_4_0 ++ q15_4_1) true [1, 2, 3, 4, 5]
theorem x15_4 : exec run esc l base r15_4 e σ = (stepOps run esc base q15_4_0 e σ).bind fun x => (stepOps run esc base q15_4_1 x.1 x.2).bind (Zk [1, 2, 3, 4, 5] base) := reg2
def q15_5_0 : List MOper := [⟨some 33,.load false true 4 (.tmp 1),none⟩, ⟨some 34,.buildSlice 1 [(.lit (.int .i64 1))],none⟩, ⟨some 35,.call (.lit (.fn 25 [])) [(.tmp 33), (.tmp 34)],none⟩, ⟨some 32,.mov false (.tmp 35),none⟩, ⟨some 36,.extract 0 (.tmp 32),none⟩, ⟨some 37,.extract 1 (.tmp 32),none⟩]
def q15_5_1 : List MOper := [⟨some 6,.alloc [(.slice true []), (.int .i64 0), (.int .i64 0), (.bool false)],none⟩, ⟨none,.store 4 (.tmp 6) (.tmp 36),none⟩, ⟨some 7,.mov false (.tmp 37),none⟩]
def r15_5 : MCode := .region 5 (q15_5_0 ++ q15_5_1) false [2, 3, 4, 5, 6, 7]
theorem x15_5 : exec run esc l base r15_5 e σ = (stepOps run esc base q15_5_0 e σ).bind fun x => (stepOps run esc base q15_5_1 x.1 x.2).bind (Zk [2, 3, 4, 5, 6, 7] base) := reg2
def q15_6_0 : List MOper := [⟨some 39,.load false true 4 (.tmp 6),none⟩, ⟨some 40,.call (.lit (.fn 16 [])) [(.tmp 39), (.lit (.str [97]))],none⟩, ⟨some 38,.mov false (.tmp 40),none⟩, ⟨some 41,.extract 0 (.tmp 38),none⟩, ⟨some 42,.extract 1 (.tmp 38),none⟩, ⟨some 8,.alloc [(.str []), (.str []), (.int .i64 0)],none⟩]
def q15_6_1 : List MOper := [⟨none,.store 3 (.tmp 8) (.tmp 41),none⟩, ⟨some 9,.mov false (.tmp 42),none⟩]
def r15_6 : MCode := .region 6 (q15_6_0 ++ q15_6_1) false [2, 3, 4, 5, 7, 8, 9]
theorem x15_6 : exec run esc l base r15_6 e σ = (stepOps run esc base q15_6_0 e σ).bind fun x => (stepOps run esc base q15_6_1 x.1 x.2).bind (Zk [2, 3, 4, 5, 7, 8, 9] base) := reg2
def q15_7_0 : List MOper := [⟨some 43,.mov false (.tmp 2),none⟩, ⟨some 44,.bin .eql (.tmp 43) (.lit (.int .i64 0)),none⟩, ⟨some 45,.mov false (.tmp 44),none⟩, ⟨some 46,.mov false (.tmp 3),some (45, true)⟩, ⟨some 47,.bin .eql (.tmp 46) (.lit (.int .i64 0)),some (45, true)⟩, ⟨some 48,.pick (.tmp 45) (.tmp 47) (.lit (.bool false)),none⟩]
def q15_7_1 : List MOper := [⟨some 49,.mov false (.tmp 48),none⟩, ⟨some 50,.mov false (.tmp 4),some (49, true)⟩, ⟨some 51,.bin .eql (.tmp 50) (.lit (.int .i64 0)),some (49, true)⟩, ⟨some 52,.pick (.tmp 49) (.tmp 51) (.lit (.bool false)),none⟩, ⟨some 53,.mov false (.tmp 52),none⟩, ⟨some 54,.mov false (.tmp 5),some (53, true)⟩]
def q15_7_2 : List MOper := [⟨some 55,.bin .eql (.tmp 54) (.lit (.int .i64 0)),some (53, true)⟩, ⟨some 56,.pick (.tmp 53) (.tmp 55) (.lit (.bool false)),none⟩, ⟨some 57,.mov false (.tmp 56),none⟩, ⟨some 58,.mov false (.tmp 7),some (57, true)⟩, ⟨some 59,.bin .eql (.tmp 58) (.lit (.int .i64 0)),some (57, true)⟩, ⟨some 60,.pick (.tmp 57) (.tmp 59) (.lit (.bool false)),none⟩]
def q15_7_3 : List MOper := [⟨some 61,.mov false (.tmp 60),none⟩, ⟨some 62,.mov false (.tmp 9),some (61, true)⟩, ⟨some 63,.pick (.tmp 61) (.tmp 62) (.lit (.bool false)),none⟩, ⟨some 64,.mov false (.tmp 63),none⟩, ⟨some 65,.load false true 3 (.tmp 8),some (64, true)⟩, ⟨some 66,.build [(.str []), (.str []), (.int .i64 0)] [(0, 1, (.lit (.str [97]))), (1, 1, (.lit (.str [97, 98]))), (2, 1, (.lit (.int .i64 2)))],some (64, true)⟩]
def q15_7_4 : List MOper := [⟨some 67,.eqs false [2, 2, 0] (.tmp 65) (.tmp 66),some (64, true)⟩, ⟨some 68,.pick (.tmp 64) (.tmp 67) (.lit (.bool false)),none⟩, ⟨some 0,.mov false (.tmp 68),none⟩]
def r15_7 : MCode := .region 7 (q15_7_0 ++ (q15_7_1 ++ (q15_7_2 ++ (q15_7_3 ++ q15_7_4)))) false [0]
theorem x15_7 : exec run esc l base r15_7 e σ = (stepOps run esc base q15_7_0 e σ).bind fun x => (stepOps run esc base q15_7_1 x.1 x.2).bind fun x => (stepOps run esc base q15_7_2 x.1 x.2).bind fun x => (stepOps run esc base q15_7_3 x.1 x.2).bind fun x => (stepOps run esc base q15_7_4 x.1 x.2).bind (Zk [0] base) := by simp only [r15_7, regN, regA, Option.bind_assoc]
def m15 : MFunc := ⟨(.seq r15_0 (.seq r15_1 (.seq r15_2 (.seq r15_3 (.seq r15_4 (.seq r15_5 (.seq r15_6 (.seq r15_7 .ret)))))))), [.tmp 0], false, false⟩
def q16_0_0 : List MOper := [⟨some 2,.box 4 (.tmp 0),none⟩, ⟨some 3,.box 1 (.tmp 1),none⟩, ⟨some 4,.alloc [(.str []), (.str []), (.int .i64 0)],none⟩, ⟨some 5,.mov false (.lit (.bool false)),none⟩]
def r16_0 : MCode := .region 0 q16_0_0 false [2, 3, 4]
theorem x16_0 : exec run esc l base r16_0 e σ = (stepOps run esc base q16_0_0 e σ).bind (Zk [2, 3, 4] base) := rfl
def q16_1_0 : List MOper := [⟨some 7,.fieldAddr 0 (.tmp 2),none⟩, ⟨some 8,.load false false 1 (.tmp 7),none⟩, ⟨some 9,.mkfn 43 [(.tmp 3)],none⟩, ⟨some 10,.call (.lit (.fn 42 [])) [(.tmp 8), (.tmp 9)],none⟩, ⟨some 6,.mov false (.tmp 10),none⟩]
def r16_1 : MCode := .region 1 q16_1_0 false [2, 4, 6]
theorem x16_1 : exec run esc l base r16_1 e σ = (stepOps run esc base q16_1_0 e σ).bind (Zk [2, 4, 6] base) := rfl
def q16_2_0 : List MOper := [⟨some 11,.mov false (.tmp 6),none⟩, ⟨some 12,.bin .lss (.tmp 11) (.lit (.int .i64 0)),none⟩]
def r16_2 : MCode := .region 2 q16_2_0 false [2, 4, 6, 12]
theorem x16_2 : exec run esc l base r16_2 e σ = (stepOps run esc base q16_2_0 e σ).bind (Zk [2, 4, 6, 12] base) := rfl
def q16_3_0 : List MOper := [⟨some 13,.build [(.str []), (.str []), (.int .i64 0)] [],none⟩, ⟨none,.store 3 (.tmp 4) (.tmp 13),none⟩, ⟨some 5,.mov false (.lit (.bool false)),none⟩]
def r16_3 : MCode := .region 3 q16_3_0 false [4, 5]
theorem x16_3 : exec run esc l base r16_3 e σ = (stepOps run esc base q16_3_0 e σ).bind (Zk [4, 5] base) := rfl
def q16_4_0 : List MOper := [⟨some 14,.fieldAddr 0 (.tmp 2),none⟩, ⟨some 15,.load false false 1 (.tmp 14),none⟩, ⟨some 16,.mov false (.tmp 6),none⟩, ⟨some 17,.index 3 (.tmp 15) (.tmp 16),none⟩, ⟨some 18,.load false true 3 (.tmp 17),none⟩, ⟨none,.store 3 (.tmp 4) (.tmp 18),none⟩]
def q16_4_1 : List MOper := [⟨some 5,.mov false (.lit (.bool true)),none⟩]
def r16_4 : MCode := .region 4 (q16_4_0 ++ q16_4_1) false [4, 5]
theorem x16_4 : exec run esc l base r16_4 e σ = (stepOps run esc base q16_4_0 e σ).bind fun x => (stepOps run esc base q16_4_1 x.1 x.2).bind (Zk [4, 5] base) := reg2
def m16 : MFunc := ⟨(.seq r16_0 (.seq r16_1 (.seq (.seq r16_2 (.cond (.tmp 12) (.seq r16_3 .ret) .skip)) (.seq r16_4 .ret)))), [.cell 4 true 3, .tmp 5], false, false⟩
def q17_0_0 : List MOper := [⟨some 2,.box 4 (.tmp 0),none⟩, ⟨some 3,.box 4 (.tmp 1),none⟩, ⟨some 4,.alloc [(.slice true []), (.int .i64 0), (.int .i64 0), (.bool false)],none⟩, ⟨some 5,.mov false (.lit (.int .i64 0)),none⟩]
def r17_0 : MCode := .region 0 q17_0_0 false [2, 3, 4]
theorem x17_0 : exec run esc l base r17_0 e σ = (stepOps run esc base q17_0_0 e σ).bind (Zk [2, 3, 4] base) := rfl
def q17_1_0 : List MOper := [⟨some 12,.load false true 4 (.tmp 2),none⟩, ⟨some 13,.call (.lit (.fn 13 [])) [(.tmp 12)],none⟩, ⟨some 14,.bin .neq (.tmp 13) (.lit (.int .i64 0)),none⟩, ⟨some 15,.mov false (.tmp 14),none⟩, ⟨some 16,.call (.lit (.fn 44 [])) [(.tmp 3)],some (15, false)⟩, ⟨some 17,.un .not (.tmp 16),some (15, false)⟩]
def q17_1_1 : List MOper := [⟨some 18,.pick (.tmp 15) (.lit (.bool true)) (.tmp 17),none⟩, ⟨some 11,.mov false (.tmp 18),none⟩]
def r17_1 : MCode := .region 1 (q17_1_0 ++ q17_1_1) false [2, 3, 4, 11]
theorem x17_1 : exec run esc l base r17_1 e σ = (stepOps run esc base q17_1_0 e σ).bind fun x => (stepOps run esc base q17_1_1 x.1 x.2).bind (Zk [2, 3, 4, 11] base) := reg2
def q17_2_0 : List MOper := [⟨some 19,.build [(.slice true []), (.int .i64 0), (.int .i64 0), (.bool false)] [],none⟩, ⟨none,.store 4 (.tmp 4) (.tmp 19),none⟩, ⟨some 5,.mov false (.lit (.int .i64 2)),none⟩]
def r17_2 : MCode := .region 2 q17_2_0 false [4, 5]
theorem x17_2 : exec run esc l base r17_2 e σ = (stepOps run esc base q17_2_0 e σ).bind (Zk [4, 5] base) := rfl
def q17_3_0 : List MOper := [⟨some 21,.fieldAddr 3 (.tmp 2),none⟩, ⟨some 22,.load false false 1 (.tmp 21),none⟩, ⟨some 20,.mov false (.tmp 22),none⟩]
def r17_3 : MCode := .region 3 q17_3_0 false [2, 3, 4, 20]
theorem x17_3 : exec run esc l base r17_3 e σ = (stepOps run esc base q17_3_0 e σ).bind (Zk [2, 3, 4, 20] base) := rfl
def q17_4_0 : List MOper := [⟨some 23,.build [(.slice true []), (.int .i64 0), (.int .i64 0), (.bool false)] [],none⟩, ⟨none,.store 4 (.tmp 4) (.tmp 23),none⟩, ⟨some 5,.mov false (.lit (.int .i64 30)),none⟩]
def r17_4 : MCode := .region 4 q17_4_0 false [4, 5]
theorem x17_4 : exec run esc l base r17_4 e σ = (stepOps run esc base q17_4_0 e σ).bind (Zk [4, 5] base) := rfl
def q17_5_0 : List MOper := [⟨some 25,.fieldAddr 2 (.tmp 2),none⟩, ⟨some 26,.load false false 1 (.tmp 25),none⟩, ⟨some 27,.bin .eql (.tmp 26) (.lit (.int .i64 0)),none⟩, ⟨some 24,.mov false (.tmp 27),none⟩]
def r17_5 : MCode := .region 5 q17_5_0 false [2, 3, 4, 24]
theorem x17_5 : exec run esc l base r17_5 e σ = (stepOps run esc base q17_5_0 e σ).bind (Zk [2, 3, 4, 24] base) := rfl
def q17_6_0 : List MOper := [⟨some 28,.fieldAddr 3 (.tmp 2),none⟩, ⟨none,.store 1 (.tmp 28) (.lit (.bool true)),none⟩]
def r17_6 : MCode := .region 6 q17_6_0 false [2, 4]
theorem x17_6 : exec run esc l base r17_6 e σ = (stepOps run esc base q17_6_0 e σ).bind (Zk [2, 4] base) := rfl
def q17_7_0 : List MOper := [⟨some 29,.load false true 4 (.tmp 2),none⟩, ⟨none,.store 4 (.tmp 4) (.tmp 29),none⟩, ⟨some 5,.mov false (.lit (.int .i64 30)),none⟩]
def r17_7 : MCode := .region 7 q17_7_0 false [4, 5]
theorem x17_7 : exec run esc l base r17_7 e σ = (stepOps run esc base q17_7_0 e σ).bind (Zk [4, 5] base) := rfl
def q17_8_0 : List MOper := [⟨some 31,.fieldAddr 0 (.tmp 2),none⟩, ⟨some 32,.load false false 1 (.tmp 31),none⟩, ⟨some 33,.fieldAddr 1 (.tmp 3),none⟩, ⟨some 34,.load false false 1 (.tmp 33),none⟩, ⟨some 35,.call (.lit (.fn 45 [])) [(.tmp 32), (.tmp 34), (.lit (.fn 46 []))],none⟩, ⟨some 30,.mov false (.tmp 35),none⟩]
def q17_8_1 : List MOper := [⟨some 36,.extract 0 (.tmp 30),none⟩, ⟨some 37,.extract 1 (.tmp 30),none⟩, ⟨some 6,.mov false (.tmp 36),none⟩, ⟨some 7,.mov false (.tmp 37),none⟩]
def r17_8 : MCode := .region 8 (q17_8_0 ++ q17_8_1) false [2, 3, 4, 6, 7]
theorem x17_8 : exec run esc l base r17_8 e σ = (stepOps run esc base q17_8_0 e σ).bind fun x => (stepOps run esc base q17_8_1 x.1 x.2).bind (Zk [2, 3, 4, 6, 7] base) := reg2
def q17_9_0 : List MOper := [⟨some 38,.fieldAddr 1 (.tmp 3),none⟩, ⟨some 39,.load false false 1 (.tmp 38),none⟩, ⟨some 40,.build [(.str []), (.str []), (.int .i64 0)] [(0, 1, (.tmp 39))],none⟩, ⟨some 8,.alloc [(.str []), (.str []), (.int .i64 0)],none⟩, ⟨none,.store 3 (.tmp 8) (.tmp 40),none⟩]
def r17_9 : MCode := .region 9 q17_9_0 false [2, 3, 4, 6, 7, 8]
theorem x17_9 : exec run esc l base r17_9 e σ = (stepOps run esc base q17_9_0 e σ).bind (Zk [2, 3, 4, 6, 7, 8] base) := rfl
def q17_10_0 : List MOper := [⟨some 41,.mov false (.tmp 7),none⟩]
def r17_10 : MCode := .region 10 q17_10_0 false [2, 3, 4, 6, 7, 8, 41]
theorem x17_10 : exec run esc l base r17_10 e σ = (stepOps run esc base q17_10_0 e σ).bind (Zk [2, 3, 4, 6, 7, 8, 41] base) := rfl
def q17_11_0 : List MOper := [⟨some 42,.fieldAddr 0 (.tmp 2),none⟩, ⟨some 43,.load false false 1 (.tmp 42),none⟩, ⟨some 44,.mov false (.tmp 6),none⟩, ⟨some 45,.index 3 (.tmp 43) (.tmp 44),none⟩, ⟨some 46,.load false true 3 (.tmp 45),none⟩, ⟨none,.store 3 (.tmp 8) (.tmp 46),none⟩]
def r17_11 : MCode := .region 11 q17_11_0 false [2, 3, 4, 6, 7, 8]
theorem x17_11 : exec run esc l base r17_11 e σ = (stepOps run esc base q17_11_0 e σ).bind (Zk [2, 3, 4, 6, 7, 8] base) := rfl
def q17_12_0 : List MOper := [⟨some 48,.load false true 3 (.tmp 8),none⟩, ⟨some 49,.mov false (.tmp 7),none⟩, ⟨some 50,.call (.lit (.fn 47 [])) [(.tmp 48), (.tmp 49), (.tmp 3)],none⟩, ⟨some 47,.mov false (.tmp 50),none⟩, ⟨some 51,.extract 0 (.tmp 47),none⟩, ⟨some 52,.extract 1 (.tmp 47),none⟩]
def q17_12_1 : List MOper := [⟨none,.store 3 (.tmp 8) (.tmp 51),none⟩, ⟨some 9,.mov false (.tmp 52),none⟩]
def r17_12 : MCode := .region 12 (q17_12_0 ++ q17_12_1) false [2, 4, 6, 7, 8, 9]
theorem x17_12 : exec run esc l base r17_12 e σ = (stepOps run esc base q17_12_0 e σ).bind fun x => (stepOps run esc base q17_12_1 x.1 x.2).bind (Zk [2, 4, 6, 7, 8, 9] base) := reg2
def q17_13_0 : List MOper := [⟨some 53,.mov false (.tmp 9),none⟩, ⟨some 54,.bin .neq (.tmp 53) (.lit (.int .i64 0)),none⟩]
def r17_13 : MCode := .region 13 q17_13_0 false [2, 4, 6, 7, 8, 9, 54]
theorem x17_13 : exec run esc l base r17_13 e σ = (stepOps run esc base q17_13_0 e σ).bind (Zk [2, 4, 6, 7, 8, 9, 54] base) := rfl
def q17_14_0 : List MOper := [⟨some 55,.build [(.slice true []), (.int .i64 0), (.int .i64 0), (.bool false)] [],none⟩, ⟨some 56,.mov false (.tmp 9),none⟩, ⟨none,.store 4 (.tmp 4) (.tmp 55),none⟩, ⟨some 5,.mov false (.tmp 56),none⟩]
def r17_14 : MCode := .region 14 q17_14_0 false [4, 5]
theorem x17_14 : exec run esc l base r17_14 e σ = (stepOps run esc base q17_14_0 e σ).bind (Zk [4, 5] base) := rfl
def q17_15_0 : List MOper := [⟨some 57,.fieldAddr 0 (.tmp 2),none⟩, ⟨some 58,.load false false 1 (.tmp 57),none⟩, ⟨some 59,.mov false (.tmp 6),none⟩, ⟨some 60,.mov false (.tmp 6),none⟩, ⟨some 61,.slice 3 (.tmp 58) none (some (.tmp 59)) (some (.tmp 60)),none⟩, ⟨some 10,.mov true (.tmp 61),none⟩]
def r17_15 : MCode := .region 15 q17_15_0 false [2, 4, 6, 7, 8, 10]
theorem x17_15 : exec run esc l base r17_15 e σ = (stepOps run esc base q17_15_0 e σ).bind (Zk [2, 4, 6, 7, 8, 10] base) := rfl
def q17_16_0 : List MOper := [⟨some 62,.fieldAddr 1 (.tmp 8),none⟩, ⟨some 63,.load false false 1 (.tmp 62),none⟩, ⟨some 64,.bin .neq (.tmp 63) (.lit (.str [])),none⟩]
def r17_16 : MCode := .region 16 q17_16_0 false [2, 4, 6, 7, 8, 10, 64]
theorem x17_16 : exec run esc l base r17_16 e σ = (stepOps run esc base q17_16_0 e σ).bind (Zk [2, 4, 6, 7, 8, 10, 64] base) := rfl
def q17_17_0 : List MOper := [⟨some 65,.mov true (.tmp 10),none⟩, ⟨some 66,.load false true 3 (.tmp 8),none⟩, ⟨some 67,.buildSlice 3 [(.tmp 66)],none⟩, ⟨some 68,.append false 3 40 (.tmp 65) (.tmp 67),none⟩, ⟨some 10,.mov true (.tmp 68),none⟩]
def r17_17 : MCode := .region 17 q17_17_0 false [2, 4, 6, 7, 10]
theorem x17_17 : exec run esc l base r17_17 e σ = (stepOps run esc base q17_17_0 e σ).bind (Zk [2, 4, 6, 7, 10] base) := rfl
def q17_18_0 : List MOper := [⟨some 69,.mov false (.tmp 7),none⟩]
def r17_18 : MCode := .region 18 q17_18_0 false [2, 4, 6, 10, 69]
theorem x17_18 : exec run esc l base r17_18 e σ = (stepOps run esc base q17_18_0 e σ).bind (Zk [2, 4, 6, 10, 69] base) := rfl
def q17_19_0 : List MOper := [⟨some 70,.mov false (.tmp 6),none⟩, ⟨some 71,.bin .add (.tmp 70) (.lit (.int .i64 1)),none⟩, ⟨some 6,.mov false (.tmp 71),none⟩]
def r17_19 : MCode := .region 19 q17_19_0 false [2, 4, 6, 10]
theorem x17_19 : exec run esc l base r17_19 e σ = (stepOps run esc base q17_19_0 e σ).bind (Zk [2, 4, 6, 10] base) := rfl
def q17_20_0 : List MOper := [⟨some 72,.mov true (.tmp 10),none⟩, ⟨some 73,.fieldAddr 0 (.tmp 2),none⟩, ⟨some 74,.load false false 1 (.tmp 73),none⟩, ⟨some 75,.mov false (.tmp 6),none⟩, ⟨some 76,.slice 3 (.tmp 74) (some (.tmp 75)) none none,none⟩, ⟨some 77,.append false 3 40 (.tmp 72) (.tmp 76),none⟩]
def q17_20_1 : List MOper := [⟨some 78,.fieldAddr 0 (.tmp 2),none⟩, ⟨none,.store 1 (.tmp 78) (.tmp 77),none⟩]
def r17_20 : MCode := .region 20 (q17_20_0 ++ q17_20_1) false [2, 4]
theorem x17_20 : exec run esc l base r17_20 e σ = (stepOps run esc base q17_20_0 e σ).bind fun x => (stepOps run esc base q17_20_1 x.1 x.2).bind (Zk [2, 4] base) := reg2
def q17_21_0 : List MOper := [⟨some 80,.fieldAddr 0 (.tmp 2),none⟩, ⟨some 81,.load false false 1 (.tmp 80),none⟩, ⟨some 82,.len false (.tmp 81),none⟩, ⟨some 83,.bin .gtr (.tmp 82) (.lit (.int .i64 64)),none⟩, ⟨some 79,.mov false (.tmp 83),none⟩]
def r17_21 : MCode := .region 21 q17_21_0 false [2, 4, 79]
theorem x17_21 : exec run esc l base r17_21 e σ = (stepOps run esc base q17_21_0 e σ).bind (Zk [2, 4, 79] base) := rfl
def q17_22_0 : List MOper := [⟨some 84,.build [(.slice true []), (.int .i64 0), (.int .i64 0), (.bool false)] [],none⟩, ⟨none,.store 4 (.tmp 4) (.tmp 84),none⟩, ⟨some 5,.mov false (.lit (.int .i64 3)),none⟩]
def r17_22 : MCode := .region 22 q17_22_0 false [4, 5]
theorem x17_22 : exec run esc l base r17_22 e σ = (stepOps run esc base q17_22_0 e σ).bind (Zk [4, 5] base) := rfl
def q17_23_0 : List MOper := [⟨some 86,.load false true 4 (.tmp 2),none⟩, ⟨some 87,.callr (.lit (.fn 19 [])) [(.tmp 86)],none⟩, ⟨some 88,.fieldAddr 1 (.tmp 2),none⟩, ⟨some 89,.load false false 1 (.tmp 88),none⟩, ⟨some 90,.bin .gtr (.tmp 87) (.tmp 89),none⟩, ⟨some 85,.mov false (.tmp 90),none⟩]
def r17_23 : MCode := .region 23 q17_23_0 true [2, 4, 85]
theorem x17_23 : exec run esc l base r17_23 e σ = (stepOps run esc base q17_23_0 e σ).bind (Zk [2, 4, 85] base) := rfl
def q17_24_0 : List MOper := [⟨some 91,.build [(.slice true []), (.int .i64 0), (.int .i64 0), (.bool false)] [],none⟩, ⟨none,.store 4 (.tmp 4) (.tmp 91),none⟩, ⟨some 5,.mov false (.lit (.int .i64 31)),none⟩]
def r17_24 : MCode := .region 24 q17_24_0 false [4, 5]
theorem x17_24 : exec run esc l base r17_24 e σ = (stepOps run esc base q17_24_0 e σ).bind (Zk [4, 5] base) := rfl
def q17_25_0 : List MOper := [⟨some 93,.fieldAddr 2 (.tmp 2),none⟩, ⟨some 94,.load false false 1 (.tmp 93),none⟩, ⟨some 95,.bin .gtr (.tmp 94) (.lit (.int .i64 0)),none⟩, ⟨some 92,.mov false (.tmp 95),none⟩]
def r17_25 : MCode := .region 25 q17_25_0 false [2, 4, 92]
theorem x17_25 : exec run esc l base r17_25 e σ = (stepOps run esc base q17_25_0 e σ).bind (Zk [2, 4, 92] base) := rfl
def q17_26_0 : List MOper := [⟨some 96,.fieldAddr 2 (.tmp 2),none⟩, ⟨some 97,.load false false 1 (.tmp 96),none⟩, ⟨some 98,.bin .sub (.tmp 97) (.lit (.int .i64 1)),none⟩, ⟨some 99,.fieldAddr 2 (.tmp 2),none⟩, ⟨none,.store 1 (.tmp 99) (.tmp 98),none⟩]
def r17_26 : MCode := .region 26 q17_26_0 false [2, 4]
theorem x17_26 : exec run esc l base r17_26 e σ = (stepOps run esc base q17_26_0 e σ).bind (Zk [2, 4] base) := rfl
def q17_27_0 : List MOper := [⟨some 100,.load false true 4 (.tmp 2),none⟩, ⟨none,.store 4 (.tmp 4) (.tmp 100),none⟩, ⟨some 5,.mov false (.lit (.int .i64 0)),none⟩]
def r17_27 : MCode := .region 27 q17_27_0 false [4, 5]
theorem x17_27 : exec run esc l base r17_27 e σ = (stepOps run esc base q17_27_0 e σ).bind (Zk [4, 5] base) := rfl
def m17 : MFunc := ⟨(.seq r17_0 (.seq (.block 0 (.seq r17_1 (.cond (.tmp 11) (.seq r17_2 .ret) (.seq r17_3 (.cond (.tmp 20) (.seq r17_4 .ret) (.seq r17_5 (.cond (.tmp 24) (.seq r17_6 (.seq r17_7 .ret)) .skip))))))) (.seq r17_8 (.seq r17_9 (.seq (.seq r17_10 (.cond (.tmp 41) r17_11 .skip)) (.seq r17_12 (.seq (.seq r17_13 (.cond (.tmp 54) (.seq r17_14 .ret) .skip)) (.seq r17_15 (.seq (.seq r17_16 (.cond (.tmp 64) r17_17 .skip)) (.seq (.seq r17_18 (.cond (.tmp 69) r17_19 .skip)) (.seq r17_20 (.seq (.block 1 (.seq r17_21 (.cond (.tmp 79) (.seq r17_22 .ret) (.seq r17_23 (.cond (.tmp 85) (.seq r17_24 .ret) (.seq r17_25 (.cond (.tmp 92) r17_26 .skip))))))) (.seq r17_27 .ret))))))))))))), [.cell 4 true 4, .tmp 5], false, false⟩
def q18_0_0 : List MOper := [⟨some 4,.alloc [(.int .i8 0), (.str []), (.str []), (.int .i64 0)],none⟩]
def r18_0 : MCode := .region 0 q18_0_0 false [0, 1, 4]
theorem x18_0 : exec run esc l base r18_0 e σ = (stepOps run esc base q18_0_0 e σ).bind (Zk [0, 1, 4] base) := rfl
def q18_1_0 : List MOper := [⟨some 5,.mov false (.tmp 0),none⟩, ⟨some 6,.mov false (.tmp 1),none⟩, ⟨some 7,.build [(.int .i8 0), (.str []), (.str []), (.int .i64 0)] [(0, 1, (.lit (.int .i8 0))), (1, 1, (.tmp 5)), (2, 1, (.tmp 6))],none⟩, ⟨none,.store 4 (.tmp 4) (.tmp 7),none⟩]
def r18_1 : MCode := .region 1 q18_1_0 false [4]
theorem x18_1 : exec run esc l base r18_1 e σ = (stepOps run esc base q18_1_0 e σ).bind (Zk [4] base) := rfl
def m18 : MFunc := ⟨(.seq r18_0 (.seq r18_1 .ret)), [.cell 4 true 4], false, false⟩
def q19_0_0 : List MOper := [⟨some 1,.box 4 (.tmp 0),none⟩, ⟨some 2,.mov false (.lit (.int .i64 0)),none⟩]
def r19_0 : MCode := .region 0 q19_0_0 false [1, 2]
theorem x19_0 : exec run esc l base r19_0 e σ = (stepOps run esc base q19_0_0 e σ).bind (Zk [1, 2] base) := rfl
def q19_1_0 : List MOper := [⟨some 4,.fieldAddr 0 (.tmp 1),none⟩, ⟨some 5,.load false false 1 (.tmp 4),none⟩, ⟨some 6,.len false (.tmp 5),none⟩, ⟨some 7,.mov false (.lit (.int .i64 0)),none⟩]
def r19_1 : MCode := .region 1 q19_1_0 false [1, 2, 6, 7]
theorem x19_1 : exec run esc l base r19_1 e σ = (stepOps run esc base q19_1_0 e σ).bind (Zk [1, 2, 6, 7] base) := rfl
def q19_2_0 : List MOper := [⟨some 8,.bin .lss (.tmp 7) (.tmp 6),none⟩]
def r19_2 : MCode := .region 2 q19_2_0 false [1, 2, 6, 7, 8]
theorem x19_2 : exec run esc l base r19_2 e σ = (stepOps run esc base q19_2_0 e σ).bind (Zk [1, 2, 6, 7, 8] base) := rfl
def q19_3_0 : List MOper := [⟨some 9,.mov false (.tmp 7),none⟩, ⟨some 3,.mov false (.tmp 9),none⟩]
def r19_3 : MCode := .region 3 q19_3_0 false [1, 2, 3, 6, 7]
theorem x19_3 : exec run esc l base r19_3 e σ = (stepOps run esc base q19_3_0 e σ).bind (Zk [1, 2, 3, 6, 7] base) := rfl
def q19_4_0 : List MOper := [⟨some 10,.mov false (.tmp 2),none⟩, ⟨some 11,.fieldAddr 0 (.tmp 1),none⟩, ⟨some 12,.load false false 1 (.tmp 11),none⟩, ⟨some 13,.mov false (.tmp 3),none⟩, ⟨some 14,.index 3 (.tmp 12) (.tmp 13),none⟩, ⟨some 15,.fieldAddr 1 (.tmp 14),none⟩]
def q19_4_1 : List MOper := [⟨some 16,.load false false 1 (.tmp 15),none⟩, ⟨some 17,.len true (.tmp 16),none⟩, ⟨some 18,.bin .add (.tmp 10) (.tmp 17),none⟩, ⟨some 2,.mov false (.tmp 18),none⟩]
def r19_4 : MCode := .region 4 (q19_4_0 ++ q19_4_1) false [1, 2, 6, 7]
theorem x19_4 : exec run esc l base r19_4 e σ = (stepOps run esc base q19_4_0 e σ).bind fun x => (stepOps run esc base q19_4_1 x.1 x.2).bind (Zk [1, 2, 6, 7] base) := reg2
def q19_5_0 : List MOper := [⟨some 19,.bin .add (.tmp 7) (.lit (.int .i64 1)),none⟩, ⟨some 7,.mov false (.tmp 19),none⟩]
def r19_5 : MCode := .region 5 q19_5_0 false [1, 2, 6, 7]
theorem x19_5 : exec run esc l base r19_5 e σ = (stepOps run esc base q19_5_0 e σ).bind (Zk [1, 2, 6, 7] base) := rfl
def l19_0 : MCode := (.seq r19_2 (.seq (.cond (.tmp 8) .skip (.exit 0)) (.seq (.block 1 (.seq r19_3 r19_4)) r19_5)))
def q19_6_0 : List MOper := [⟨some 20,.mov false (.tmp 2),none⟩, ⟨some 2,.mov false (.tmp 20),none⟩]
def r19_6 : MCode := .region 6 q19_6_0 false [2]
theorem x19_6 : exec run esc l base r19_6 e σ = (stepOps run esc base q19_6_0 e σ).bind (Zk [2] base) := rfl
def m19 : MFunc := ⟨(.seq r19_0 (.seq (.seq r19_1 (.block 0 (.loop l19_0))) (.seq r19_6 .ret))), [.tmp 2], false, false⟩
def q21_0_0 : List MOper := [⟨some 2,.alloc [(.slice true []), (.int .i64 0), (.int .i64 0), (.bool false)],none⟩, ⟨some 3,.mov false (.lit (.int .i64 0)),none⟩]
def r21_0 : MCode := .region 0 q21_0_0 false [0, 2]
theorem x21_0 : exec run esc l base r21_0 e σ = (stepOps run esc base q21_0_0 e σ).bind (Zk [0, 2] base) := rfl
def q21_1_0 : List MOper := [⟨some 4,.mov false (.tmp 0),none⟩, ⟨some 5,.bin .lss (.tmp 4) (.lit (.int .i64 0)),none⟩, ⟨some 6,.mov false (.tmp 5),none⟩, ⟨some 7,.mov false (.tmp 0),some (6, false)⟩, ⟨some 8,.bin .gtr (.tmp 7) (.lit (.int .i64 65536)),some (6, false)⟩, ⟨some 9,.pick (.tmp 6) (.lit (.bool true)) (.tmp 8),none⟩]
def r21_1 : MCode := .region 1 q21_1_0 false [0, 2, 9]
theorem x21_1 : exec run esc l base r21_1 e σ = (stepOps run esc base q21_1_0 e σ).bind (Zk [0, 2, 9] base) := rfl
def q21_2_0 : List MOper := [⟨some 10,.build [(.slice true []), (.int .i64 0), (.int .i64 0), (.bool false)] [],none⟩, ⟨none,.store 4 (.tmp 2) (.tmp 10),none⟩, ⟨some 3,.mov false (.lit (.int .i64 2)),none⟩]
def r21_2 : MCode := .region 2 q21_2_0 false [2, 3]
theorem x21_2 : exec run esc l base r21_2 e σ = (stepOps run esc base q21_2_0 e σ).bind (Zk [2, 3] base) := rfl
def q21_3_0 : List MOper := [⟨some 11,.mov false (.tmp 0),none⟩, ⟨some 12,.build [(.slice true []), (.int .i64 0), (.int .i64 0), (.bool false)] [(1, 1, (.tmp 11)), (2, 1, (.lit (.int .i64 (-1))))],none⟩, ⟨none,.store 4 (.tmp 2) (.tmp 12),none⟩, ⟨some 3,.mov false (.lit (.int .i64 0)),none⟩]
def r21_3 : MCode := .region 3 q21_3_0 false [2, 3]
theorem x21_3 : exec run esc l base r21_3 e σ = (stepOps run esc base q21_3_0 e σ).bind (Zk [2, 3] base) := rfl
def m21 : MFunc := ⟨(.seq r21_0 (.seq (.seq r21_1 (.cond (.tmp 9) (.seq r21_2 .ret) .skip)) (.seq r21_3 .ret))), [.cell 2 true 4, .tmp 3], false, false⟩
def q23_0_0 : List MOper := [⟨some 2,.mov false (.lit (.bool false)),none⟩]
def r23_0 : MCode := .region 0 q23_0_0 false [0]
theorem x23_0 : exec run esc l base r23_0 e σ = (stepOps run esc base q23_0_0 e σ).bind (Zk [0] base) := rfl
def q23_1_0 : List MOper := [⟨some 4,.mov false (.tmp 0),none⟩, ⟨some 5,.len false (.tmp 4),none⟩, ⟨some 6,.bin .gtr (.tmp 5) (.lit (.int .i64 100)),none⟩]
def r23_1 : MCode := .region 1 q23_1_0 false [0, 6]
theorem x23_1 : exec run esc l base r23_1 e σ = (stepOps run esc base q23_1_0 e σ).bind (Zk [0, 6] base) := rfl
def q23_2_0 : List MOper := [⟨some 2,.mov false (.lit (.bool true)),none⟩]
def r23_2 : MCode := .region 2 q23_2_0 false [2]
theorem x23_2 : exec run esc l base r23_2 e σ = (stepOps run esc base q23_2_0 e σ).bind (Zk [2] base) := rfl
def q23_3_0 : List MOper := [⟨some 3,.mov false (.lit (.int .i64 0)),none⟩]
def r23_3 : MCode := .region 3 q23_3_0 false [0, 3]
theorem x23_3 : exec run esc l base r23_3 e σ = (stepOps run esc base q23_3_0 e σ).bind (Zk [0, 3] base) := rfl
def q23_4_0 : List MOper := [⟨some 7,.mov false (.tmp 3),none⟩, ⟨some 8,.mov false (.tmp 0),none⟩, ⟨some 9,.len false (.tmp 8),none⟩, ⟨some 10,.bin .lss (.tmp 7) (.tmp 9),none⟩]
def r23_4 : MCode := .region 4 q23_4_0 false [0, 3, 10]
theorem x23_4 : exec run esc l base r23_4 e σ = (stepOps run esc base q23_4_0 e σ).bind (Zk [0, 3, 10] base) := rfl
def q23_6_0 : List MOper := [⟨some 13,.mov false (.tmp 0),none⟩, ⟨some 14,.mov false (.tmp 3),none⟩, ⟨some 15,.index 4 (.tmp 13) (.tmp 14),none⟩, ⟨some 16,.fieldAddr 2 (.tmp 15),none⟩, ⟨some 17,.load false false 1 (.tmp 16),none⟩, ⟨some 18,.len true (.tmp 17),none⟩]
def q23_6_1 : List MOper := [⟨some 19,.bin .gtr (.tmp 18) (.lit (.int .i64 4096)),none⟩, ⟨some 20,.mov false (.tmp 19),none⟩, ⟨some 21,.mov false (.tmp 0),some (20, false)⟩, ⟨some 22,.mov false (.tmp 3),some (20, false)⟩, ⟨some 23,.index 4 (.tmp 21) (.tmp 22),some (20, false)⟩, ⟨some 24,.fieldAddr 1 (.tmp 23),some (20, false)⟩]
def q23_6_2 : List MOper := [⟨some 25,.load false false 1 (.tmp 24),some (20, false)⟩, ⟨some 26,.len true (.tmp 25),some (20, false)⟩, ⟨some 27,.bin .gtr (.tmp 26) (.lit (.int .i64 100)),some (20, false)⟩, ⟨some 28,.pick (.tmp 20) (.lit (.bool true)) (.tmp 27),none⟩]
def r23_6 : MCode := .region 6 (q23_6_0 ++ (q23_6_1 ++ q23_6_2)) false [0, 3, 28]
theorem x23_6 : exec run esc l base r23_6 e σ = (stepOps run esc base q23_6_0 e σ).bind fun x => (stepOps run esc base q23_6_1 x.1 x.2).bind fun x => (stepOps run esc base q23_6_2 x.1 x.2).bind (Zk [0, 3, 28] base) := by simp only [r23_6, regN, regA, Option.bind_assoc]
def q23_7_0 : List MOper := [⟨some 2,.mov false (.lit (.bool true)),none⟩]
def r23_7 : MCode := .region 7 q23_7_0 false [2]
theorem x23_7 : exec run esc l base r23_7 e σ = (stepOps run esc base q23_7_0 e σ).bind (Zk [2] base) := rfl
def q23_5_0 : List MOper := [⟨some 11,.mov false (.tmp 3),none⟩, ⟨some 12,.bin .add (.tmp 11) (.lit (.int .i64 1)),none⟩, ⟨some 3,.mov false (.tmp 12),none⟩]
def r23_5 : MCode := .region 5 q23_5_0 false [0, 3]
theorem x23_5 : exec run esc l base r23_5 e σ = (stepOps run esc base q23_5_0 e σ).bind (Zk [0, 3] base) := rfl
def l23_0 : MCode := (.seq (.seq r23_4 (.cond (.tmp 10) .skip (.exit 0))) (.seq (.block 1 (.seq r23_6 (.cond (.tmp 28) (.seq r23_7 .ret) .skip))) r23_5))
def q23_8_0 : List MOper := [⟨some 2,.mov false (.lit (.bool false)),none⟩]
def r23_8 : MCode := .region 8 q23_8_0 false [2]
theorem x23_8 : exec run esc l base r23_8 e σ = (stepOps run esc base q23_8_0 e σ).bind (Zk [2] base) := rfl
def m23 : MFunc := ⟨(.seq r23_0 (.seq (.seq r23_1 (.cond (.tmp 6) (.seq r23_2 .ret) .skip)) (.seq (.seq r23_3 (.block 0 (.loop l23_0))) (.seq r23_8 .ret)))), [.tmp 2], false, false⟩
def q24_0_0 : List MOper := [⟨some 2,.box 4 (.tmp 0),none⟩, ⟨some 4,.alloc [(.slice true []), (.int .i64 0), (.int .i64 0), (.bool false)],none⟩, ⟨some 5,.mov false (.lit (.int .i64 0)),none⟩]
def r24_0 : MCode := .region 0 q24_0_0 false [1, 2, 4]
theorem x24_0 : exec run esc l base r24_0 e σ = (stepOps run esc base q24_0_0 e σ).bind (Zk [1, 2, 4] base) := rfl
def q24_1_0 : List MOper := [⟨some 6,.load false true 4 (.tmp 2),none⟩, ⟨some 7,.call (.lit (.fn 13 [])) [(.tmp 6)],none⟩, ⟨some 8,.bin .neq (.tmp 7) (.lit (.int .i64 0)),none⟩]
def r24_1 : MCode := .region 1 q24_1_0 false [1, 2, 4, 8]
theorem x24_1 : exec run esc l base r24_1 e σ = (stepOps run esc base q24_1_0 e σ).bind (Zk [1, 2, 4, 8] base) := rfl
def q24_2_0 : List MOper := [⟨some 9,.build [(.slice true []), (.int .i64 0), (.int .i64 0), (.bool false)] [],none⟩, ⟨none,.store 4 (.tmp 4) (.tmp 9),none⟩, ⟨some 5,.mov false (.lit (.int .i64 2)),none⟩]
def r24_2 : MCode := .region 2 q24_2_0 false [4, 5]
theorem x24_2 : exec run esc l base r24_2 e σ = (stepOps run esc base q24_2_0 e σ).bind (Zk [4, 5] base) := rfl
def q24_3_0 : List MOper := [⟨some 10,.mov false (.tmp 1),none⟩, ⟨some 11,.max2 (.tmp 10) (.lit (.int .i64 (-1))),none⟩, ⟨some 12,.fieldAddr 2 (.tmp 2),none⟩, ⟨none,.store 1 (.tmp 12) (.tmp 11),none⟩]
def r24_3 : MCode := .region 3 q24_3_0 false [2, 4]
theorem x24_3 : exec run esc l base r24_3 e σ = (stepOps run esc base q24_3_0 e σ).bind (Zk [2, 4] base) := rfl
def q24_4_0 : List MOper := [⟨some 13,.load false true 4 (.tmp 2),none⟩, ⟨none,.store 4 (.tmp 4) (.tmp 13),none⟩, ⟨some 5,.mov false (.lit (.int .i64 0)),none⟩]
def r24_4 : MCode := .region 4 q24_4_0 false [4, 5]
theorem x24_4 : exec run esc l base r24_4 e σ = (stepOps run esc base q24_4_0 e σ).bind (Zk [4, 5] base) := rfl
def m24 : MFunc := ⟨(.seq r24_0 (.seq (.seq r24_1 (.cond (.tmp 8) (.seq r24_2 .ret) .skip)) (.seq r24_3 (.seq r24_4 .ret)))), [.cell 4 true 4, .tmp 5], false, false⟩
def q25_0_0 : List MOper := [⟨some 2,.box 4 (.tmp 0),none⟩, ⟨some 4,.alloc [(.slice true []), (.int .i64 0), (.int .i64 0), (.bool false)],none⟩, ⟨some 5,.mov false (.lit (.int .i64 0)),none⟩]
def r25_0 : MCode := .region 0 q25_0_0 false [1, 2, 4]
theorem x25_0 : exec run esc l base r25_0 e σ = (stepOps run esc base q25_0_0 e σ).bind (Zk [1, 2, 4] base) := rfl
def q25_1_0 : List MOper := [⟨some 9,.load false true 4 (.tmp 2),none⟩, ⟨some 10,.call (.lit (.fn 13 [])) [(.tmp 9)],none⟩, ⟨some 11,.bin .neq (.tmp 10) (.lit (.int .i64 0)),none⟩]
def r25_1 : MCode := .region 1 q25_1_0 false [1, 2, 4, 11]
theorem x25_1 : exec run esc l base r25_1 e σ = (stepOps run esc base q25_1_0 e σ).bind (Zk [1, 2, 4, 11] base) := rfl
def q25_2_0 : List MOper := [⟨some 12,.build [(.slice true []), (.int .i64 0), (.int .i64 0), (.bool false)] [],none⟩, ⟨none,.store 4 (.tmp 4) (.tmp 12),none⟩, ⟨some 5,.mov false (.lit (.int .i64 2)),none⟩]
def r25_2 : MCode := .region 2 q25_2_0 false [4, 5]
theorem x25_2 : exec run esc l base r25_2 e σ = (stepOps run esc base q25_2_0 e σ).bind (Zk [4, 5] base) := rfl
def q25_3_0 : List MOper := [⟨some 13,.fieldAddr 1 (.tmp 2),none⟩, ⟨some 14,.load false false 1 (.tmp 13),none⟩, ⟨some 15,.build [(.slice true []), (.int .i64 0), (.int .i64 0), (.bool false)] [(1, 1, (.tmp 14)), (2, 1, (.lit (.int .i64 (-1))))],none⟩, ⟨some 6,.alloc [(.slice true []), (.int .i64 0), (.int .i64 0), (.bool false)],none⟩, ⟨none,.store 4 (.tmp 6) (.tmp 15),none⟩]
def r25_3 : MCode := .region 3 q25_3_0 false [1, 2, 4, 6]
theorem x25_3 : exec run esc l base r25_3 e σ = (stepOps run esc base q25_3_0 e σ).bind (Zk [1, 2, 4, 6] base) := rfl
def q25_4_0 : List MOper := [⟨some 16,.fieldAddr 0 (.tmp 2),none⟩, ⟨some 17,.load false false 1 (.tmp 16),none⟩, ⟨some 18,.len false (.tmp 17),none⟩, ⟨some 19,.mov false (.lit (.int .i64 0)),none⟩]
def r25_4 : MCode := .region 4 q25_4_0 false [1, 4, 6, 17, 18, 19]
theorem x25_4 : exec run esc l base r25_4 e σ = (stepOps run esc base q25_4_0 e σ).bind (Zk [1, 4, 6, 17, 18, 19] base) := rfl
def q25_5_0 : List MOper := [⟨some 20,.bin .lss (.tmp 19) (.tmp 18),none⟩]
def r25_5 : MCode := .region 5 q25_5_0 false [1, 4, 6, 17, 18, 19, 20]
theorem x25_5 : exec run esc l base r25_5 e σ = (stepOps run esc base q25_5_0 e σ).bind (Zk [1, 4, 6, 17, 18, 19, 20] base) := rfl
def q25_6_0 : List MOper := [⟨some 21,.mov false (.tmp 19),none⟩, ⟨some 22,.index 3 (.tmp 17) (.tmp 19),none⟩, ⟨some 23,.load false true 3 (.tmp 22),none⟩, ⟨some 8,.alloc [(.str []), (.str []), (.int .i64 0)],none⟩, ⟨some 7,.mov false (.tmp 21),none⟩, ⟨none,.store 3 (.tmp 8) (.tmp 23),none⟩]
def r25_6 : MCode := .region 6 q25_6_0 false [1, 4, 6, 7, 8, 17, 18, 19]
theorem x25_6 : exec run esc l base r25_6 e σ = (stepOps run esc base q25_6_0 e σ).bind (Zk [1, 4, 6, 7, 8, 17, 18, 19] base) := rfl
def q25_7_0 : List MOper := [⟨some 24,.mov false (.tmp 7),none⟩, ⟨some 25,.mov false (.tmp 1),none⟩, ⟨some 26,.len false (.tmp 25),none⟩, ⟨some 27,.bin .lss (.tmp 24) (.tmp 26),none⟩]
def r25_7 : MCode := .region 7 q25_7_0 false [1, 4, 6, 7, 8, 17, 18, 19, 27]
theorem x25_7 : exec run esc l base r25_7 e σ = (stepOps run esc base q25_7_0 e σ).bind (Zk [1, 4, 6, 7, 8, 17, 18, 19, 27] base) := rfl
def q25_8_0 : List MOper := [⟨some 28,.fieldAddr 2 (.tmp 8),none⟩, ⟨some 29,.load false false 1 (.tmp 28),none⟩, ⟨some 30,.mov false (.tmp 1),none⟩, ⟨some 31,.mov false (.tmp 7),none⟩, ⟨some 32,.index 1 (.tmp 30) (.tmp 31),none⟩, ⟨some 33,.load false false 1 (.tmp 32),none⟩]
def q25_8_1 : List MOper := [⟨some 34,.max2 (.tmp 33) (.lit (.int .i64 0)),none⟩, ⟨some 35,.fieldAddr 1 (.tmp 8),none⟩, ⟨some 36,.load false false 1 (.tmp 35),none⟩, ⟨some 37,.len true (.tmp 36),none⟩, ⟨some 38,.fieldAddr 2 (.tmp 8),none⟩, ⟨some 39,.load false false 1 (.tmp 38),none⟩]
def q25_8_2 : List MOper := [⟨some 40,.bin .sub (.tmp 37) (.tmp 39),none⟩, ⟨some 41,.min2 (.tmp 34) (.tmp 40),none⟩, ⟨some 42,.bin .add (.tmp 29) (.tmp 41),none⟩, ⟨some 43,.fieldAddr 2 (.tmp 8),none⟩, ⟨none,.store 1 (.tmp 43) (.tmp 42),none⟩]
def r25_8 : MCode := .region 8 (q25_8_0 ++ (q25_8_1 ++ q25_8_2)) true [1, 4, 6, 8, 17, 18, 19]
theorem x25_8 : exec run esc l base r25_8 e σ = (stepOps run esc base q25_8_0 e σ).bind fun x => (stepOps run esc base q25_8_1 x.1 x.2).bind fun x => (stepOps run esc base q25_8_2 x.1 x.2).bind (Zk [1, 4, 6, 8, 17, 18, 19] base) := by simp only [r25_8, regN, regA, Option.bind_assoc]
def q25_9_0 : List MOper := [⟨some 44,.fieldAddr 2 (.tmp 8),none⟩, ⟨some 45,.load false false 1 (.tmp 44),none⟩, ⟨some 46,.bin .gtr (.tmp 45) (.lit (.int .i64 0)),none⟩]
def r25_9 : MCode := .region 9 q25_9_0 false [1, 4, 6, 8, 17, 18, 19, 46]
theorem x25_9 : exec run esc l base r25_9 e σ = (stepOps run esc base q25_9_0 e σ).bind (Zk [1, 4, 6, 8, 17, 18, 19, 46] base) := rfl
def q25_10_0 : List MOper := [⟨some 47,.fieldAddr 1 (.tmp 8),none⟩, ⟨some 48,.load false false 1 (.tmp 47),none⟩, ⟨some 49,.fieldAddr 2 (.tmp 8),none⟩, ⟨some 50,.load false false 1 (.tmp 49),none⟩, ⟨some 51,.substr (.tmp 48) none (some (.tmp 50)),none⟩, ⟨some 52,.fieldAddr 1 (.tmp 8),none⟩]
def q25_10_1 : List MOper := [⟨none,.store 1 (.tmp 52) (.tmp 51),none⟩]
def r25_10 : MCode := .region 10 (q25_10_0 ++ q25_10_1) false [1, 4, 6, 8, 17, 18, 19]
theorem x25_10 : exec run esc l base r25_10 e σ = (stepOps run esc base q25_10_0 e σ).bind fun x => (stepOps run esc base q25_10_1 x.1 x.2).bind (Zk [1, 4, 6, 8, 17, 18, 19] base) := reg2
def q25_11_0 : List MOper := [⟨some 53,.fieldAddr 0 (.tmp 6),none⟩, ⟨some 54,.load true false 1 (.tmp 53),none⟩, ⟨some 55,.load false true 3 (.tmp 8),none⟩, ⟨some 56,.buildSlice 3 [(.tmp 55)],none⟩, ⟨some 57,.append false 3 40 (.tmp 54) (.tmp 56),none⟩, ⟨some 58,.fieldAddr 0 (.tmp 6),none⟩]
def q25_11_1 : List MOper := [⟨none,.store 1 (.tmp 58) (.tmp 57),none⟩]
def r25_11 : MCode := .region 11 (q25_11_0 ++ q25_11_1) false [1, 4, 6, 17, 18, 19]
theorem x25_11 : exec run esc l base r25_11 e σ = (stepOps run esc base q25_11_0 e σ).bind fun x => (stepOps run esc base q25_11_1 x.1 x.2).bind (Zk [1, 4, 6, 17, 18, 19] base) := reg2
def q25_12_0 : List MOper := [⟨some 59,.bin .add (.tmp 19) (.lit (.int .i64 1)),none⟩, ⟨some 19,.mov false (.tmp 59),none⟩]
def r25_12 : MCode := .region 12 q25_12_0 false [1, 4, 6, 17, 18, 19]
theorem x25_12 : exec run esc l base r25_12 e σ = (stepOps run esc base q25_12_0 e σ).bind (Zk [1, 4, 6, 17, 18, 19] base) := rfl
def l25_0 : MCode := (.seq r25_5 (.seq (.cond (.tmp 20) .skip (.exit 0)) (.seq (.block 1 (.seq r25_6 (.seq (.seq r25_7 (.cond (.tmp 27) r25_8 .skip)) (.seq r25_9 (.cond (.tmp 46) (.seq r25_10 r25_11) .skip))))) r25_12)))
def q25_13_0 : List MOper := [⟨some 60,.load false true 4 (.tmp 6),none⟩, ⟨none,.store 4 (.tmp 4) (.tmp 60),none⟩, ⟨some 5,.mov false (.lit (.int .i64 0)),none⟩]
def r25_13 : MCode := .region 13 q25_13_0 false [4, 5]
theorem x25_13 : exec run esc l base r25_13 e σ = (stepOps run esc base q25_13_0 e σ).bind (Zk [4, 5] base) := rfl
def m25 : MFunc := ⟨(.seq r25_0 (.seq (.seq r25_1 (.cond (.tmp 11) (.seq r25_2 .ret) .skip)) (.seq r25_3 (.seq (.seq r25_4 (.block 0 (.loop l25_0))) (.seq r25_13 .ret))))), [.cell 4 true 4, .tmp 5], false, false⟩
def q26_0_0 : List MOper := [⟨some 2,.box 4 (.tmp 0),none⟩, ⟨some 3,.box 4 (.tmp 1),none⟩, ⟨some 4,.mov false (.lit (.bool false)),none⟩]
def r26_0 : MCode := .region 0 q26_0_0 false [2, 3]
theorem x26_0 : exec run esc l base r26_0 e σ = (stepOps run esc base q26_0_0 e σ).bind (Zk [2, 3] base) := rfl
def q26_1_0 : List MOper := [⟨some 5,.fieldAddr 1 (.tmp 2),none⟩, ⟨some 6,.load false false 1 (.tmp 5),none⟩, ⟨some 7,.fieldAddr 1 (.tmp 3),none⟩, ⟨some 8,.load false false 1 (.tmp 7),none⟩, ⟨some 9,.bin .eql (.tmp 6) (.tmp 8),none⟩, ⟨some 10,.mov false (.tmp 9),none⟩]
def q26_1_1 : List MOper := [⟨some 11,.fieldAddr 2 (.tmp 2),some (10, true)⟩, ⟨some 12,.load false false 1 (.tmp 11),some (10, true)⟩, ⟨some 13,.fieldAddr 2 (.tmp 3),some (10, true)⟩, ⟨some 14,.load false false 1 (.tmp 13),some (10, true)⟩, ⟨some 15,.bin .eql (.tmp 12) (.tmp 14),some (10, true)⟩, ⟨some 16,.pick (.tmp 10) (.tmp 15) (.lit (.bool false)),none⟩]
def q26_1_2 : List MOper := [⟨some 17,.mov false (.tmp 16),none⟩, ⟨some 18,.fieldAddr 3 (.tmp 2),some (17, true)⟩, ⟨some 19,.load false false 1 (.tmp 18),some (17, true)⟩, ⟨some 20,.fieldAddr 3 (.tmp 3),some (17, true)⟩, ⟨some 21,.load false false 1 (.tmp 20),some (17, true)⟩, ⟨some 22,.eqb false (.tmp 19) (.tmp 21),some (17, true)⟩]
def q26_1_3 : List MOper := [⟨some 23,.pick (.tmp 17) (.tmp 22) (.lit (.bool false)),none⟩, ⟨some 24,.mov false (.tmp 23),none⟩, ⟨some 25,.fieldAddr 0 (.tmp 2),some (24, true)⟩, ⟨some 26,.load false false 1 (.tmp 25),some (24, true)⟩, ⟨some 27,.fieldAddr 0 (.tmp 3),some (24, true)⟩, ⟨some 28,.load false false 1 (.tmp 27),some (24, true)⟩]
def q26_1_4 : List MOper := [⟨some 29,.call (.lit (.fn 48 [])) [(.tmp 26), (.tmp 28)],some (24, true)⟩, ⟨some 30,.pick (.tmp 24) (.tmp 29) (.lit (.bool false)),none⟩, ⟨some 4,.mov false (.tmp 30),none⟩]
def r26_1 : MCode := .region 1 (q26_1_0 ++ (q26_1_1 ++ (q26_1_2 ++ (q26_1_3 ++ q26_1_4)))) false [4]
theorem x26_1 : exec run esc l base r26_1 e σ = (stepOps run esc base q26_1_0 e σ).bind fun x => (stepOps run esc base q26_1_1 x.1 x.2).bind fun x => (stepOps run esc base q26_1_2 x.1 x.2).bind fun x => (stepOps run esc base q26_1_3 x.1 x.2).bind fun x => (stepOps run esc base q26_1_4 x.1 x.2).bind (Zk [4] base) := by simp only [r26_1, regN, regA, Option.bind_assoc]
def m26 : MFunc := ⟨(.seq r26_0 (.seq r26_1 .ret)), [.tmp 4], false, false⟩
def q40_0_0 : List MOper := [⟨some 4,.mov false (.lit (.str [])),none⟩]
def r40_0 : MCode := .region 0 q40_0_0 false [0, 1]
theorem x40_0 : exec run esc l base r40_0 e σ = (stepOps run esc base q40_0_0 e σ).bind (Zk [0, 1] base) := rfl
def q40_1_0 : List MOper := [⟨some 7,.mov false (.tmp 0),none⟩, ⟨some 8,.bin .eql (.tmp 7) (.lit (.str [])),none⟩, ⟨some 9,.mov false (.tmp 8),none⟩, ⟨some 10,.mov false (.tmp 1),some (9, false)⟩, ⟨some 11,.bin .eql (.tmp 10) (.lit (.str [])),some (9, false)⟩, ⟨some 12,.pick (.tmp 9) (.lit (.bool true)) (.tmp 11),none⟩]
def r40_1 : MCode := .region 1 q40_1_0 false [0, 1, 12]
theorem x40_1 : exec run esc l base r40_1 e σ = (stepOps run esc base q40_1_0 e σ).bind (Zk [0, 1, 12] base) := rfl
def q40_2_0 : List MOper := [⟨some 13,.mov false (.tmp 0),none⟩, ⟨some 4,.mov false (.tmp 13),none⟩]
def r40_2 : MCode := .region 2 q40_2_0 false [4]
theorem x40_2 : exec run esc l base r40_2 e σ = (stepOps run esc base q40_2_0 e σ).bind (Zk [4] base) := rfl
def q40_3_0 : List MOper := [⟨some 14,.mov false (.tmp 1),none⟩, ⟨some 15,.len true (.tmp 14),none⟩, ⟨some 16,.bin .eql (.tmp 15) (.lit (.int .i64 1)),none⟩, ⟨some 17,.mov false (.tmp 16),none⟩, ⟨some 18,.mov false (.tmp 1),some (17, true)⟩, ⟨some 19,.at (.tmp 18) (.lit (.int .i64 0)),some (17, true)⟩]
def q40_3_1 : List MOper := [⟨some 20,.bin .lss (.tmp 19) (.lit (.int .u8 128)),some (17, true)⟩, ⟨some 21,.pick (.tmp 17) (.tmp 20) (.lit (.bool false)),none⟩]
def r40_3 : MCode := .region 3 (q40_3_0 ++ q40_3_1) false [0, 1, 21]
theorem x40_3 : exec run esc l base r40_3 e σ = (stepOps run esc base q40_3_0 e σ).bind fun x => (stepOps run esc base q40_3_1 x.1 x.2).bind (Zk [0, 1, 21] base) := reg2
def q40_4_0 : List MOper := [⟨some 22,.mov false (.tmp 0),none⟩, ⟨some 23,.mov false (.tmp 1),none⟩, ⟨some 24,.at (.tmp 23) (.lit (.int .i64 0)),none⟩, ⟨some 25,.callr (.lit (.fn 62 [])) [(.tmp 22), (.tmp 24)],none⟩, ⟨some 26,.mov false (.tmp 1),none⟩, ⟨some 27,.at (.tmp 26) (.lit (.int .i64 0)),none⟩]
def q40_4_1 : List MOper := [⟨some 28,.callr (.lit (.fn 61 [])) [(.tmp 25), (.tmp 27)],none⟩, ⟨some 4,.mov false (.tmp 28),none⟩]
def r40_4 : MCode := .region 4 (q40_4_0 ++ q40_4_1) true [4]
theorem x40_4 : exec run esc l base r40_4 e σ = (stepOps run esc base q40_4_0 e σ).bind fun x => (stepOps run esc base q40_4_1 x.1 x.2).bind (Zk [4] base) := reg2
def q40_5_0 : List MOper := [⟨some 30,.mov false (.tmp 1),none⟩, ⟨some 31,.call (.lit (.fn 63 [])) [(.tmp 30)],none⟩, ⟨some 29,.mov false (.tmp 31),none⟩, ⟨some 32,.extract 0 (.tmp 29),none⟩, ⟨some 33,.extract 1 (.tmp 29),none⟩, ⟨some 5,.alloc [(.bool false), (.bool false), (.bool false), (.bool false), (.bool false), (.bool false), (.bool false), (.bool false), (.bool false), (.bool false), (.bool false), (.bool false), (.bool false), (.bool false), (.bool false), (.bool false), (.bool false), (.bool false), (.bool false), (.bool false), (.bool false), (.bool false), (.bool false), (.bool false), (.bool false), (.bool false), (.bool false), (.bool false), (.bool false), (.bool false), (.bool false), (.bool false), (.bool false), (.bool false), (.bool false), (.bool false), (.bool false), (.bool false), (.bool false), (.bool false), (.bool false), (.bool false), (.bool false), (.bool false), (.bool false), (.bool false), (.bool false), (.bool false), (.bool false), (.bool false), (.bool false), (.bool false), (.bool false), (.bool false), (.bool false), (.bool false), (.bool false), (.bool false), (.bool false), (.bool false), (.bool false), (.bool false), (.bool false), (.bool false), (.bool false), (.bool false), (.bool false), (.bool false), (.bool false), (.bool false), (.bool false), (.bool false), (.bool false), (.bool false), (.bool false), (.bool false), (.bool false), (.bool false), (.bool false), (.bool false), (.bool false), (.bool false), (.bool false), (.bool false), (.bool false), (.bool false), (.bool false), (.bool false), (.bool false), (.bool false), (.bool false), (.bool false), (.bool false), (.bool false), (.bool false), (.bool false), (.bool false), (.bool false), (.bool false), (.bool false), (.bool false), (.bool false), (.bool false), (.bool false), (.bool false), (.bool false), (.bool false), (.bool false), (.bool false), (.bool false), (.bool false), (.bool false), (.bool false), (.bool false), (.bool false), (.bool false), (.bool false), (.bool false), (.bool false), (.bool false), (.bool false), (.bool false), (.bool false), (.bool false), (.bool false), (.bool false), (.bool false), (.bool false), (.bool false), (.bool false), (.bool false), (.bool false), (.bool false), (.bool false), (.bool false), (.bool false), (.bool false), (.bool false), (.bool false), (.bool false), (.bool false), (.bool false), (.bool false), (.bool false), (.bool false), (.bool false), (.bool false), (.bool false), (.bool false), (.bool false), (.bool false), (.bool false), (.bool false), (.bool false), (.bool false), (.bool false), (.bool false), (.bool false), (.bool false), (.bool false), (.bool false), (.bool false), (.bool false), (.bool false), (.bool false), (.bool false), (.bool false), (.bool false), (.bool false), (.bool false), (.bool false), (.bool false), (.bool false), (.bool false), (.bool false), (.bool false), (.bool false), (.bool false), (.bool false), (.bool false), (.bool false), (.bool false), (.bool false), (.bool false), (.bool false), (.bool false), (.bool false), (.bool false), (.bool false), (.bool false), (.bool false), (.bool false), (.bool false), (.bool false), (.bool false), (.bool false), (.bool false), (.bool false), (.bool false), (.bool false), (.bool false), (.bool false), (.bool false), (.bool false), (.bool false), (.bool false), (.bool false), (.bool false), (.bool false), (.bool false), (.bool false), (.bool false), (.bool false), (.bool false), (.bool false), (.bool false), (.bool false), (.bool false), (.bool false), (.bool false), (.bool false), (.bool false), (.bool false), (.bool false), (.bool false), (.bool false), (.bool false), (.bool false), (.bool false), (.bool false), (.bool false), (.bool false), (.bool false), (.bool false), (.bool false), (.bool false), (.bool false), (.bool false), (.bool false), (.bool false), (.bool false), (.bool false), (.bool false), (.bool false), (.bool false), (.bool false), (.bool false), (.bool false), (.bool false), (.bool false), (.bool false), (.bool false), (.bool false), (.bool false), (.bool false), (.bool false)],none⟩]
def q40_5_1 : List MOper := [⟨none,.store 256 (.tmp 5) (.tmp 32),none⟩, ⟨some 6,.mov false (.tmp 33),none⟩]
def r40_5 : MCode := .region 5 (q40_5_0 ++ q40_5_1) false [0, 1, 5, 6]
theorem x40_5 : exec run esc l base r40_5 e σ = (stepOps run esc base q40_5_0 e σ).bind fun x => (stepOps run esc base q40_5_1 x.1 x.2).bind (Zk [0, 1, 5, 6] base) := reg2
def q40_6_0 : List MOper := [⟨some 34,.mov false (.tmp 6),none⟩]
def r40_6 : MCode := .region 6 q40_6_0 false [0, 1, 5, 34]
theorem x40_6 : exec run esc l base r40_6 e σ = (stepOps run esc base q40_6_0 e σ).bind (Zk [0, 1, 5, 34] base) := rfl
def q40_7_0 : List MOper := [⟨some 35,.mov false (.tmp 0),none⟩, ⟨some 36,.call (.lit (.fn 65 [])) [(.tmp 35), (.tmp 5)],none⟩, ⟨some 37,.call (.lit (.fn 64 [])) [(.tmp 36), (.tmp 5)],none⟩, ⟨some 4,.mov false (.tmp 37),none⟩]
def r40_7 : MCode := .region 7 q40_7_0 false [4]
theorem x40_7 : exec run esc l base r40_7 e σ = (stepOps run esc base q40_7_0 e σ).bind (Zk [4] base) := rfl
def q40_8_0 : List MOper := [⟨some 38,.mov false (.tmp 0),none⟩, ⟨some 39,.mov false (.tmp 1),none⟩, ⟨some 40,.call (.lit (.fn 67 [])) [(.tmp 38), (.tmp 39)],none⟩, ⟨some 41,.mov false (.tmp 1),none⟩, ⟨some 42,.call (.lit (.fn 66 [])) [(.tmp 40), (.tmp 41)],none⟩, ⟨some 4,.mov false (.tmp 42),none⟩]
def r40_8 : MCode := .region 8 q40_8_0 false [4]
theorem x40_8 : exec run esc l base r40_8 e σ = (stepOps run esc base q40_8_0 e σ).bind (Zk [4] base) := rfl
def m40 : MFunc := ⟨(.seq r40_0 (.seq (.seq r40_1 (.cond (.tmp 12) (.seq r40_2 .ret) .skip)) (.seq (.seq r40_3 (.cond (.tmp 21) (.seq r40_4 .ret) .skip)) (.seq (.seq r40_5 (.seq r40_6 (.cond (.tmp 34) (.seq r40_7 .ret) .skip))) (.seq r40_8 .ret))))), [.tmp 4], false, false⟩
def q41_0_0 : List MOper := [⟨some 2,.mov false (.lit (.bool false)),none⟩]
def r41_0 : MCode := .region 0 q41_0_0 false [0]
theorem x41_0 : exec run esc l base r41_0 e σ = (stepOps run esc base q41_0_0 e σ).bind (Zk [0] base) := rfl
def q41_1_0 : List MOper := [⟨some 5,.mov false (.tmp 0),none⟩, ⟨some 6,.s2b (.tmp 5),none⟩, ⟨some 7,.len false (.tmp 6),none⟩, ⟨some 8,.mov false (.lit (.int .i64 0)),none⟩]
def r41_1 : MCode := .region 1 q41_1_0 false [6, 7, 8]
theorem x41_1 : exec run esc l base r41_1 e σ = (stepOps run esc base q41_1_0 e σ).bind (Zk [6, 7, 8] base) := rfl
def q41_2_0 : List MOper := [⟨some 9,.bin .lss (.tmp 8) (.tmp 7),none⟩]
def r41_2 : MCode := .region 2 q41_2_0 false [6, 7, 8, 9]
theorem x41_2 : exec run esc l base r41_2 e σ = (stepOps run esc base q41_2_0 e σ).bind (Zk [6, 7, 8, 9] base) := rfl
def q41_3_0 : List MOper := [⟨some 10,.index 1 (.tmp 6) (.tmp 8),none⟩, ⟨some 11,.load false false 1 (.tmp 10),none⟩, ⟨some 4,.mov false (.tmp 11),none⟩]
def r41_3 : MCode := .region 3 q41_3_0 false [4, 6, 7, 8]
theorem x41_3 : exec run esc l base r41_3 e σ = (stepOps run esc base q41_3_0 e σ).bind (Zk [4, 6, 7, 8] base) := rfl
def q41_4_0 : List MOper := [⟨some 12,.mov false (.tmp 4),none⟩, ⟨some 13,.call (.lit (.fn 68 [])) [(.lit (.str [97, 98, 99, 100, 101, 102, 103, 104, 105, 106, 107, 108, 109, 110, 111, 112, 113, 114, 115, 116, 117, 118, 119, 120, 121, 122, 48, 49, 50, 51, 52, 53, 54, 55, 56, 57, 46])), (.tmp 12)],none⟩, ⟨some 14,.bin .lss (.tmp 13) (.lit (.int .i64 0)),none⟩]
def r41_4 : MCode := .region 4 q41_4_0 false [6, 7, 8, 14]
theorem x41_4 : exec run esc l base r41_4 e σ = (stepOps run esc base q41_4_0 e σ).bind (Zk [6, 7, 8, 14] base) := rfl
def q41_5_0 : List MOper := [⟨some 2,.mov false (.lit (.bool false)),none⟩]
def r41_5 : MCode := .region 5 q41_5_0 false [2]
theorem x41_5 : exec run esc l base r41_5 e σ = (stepOps run esc base q41_5_0 e σ).bind (Zk [2] base) := rfl
def q41_6_0 : List MOper := [⟨some 15,.bin .add (.tmp 8) (.lit (.int .i64 1)),none⟩, ⟨some 8,.mov false (.tmp 15),none⟩]
def r41_6 : MCode := .region 6 q41_6_0 false [6, 7, 8]
theorem x41_6 : exec run esc l base r41_6 e σ = (stepOps run esc base q41_6_0 e σ).bind (Zk [6, 7, 8] base) := rfl
def l41_0 : MCode := (.seq r41_2 (.seq (.cond (.tmp 9) .skip (.exit 0)) (.seq (.block 1 (.seq r41_3 (.seq r41_4 (.cond (.tmp 14) (.seq r41_5 .ret) .skip)))) r41_6)))
def q41_7_0 : List MOper := [⟨some 2,.mov false (.lit (.bool true)),none⟩]
def r41_7 : MCode := .region 7 q41_7_0 false [2]
theorem x41_7 : exec run esc l base r41_7 e σ = (stepOps run esc base q41_7_0 e σ).bind (Zk [2] base) := rfl
def m41 : MFunc := ⟨(.seq r41_0 (.seq (.seq r41_1 (.block 0 (.loop l41_0))) (.seq r41_7 .ret))), [.tmp 2], false, false⟩
def q42_0_0 : List MOper := [⟨some 4,.mov false (.lit (.int .i64 0)),none⟩]
def r42_0 : MCode := .region 0 q42_0_0 false [0, 1]
theorem x42_0 : exec run esc l base r42_0 e σ = (stepOps run esc base q42_0_0 e σ).bind (Zk [0, 1] base) := rfl
def q42_1_0 : List MOper := [⟨some 6,.mov false (.tmp 0),none⟩, ⟨some 7,.len false (.tmp 6),none⟩, ⟨some 8,.mov false (.lit (.int .i64 0)),none⟩]
def r42_1 : MCode := .region 1 q42_1_0 false [0, 1, 7, 8]
theorem x42_1 : exec run esc l base r42_1 e σ = (stepOps run esc base q42_1_0 e σ).bind (Zk [0, 1, 7, 8] base) := rfl
def q42_2_0 : List MOper := [⟨some 9,.bin .lss (.tmp 8) (.tmp 7),none⟩]
def r42_2 : MCode := .region 2 q42_2_0 false [0, 1, 7, 8, 9]
theorem x42_2 : exec run esc l base r42_2 e σ = (stepOps run esc base q42_2_0 e σ).bind (Zk [0, 1, 7, 8, 9] base) := rfl
def q42_3_0 : List MOper := [⟨some 10,.mov false (.tmp 8),none⟩, ⟨some 5,.mov false (.tmp 10),none⟩]
def r42_3 : MCode := .region 3 q42_3_0 false [0, 1, 5, 7, 8]
theorem x42_3 : exec run esc l base r42_3 e σ = (stepOps run esc base q42_3_0 e σ).bind (Zk [0, 1, 5, 7, 8] base) := rfl
def q42_4_0 : List MOper := [⟨some 11,.mov false (.tmp 1),none⟩, ⟨some 12,.mov false (.tmp 0),none⟩, ⟨some 13,.mov false (.tmp 5),none⟩, ⟨some 14,.index 3 (.tmp 12) (.tmp 13),none⟩, ⟨some 15,.load false true 3 (.tmp 14),none⟩, ⟨some 16,.call (.tmp 11) [(.tmp 15)],none⟩]
def r42_4 : MCode := .region 4 q42_4_0 false [0, 1, 5, 7, 8, 16]
theorem x42_4 : exec run esc l base r42_4 e σ = (stepOps run esc base q42_4_0 e σ).bind (Zk [0, 1, 5, 7, 8, 16] base) := rfl
def q42_5_0 : List MOper := [⟨some 17,.mov false (.tmp 5),none⟩, ⟨some 4,.mov false (.tmp 17),none⟩]
def r42_5 : MCode := .region 5 q42_5_0 false [4]
theorem x42_5 : exec run esc l base r42_5 e σ = (stepOps run esc base q42_5_0 e σ).bind (Zk [4] base) := rfl
def q42_6_0 : List MOper := [⟨some 18,.bin .add (.tmp 8) (.lit (.int .i64 1)),none⟩, ⟨some 8,.mov false (.tmp 18),none⟩]
def r42_6 : MCode := .region 6 q42_6_0 false [0, 1, 7, 8]
theorem x42_6 : exec run esc l base r42_6 e σ = (stepOps run esc base q42_6_0 e σ).bind (Zk [0, 1, 7, 8] base) := rfl
def l42_0 : MCode := (.seq r42_2 (.seq (.cond (.tmp 9) .skip (.exit 0)) (.seq (.block 1 (.seq r42_3 (.seq r42_4 (.cond (.tmp 16) (.seq r42_5 .ret) .skip)))) r42_6)))
def q42_7_0 : List MOper := [⟨some 4,.mov false (.lit (.int .i64 (-1))),none⟩]
def r42_7 : MCode := .region 7 q42_7_0 false [4]
theorem x42_7 : exec run esc l base r42_7 e σ = (stepOps run esc base q42_7_0 e σ).bind (Zk [4] base) := rfl
def m42 : MFunc := ⟨(.seq r42_0 (.seq (.seq r42_1 (.block 0 (.loop l42_0))) (.seq r42_7 .ret))), [.tmp 4], false, false⟩
def q43_0_0 : List MOper := [⟨some 2,.box 3 (.tmp 0),none⟩, ⟨some 3,.mov false (.lit (.bool false)),none⟩]
def r43_0 : MCode := .region 0 q43_0_0 false [1, 2]
theorem x43_0 : exec run esc l base r43_0 e σ = (stepOps run esc base q43_0_0 e σ).bind (Zk [1, 2] base) := rfl
def q43_1_0 : List MOper := [⟨some 4,.fieldAddr 0 (.tmp 2),none⟩, ⟨some 5,.load false false 1 (.tmp 4),none⟩, ⟨some 6,.load false false 1 (.tmp 1),none⟩, ⟨some 7,.bin .eql (.tmp 5) (.tmp 6),none⟩, ⟨some 3,.mov false (.tmp 7),none⟩]
def r43_1 : MCode := .region 1 q43_1_0 false [3]
theorem x43_1 : exec run esc l base r43_1 e σ = (stepOps run esc base q43_1_0 e σ).bind (Zk [3] base) := rfl
def m43 : MFunc := ⟨(.seq r43_0 (.seq r43_1 .ret)), [.tmp 3], false, false⟩
def q44_0_0 : List MOper := [⟨some 2,.mov false (.lit (.bool false)),none⟩]
def r44_0 : MCode := .region 0 q44_0_0 false [0]
theorem x44_0 : exec run esc l base r44_0 e σ = (stepOps run esc base q44_0_0 e σ).bind (Zk [0] base) := rfl
def q44_1_0 : List MOper := [⟨some 3,.mov false (.tmp 0),none⟩, ⟨some 4,.nilCheck (.tmp 3),none⟩, ⟨some 5,.fieldAddr 1 (.tmp 4),none⟩, ⟨some 6,.load false false 1 (.tmp 5),none⟩, ⟨some 7,.call (.lit (.fn 14 [])) [(.tmp 6)],none⟩, ⟨some 8,.un .not (.tmp 7),none⟩]
def r44_1 : MCode := .region 1 q44_1_0 false [0, 8]
theorem x44_1 : exec run esc l base r44_1 e σ = (stepOps run esc base q44_1_0 e σ).bind (Zk [0, 8] base) := rfl
def q44_2_0 : List MOper := [⟨some 2,.mov false (.lit (.bool false)),none⟩]
def r44_2 : MCode := .region 2 q44_2_0 false [2]
theorem x44_2 : exec run esc l base r44_2 e σ = (stepOps run esc base q44_2_0 e σ).bind (Zk [2] base) := rfl
def q44_3_0 : List MOper := [⟨some 9,.mov false (.tmp 0),none⟩, ⟨some 10,.nilCheck (.tmp 9),none⟩, ⟨some 11,.fieldAddr 0 (.tmp 10),none⟩, ⟨some 12,.load false false 1 (.tmp 11),none⟩]
def r44_3 : MCode := .region 3 q44_3_0 false [0, 12]
theorem x44_3 : exec run esc l base r44_3 e σ = (stepOps run esc base q44_3_0 e σ).bind (Zk [0, 12] base) := rfl
def q44_4_0 : List MOper := [⟨some 14,.bin .eql (.tmp 12) (.lit (.int .i8 0)),none⟩, ⟨some 13,.mov false (.tmp 14),none⟩]
def r44_4 : MCode := .region 4 q44_4_0 false [0, 12, 13]
theorem x44_4 : exec run esc l base r44_4 e σ = (stepOps run esc base q44_4_0 e σ).bind (Zk [0, 12, 13] base) := rfl
def q44_5_0 : List MOper := [⟨some 15,.bin .eql (.tmp 12) (.lit (.int .i8 2)),none⟩, ⟨some 13,.mov false (.tmp 15),none⟩]
def r44_5 : MCode := .region 5 q44_5_0 false [0, 12, 13]
theorem x44_5 : exec run esc l base r44_5 e σ = (stepOps run esc base q44_5_0 e σ).bind (Zk [0, 12, 13] base) := rfl
def q44_6_0 : List MOper := [⟨some 16,.mov false (.tmp 0),none⟩, ⟨some 17,.nilCheck (.tmp 16),none⟩, ⟨some 18,.fieldAddr 2 (.tmp 17),none⟩, ⟨some 19,.load false false 1 (.tmp 18),none⟩, ⟨some 20,.bin .neq (.tmp 19) (.lit (.str [])),none⟩, ⟨some 21,.mov false (.tmp 20),none⟩]
def q44_6_1 : List MOper := [⟨some 22,.mov false (.tmp 0),some (21, true)⟩, ⟨some 23,.nilCheck (.tmp 22),some (21, true)⟩, ⟨some 24,.fieldAddr 3 (.tmp 23),some (21, true)⟩, ⟨some 25,.load false false 1 (.tmp 24),some (21, true)⟩, ⟨some 26,.bin .eql (.tmp 25) (.lit (.int .i64 0)),some (21, true)⟩, ⟨some 27,.pick (.tmp 21) (.tmp 26) (.lit (.bool false)),none⟩]
def q44_6_2 : List MOper := [⟨some 2,.mov false (.tmp 27),none⟩]
def r44_6 : MCode := .region 6 (q44_6_0 ++ (q44_6_1 ++ q44_6_2)) false [2]
theorem x44_6 : exec run esc l base r44_6 e σ = (stepOps run esc base q44_6_0 e σ).bind fun x => (stepOps run esc base q44_6_1 x.1 x.2).bind fun x => (stepOps run esc base q44_6_2 x.1 x.2).bind (Zk [2] base) := by simp only [r44_6, regN, regA, Option.bind_assoc]
def q44_7_0 : List MOper := [⟨some 29,.bin .eql (.tmp 12) (.lit (.int .i8 3)),none⟩, ⟨some 28,.mov false (.tmp 29),none⟩]
def r44_7 : MCode := .region 7 q44_7_0 false [0, 12, 28]
theorem x44_7 : exec run esc l base r44_7 e σ = (stepOps run esc base q44_7_0 e σ).bind (Zk [0, 12, 28] base) := rfl
def q44_8_0 : List MOper := [⟨some 30,.mov false (.tmp 0),none⟩, ⟨some 31,.nilCheck (.tmp 30),none⟩, ⟨some 32,.fieldAddr 2 (.tmp 31),none⟩, ⟨some 33,.load false false 1 (.tmp 32),none⟩, ⟨some 34,.bin .eql (.tmp 33) (.lit (.str [])),none⟩, ⟨some 35,.mov false (.tmp 34),none⟩]
def q44_8_1 : List MOper := [⟨some 36,.mov false (.tmp 0),some (35, true)⟩, ⟨some 37,.nilCheck (.tmp 36),some (35, true)⟩, ⟨some 38,.fieldAddr 3 (.tmp 37),some (35, true)⟩, ⟨some 39,.load false false 1 (.tmp 38),some (35, true)⟩, ⟨some 40,.bin .geq (.tmp 39) (.lit (.int .i64 0)),some (35, true)⟩, ⟨some 41,.pick (.tmp 35) (.tmp 40) (.lit (.bool false)),none⟩]
def q44_8_2 : List MOper := [⟨some 2,.mov false (.tmp 41),none⟩]
def r44_8 : MCode := .region 8 (q44_8_0 ++ (q44_8_1 ++ q44_8_2)) false [2]
theorem x44_8 : exec run esc l base r44_8 e σ = (stepOps run esc base q44_8_0 e σ).bind fun x => (stepOps run esc base q44_8_1 x.1 x.2).bind fun x => (stepOps run esc base q44_8_2 x.1 x.2).bind (Zk [2] base) := by simp only [r44_8, regN, regA, Option.bind_assoc]
def q44_9_0 : List MOper := [⟨some 43,.bin .eql (.tmp 12) (.lit (.int .i8 1)),none⟩, ⟨some 42,.mov false (.tmp 43),none⟩]
def r44_9 : MCode := .region 9 q44_9_0 false [0, 12, 42]
theorem x44_9 : exec run esc l base r44_9 e σ = (stepOps run esc base q44_9_0 e σ).bind (Zk [0, 12, 42] base) := rfl
def q44_10_0 : List MOper := [⟨some 44,.bin .eql (.tmp 12) (.lit (.int .i8 4)),none⟩, ⟨some 42,.mov false (.tmp 44),none⟩]
def r44_10 : MCode := .region 10 q44_10_0 false [0, 42]
theorem x44_10 : exec run esc l base r44_10 e σ = (stepOps run esc base q44_10_0 e σ).bind (Zk [0, 42] base) := rfl
def q44_11_0 : List MOper := [⟨some 45,.mov false (.tmp 0),none⟩, ⟨some 46,.nilCheck (.tmp 45),none⟩, ⟨some 47,.fieldAddr 2 (.tmp 46),none⟩, ⟨some 48,.load false false 1 (.tmp 47),none⟩, ⟨some 49,.bin .eql (.tmp 48) (.lit (.str [])),none⟩, ⟨some 50,.mov false (.tmp 49),none⟩]
def q44_11_1 : List MOper := [⟨some 51,.mov false (.tmp 0),some (50, true)⟩, ⟨some 52,.nilCheck (.tmp 51),some (50, true)⟩, ⟨some 53,.fieldAddr 3 (.tmp 52),some (50, true)⟩, ⟨some 54,.load false false 1 (.tmp 53),some (50, true)⟩, ⟨some 55,.bin .eql (.tmp 54) (.lit (.int .i64 0)),some (50, true)⟩, ⟨some 56,.pick (.tmp 50) (.tmp 55) (.lit (.bool false)),none⟩]
def q44_11_2 : List MOper := [⟨some 2,.mov false (.tmp 56),none⟩]
def r44_11 : MCode := .region 11 (q44_11_0 ++ (q44_11_1 ++ q44_11_2)) false [2]
theorem x44_11 : exec run esc l base r44_11 e σ = (stepOps run esc base q44_11_0 e σ).bind fun x => (stepOps run esc base q44_11_1 x.1 x.2).bind fun x => (stepOps run esc base q44_11_2 x.1 x.2).bind (Zk [2] base) := by simp only [r44_11, regN, regA, Option.bind_assoc]
def q44_12_0 : List MOper := [⟨some 2,.mov false (.lit (.bool false)),none⟩]
def r44_12 : MCode := .region 12 q44_12_0 false [2]
theorem x44_12 : exec run esc l base r44_12 e σ = (stepOps run esc base q44_12_0 e σ).bind (Zk [2] base) := rfl
def m44 : MFunc := ⟨(.seq r44_0 (.seq (.seq r44_1 (.cond (.tmp 8) (.seq r44_2 .ret) .skip)) (.seq (.seq r44_3 (.block 0 (.seq (.seq r44_4 (.cond (.tmp 13) .skip r44_5)) (.cond (.tmp 13) (.seq r44_6 .ret) (.seq r44_7 (.cond (.tmp 28) (.seq r44_8 .ret) (.seq (.seq r44_9 (.cond (.tmp 42) .skip r44_10)) (.cond (.tmp 42) (.seq r44_11 .ret) .skip)))))))) (.seq r44_12 .ret)))), [.tmp 2], false, false⟩
def q45_0_0 : List MOper := [⟨some 6,.mov false (.lit (.int .i64 0)),none⟩, ⟨some 7,.mov false (.lit (.bool false)),none⟩]
def r45_0 : MCode := .region 0 q45_0_0 false [0, 1, 2]
theorem x45_0 : exec run esc l base r45_0 e σ = (stepOps run esc base q45_0_0 e σ).bind (Zk [0, 1, 2] base) := rfl
def q45_1_0 : List MOper := [⟨some 10,.mov false (.tmp 0),none⟩, ⟨some 11,.len false (.tmp 10),none⟩, ⟨some 12,.mov false (.lit (.int .i64 0)),none⟩]
def r45_1 : MCode := .region 1 q45_1_0 false [0, 1, 2, 11, 12]
theorem x45_1 : exec run esc l base r45_1 e σ = (stepOps run esc base q45_1_0 e σ).bind (Zk [0, 1, 2, 11, 12] base) := rfl
def q45_2_0 : List MOper := [⟨some 13,.bin .lss (.tmp 12) (.tmp 11),none⟩]
def r45_2 : MCode := .region 2 q45_2_0 false [0, 1, 2, 11, 12, 13]
theorem x45_2 : exec run esc l base r45_2 e σ = (stepOps run esc base q45_2_0 e σ).bind (Zk [0, 1, 2, 11, 12, 13] base) := rfl
def q45_3_0 : List MOper := [⟨some 14,.mov false (.tmp 12),none⟩, ⟨some 8,.mov false (.tmp 14),none⟩]
def r45_3 : MCode := .region 3 q45_3_0 false [0, 1, 2, 8, 11, 12]
theorem x45_3 : exec run esc l base r45_3 e σ = (stepOps run esc base q45_3_0 e σ).bind (Zk [0, 1, 2, 8, 11, 12] base) := rfl
def q45_4_0 : List MOper := [⟨some 15,.mov false (.tmp 2),none⟩, ⟨some 16,.mov false (.tmp 0),none⟩, ⟨some 17,.mov false (.tmp 8),none⟩, ⟨some 18,.index 3 (.tmp 16) (.tmp 17),none⟩, ⟨some 19,.call (.tmp 15) [(.tmp 18)],none⟩, ⟨some 9,.mov false (.tmp 19),none⟩]
def r45_4 : MCode := .region 4 q45_4_0 false [0, 1, 2, 8, 9, 11, 12]
theorem x45_4 : exec run esc l base r45_4 e σ = (stepOps run esc base q45_4_0 e σ).bind (Zk [0, 1, 2, 8, 9, 11, 12] base) := rfl
def q45_5_0 : List MOper := [⟨some 20,.mov false (.tmp 9),none⟩, ⟨some 21,.mov false (.tmp 1),none⟩, ⟨some 22,.bin .geq (.tmp 20) (.tmp 21),none⟩]
def r45_5 : MCode := .region 5 q45_5_0 false [0, 1, 2, 8, 9, 11, 12, 22]
theorem x45_5 : exec run esc l base r45_5 e σ = (stepOps run esc base q45_5_0 e σ).bind (Zk [0, 1, 2, 8, 9, 11, 12, 22] base) := rfl
def q45_6_0 : List MOper := [⟨some 23,.mov false (.tmp 8),none⟩, ⟨some 24,.mov false (.tmp 9),none⟩, ⟨some 25,.mov false (.tmp 1),none⟩, ⟨some 26,.bin .eql (.tmp 24) (.tmp 25),none⟩, ⟨some 6,.mov false (.tmp 23),none⟩, ⟨some 7,.mov false (.tmp 26),none⟩]
def r45_6 : MCode := .region 6 q45_6_0 false [6, 7]
theorem x45_6 : exec run esc l base r45_6 e σ = (stepOps run esc base q45_6_0 e σ).bind (Zk [6, 7] base) := rfl
def q45_7_0 : List MOper := [⟨some 27,.bin .add (.tmp 12) (.lit (.int .i64 1)),none⟩, ⟨some 12,.mov false (.tmp 27),none⟩]
def r45_7 : MCode := .region 7 q45_7_0 false [0, 1, 2, 11, 12]
theorem x45_7 : exec run esc l base r45_7 e σ = (stepOps run esc base q45_7_0 e σ).bind (Zk [0, 1, 2, 11, 12] base) := rfl
def l45_0 : MCode := (.seq r45_2 (.seq (.cond (.tmp 13) .skip (.exit 0)) (.seq (.block 1 (.seq r45_3 (.seq r45_4 (.seq r45_5 (.cond (.tmp 22) (.seq r45_6 .ret) .skip))))) r45_7)))
def q45_8_0 : List MOper := [⟨some 28,.mov false (.tmp 0),none⟩, ⟨some 29,.len false (.tmp 28),none⟩, ⟨some 6,.mov false (.tmp 29),none⟩, ⟨some 7,.mov false (.lit (.bool false)),none⟩]
def r45_8 : MCode := .region 8 q45_8_0 false [6, 7]
theorem x45_8 : exec run esc l base r45_8 e σ = (stepOps run esc base q45_8_0 e σ).bind (Zk [6, 7] base) := rfl
def m45 : MFunc := ⟨(.seq r45_0 (.seq (.seq r45_1 (.block 0 (.loop l45_0))) (.seq r45_8 .ret))), [.tmp 6, .tmp 7], false, false⟩
def q46_0_0 : List MOper := [⟨some 2,.mov false (.lit (.str [])),none⟩]
def r46_0 : MCode := .region 0 q46_0_0 false [0]
theorem x46_0 : exec run esc l base r46_0 e σ = (stepOps run esc base q46_0_0 e σ).bind (Zk [0] base) := rfl
def q46_1_0 : List MOper := [⟨some 3,.mov false (.tmp 0),none⟩, ⟨some 4,.nilCheck (.tmp 3),none⟩, ⟨some 5,.fieldAddr 0 (.tmp 4),none⟩, ⟨some 6,.load false false 1 (.tmp 5),none⟩, ⟨some 2,.mov false (.tmp 6),none⟩]
def r46_1 : MCode := .region 1 q46_1_0 false [2]
theorem x46_1 : exec run esc l base r46_1 e σ = (stepOps run esc base q46_1_0 e σ).bind (Zk [2] base) := rfl
def m46 : MFunc := ⟨(.seq r46_0 (.seq r46_1 .ret)), [.tmp 2], false, false⟩
def q47_0_0 : List MOper := [⟨some 3,.box 3 (.tmp 0),none⟩, ⟨some 6,.alloc [(.str []), (.str []), (.int .i64 0)],none⟩, ⟨some 7,.mov false (.lit (.int .i64 0)),none⟩]
def r47_0 : MCode := .region 0 q47_0_0 false [1, 2, 3, 6]
theorem x47_0 : exec run esc l base r47_0 e σ = (stepOps run esc base q47_0_0 e σ).bind (Zk [1, 2, 3, 6] base) := rfl
def q47_1_0 : List MOper := [⟨some 8,.mov false (.tmp 2),none⟩, ⟨some 9,.nilCheck (.tmp 8),none⟩, ⟨some 10,.fieldAddr 0 (.tmp 9),none⟩, ⟨some 11,.load false false 1 (.tmp 10),none⟩]
def r47_1 : MCode := .region 1 q47_1_0 false [1, 2, 3, 6, 11]
theorem x47_1 : exec run esc l base r47_1 e σ = (stepOps run esc base q47_1_0 e σ).bind (Zk [1, 2, 3, 6, 11] base) := rfl
def q47_2_0 : List MOper := [⟨some 13,.bin .eql (.tmp 11) (.lit (.int .i8 3)),none⟩, ⟨some 12,.mov false (.tmp 13),none⟩]
def r47_2 : MCode := .region 2 q47_2_0 false [1, 2, 3, 6, 11, 12]
theorem x47_2 : exec run esc l base r47_2 e σ = (stepOps run esc base q47_2_0 e σ).bind (Zk [1, 2, 3, 6, 11, 12] base) := rfl
def q47_3_0 : List MOper := [⟨some 14,.bin .eql (.tmp 11) (.lit (.int .i8 1)),none⟩, ⟨some 12,.mov false (.tmp 14),none⟩]
def r47_3 : MCode := .region 3 q47_3_0 false [1, 2, 3, 6, 11, 12]
theorem x47_3 : exec run esc l base r47_3 e σ = (stepOps run esc base q47_3_0 e σ).bind (Zk [1, 2, 3, 6, 11, 12] base) := rfl
def q47_4_0 : List MOper := [⟨some 15,.bin .eql (.tmp 11) (.lit (.int .i8 4)),none⟩, ⟨some 12,.mov false (.tmp 15),none⟩]
def r47_4 : MCode := .region 4 q47_4_0 false [1, 2, 3, 6, 12]
theorem x47_4 : exec run esc l base r47_4 e σ = (stepOps run esc base q47_4_0 e σ).bind (Zk [1, 2, 3, 6, 12] base) := rfl
def q47_5_0 : List MOper := [⟨some 16,.mov false (.tmp 1),none⟩, ⟨some 17,.un .not (.tmp 16),none⟩]
def r47_5 : MCode := .region 5 q47_5_0 false [2, 3, 6, 17]
theorem x47_5 : exec run esc l base r47_5 e σ = (stepOps run esc base q47_5_0 e σ).bind (Zk [2, 3, 6, 17] base) := rfl
def q47_6_0 : List MOper := [⟨some 18,.load false true 3 (.tmp 3),none⟩, ⟨none,.store 3 (.tmp 6) (.tmp 18),none⟩, ⟨some 7,.mov false (.lit (.int .i64 32)),none⟩]
def r47_6 : MCode := .region 6 q47_6_0 false [6, 7]
theorem x47_6 : exec run esc l base r47_6 e σ = (stepOps run esc base q47_6_0 e σ).bind (Zk [6, 7] base) := rfl
def q47_7_0 : List MOper := [⟨some 19,.mov false (.tmp 2),none⟩, ⟨some 20,.nilCheck (.tmp 19),none⟩, ⟨some 21,.fieldAddr 3 (.tmp 20),none⟩, ⟨some 22,.load false false 1 (.tmp 21),none⟩, ⟨some 23,.fieldAddr 1 (.tmp 3),none⟩, ⟨some 24,.load false false 1 (.tmp 23),none⟩]
def q47_7_1 : List MOper := [⟨some 25,.len true (.tmp 24),none⟩, ⟨some 26,.bin .gtr (.tmp 22) (.tmp 25),none⟩]
def r47_7 : MCode := .region 7 (q47_7_0 ++ q47_7_1) true [2, 3, 6, 26]
theorem x47_7 : exec run esc l base r47_7 e σ = (stepOps run esc base q47_7_0 e σ).bind fun x => (stepOps run esc base q47_7_1 x.1 x.2).bind (Zk [2, 3, 6, 26] base) := reg2
def q47_8_0 : List MOper := [⟨some 27,.load false true 3 (.tmp 3),none⟩, ⟨none,.store 3 (.tmp 6) (.tmp 27),none⟩, ⟨some 7,.mov false (.lit (.int .i64 2)),none⟩]
def r47_8 : MCode := .region 8 q47_8_0 false [6, 7]
theorem x47_8 : exec run esc l base r47_8 e σ = (stepOps run esc base q47_8_0 e σ).bind (Zk [6, 7] base) := rfl
def q47_9_0 : List MOper := [⟨some 28,.mov false (.tmp 2),none⟩, ⟨some 29,.nilCheck (.tmp 28),none⟩, ⟨some 30,.fieldAddr 0 (.tmp 29),none⟩, ⟨some 31,.load false false 1 (.tmp 30),none⟩]
def r47_9 : MCode := .region 9 q47_9_0 false [2, 3, 6, 31]
theorem x47_9 : exec run esc l base r47_9 e σ = (stepOps run esc base q47_9_0 e σ).bind (Zk [2, 3, 6, 31] base) := rfl
def q47_10_0 : List MOper := [⟨some 33,.bin .eql (.tmp 31) (.lit (.int .i8 0)),none⟩, ⟨some 32,.mov false (.tmp 33),none⟩]
def r47_10 : MCode := .region 10 q47_10_0 false [2, 3, 6, 31, 32]
theorem x47_10 : exec run esc l base r47_10 e σ = (stepOps run esc base q47_10_0 e σ).bind (Zk [2, 3, 6, 31, 32] base) := rfl
def q47_11_0 : List MOper := [⟨some 35,.bin .eql (.tmp 31) (.lit (.int .i8 4)),none⟩, ⟨some 34,.mov false (.tmp 35),none⟩]
def r47_11 : MCode := .region 11 q47_11_0 false [2, 3, 6, 31, 34]
theorem x47_11 : exec run esc l base r47_11 e σ = (stepOps run esc base q47_11_0 e σ).bind (Zk [2, 3, 6, 31, 34] base) := rfl
def q47_12_0 : List MOper := [⟨some 37,.bin .eql (.tmp 31) (.lit (.int .i8 3)),none⟩, ⟨some 36,.mov false (.tmp 37),none⟩]
def r47_12 : MCode := .region 12 q47_12_0 false [2, 3, 6, 31, 36]
theorem x47_12 : exec run esc l base r47_12 e σ = (stepOps run esc base q47_12_0 e σ).bind (Zk [2, 3, 6, 31, 36] base) := rfl
def q47_13_0 : List MOper := [⟨some 39,.bin .eql (.tmp 31) (.lit (.int .i8 1)),none⟩, ⟨some 38,.mov false (.tmp 39),none⟩]
def r47_13 : MCode := .region 13 q47_13_0 false [2, 3, 6, 31, 38]
theorem x47_13 : exec run esc l base r47_13 e σ = (stepOps run esc base q47_13_0 e σ).bind (Zk [2, 3, 6, 31, 38] base) := rfl
def q47_14_0 : List MOper := [⟨some 41,.bin .eql (.tmp 31) (.lit (.int .i8 2)),none⟩, ⟨some 40,.mov false (.tmp 41),none⟩]
def r47_14 : MCode := .region 14 q47_14_0 false [2, 3, 6, 40]
theorem x47_14 : exec run esc l base r47_14 e σ = (stepOps run esc base q47_14_0 e σ).bind (Zk [2, 3, 6, 40] base) := rfl
def q47_15_0 : List MOper := [⟨some 42,.fieldAddr 1 (.tmp 3),none⟩, ⟨some 43,.load false false 1 (.tmp 42),none⟩, ⟨some 44,.mov false (.tmp 2),none⟩, ⟨some 45,.nilCheck (.tmp 44),none⟩, ⟨some 46,.fieldAddr 2 (.tmp 45),none⟩, ⟨some 47,.load false false 1 (.tmp 46),none⟩]
def q47_15_1 : List MOper := [⟨some 48,.bin .add (.tmp 43) (.tmp 47),none⟩, ⟨some 49,.fieldAddr 1 (.tmp 3),none⟩, ⟨none,.store 1 (.tmp 49) (.tmp 48),none⟩]
def r47_15 : MCode := .region 15 (q47_15_0 ++ q47_15_1) true [3, 6]
theorem x47_15 : exec run esc l base r47_15 e σ = (stepOps run esc base q47_15_0 e σ).bind fun x => (stepOps run esc base q47_15_1 x.1 x.2).bind (Zk [3, 6] base) := reg2
def q47_16_0 : List MOper := [⟨some 50,.load false true 3 (.tmp 3),none⟩, ⟨none,.store 3 (.tmp 6) (.tmp 50),none⟩, ⟨some 7,.mov false (.lit (.int .i64 0)),none⟩]
def r47_16 : MCode := .region 16 q47_16_0 false [6, 7]
theorem x47_16 : exec run esc l base r47_16 e σ = (stepOps run esc base q47_16_0 e σ).bind (Zk [6, 7] base) := rfl
def q47_17_0 : List MOper := [⟨some 51,.fieldAddr 1 (.tmp 3),none⟩, ⟨none,.store 1 (.tmp 51) (.lit (.str [])),none⟩]
def r47_17 : MCode := .region 17 q47_17_0 false [2, 3, 6]
theorem x47_17 : exec run esc l base r47_17 e σ = (stepOps run esc base q47_17_0 e σ).bind (Zk [2, 3, 6] base) := rfl
def q47_18_0 : List MOper := [⟨some 52,.fieldAddr 1 (.tmp 3),none⟩, ⟨some 53,.load false false 1 (.tmp 52),none⟩, ⟨some 54,.mov false (.tmp 2),none⟩, ⟨some 55,.nilCheck (.tmp 54),none⟩, ⟨some 56,.fieldAddr 3 (.tmp 55),none⟩, ⟨some 57,.load false false 1 (.tmp 56),none⟩]
def q47_18_1 : List MOper := [⟨some 58,.substr (.tmp 53) none (some (.tmp 57)),none⟩, ⟨some 59,.fieldAddr 1 (.tmp 3),none⟩, ⟨none,.store 1 (.tmp 59) (.tmp 58),none⟩]
def r47_18 : MCode := .region 18 (q47_18_0 ++ q47_18_1) true [3, 6]
theorem x47_18 : exec run esc l base r47_18 e σ = (stepOps run esc base q47_18_0 e σ).bind fun x => (stepOps run esc base q47_18_1 x.1 x.2).bind (Zk [3, 6] base) := reg2
def q47_19_0 : List MOper := [⟨some 60,.fieldAddr 1 (.tmp 3),none⟩, ⟨some 61,.load false false 1 (.tmp 60),none⟩, ⟨some 62,.len true (.tmp 61),none⟩, ⟨some 63,.fieldAddr 2 (.tmp 3),none⟩, ⟨none,.store 1 (.tmp 63) (.tmp 62),none⟩]
def r47_19 : MCode := .region 19 q47_19_0 false [3, 6]
theorem x47_19 : exec run esc l base r47_19 e σ = (stepOps run esc base q47_19_0 e σ).bind (Zk [3, 6] base) := rfl
def q47_20_0 : List MOper := [⟨some 64,.mov false (.tmp 2),none⟩, ⟨some 65,.nilCheck (.tmp 64),none⟩, ⟨some 66,.fieldAddr 2 (.tmp 65),none⟩, ⟨some 67,.load false false 1 (.tmp 66),none⟩, ⟨some 68,.mov false (.tmp 2),none⟩, ⟨some 69,.nilCheck (.tmp 68),none⟩]
def q47_20_1 : List MOper := [⟨some 70,.fieldAddr 2 (.tmp 69),none⟩, ⟨some 71,.load false false 1 (.tmp 70),none⟩, ⟨some 72,.len true (.tmp 71),none⟩, ⟨some 73,.fieldAddr 1 (.tmp 3),none⟩, ⟨none,.storef 1 (.tmp 73) (.tmp 67) [70],none⟩, ⟨some 74,.fieldAddr 2 (.tmp 3),none⟩]
def q47_20_2 : List MOper := [⟨none,.store 1 (.tmp 74) (.tmp 72),none⟩]
def r47_20 : MCode := .region 20 (q47_20_0 ++ (q47_20_1 ++ q47_20_2)) true [3, 6]
theorem x47_20 : exec run esc l base r47_20 e σ = (stepOps run esc base q47_20_0 e σ).bind fun x => (stepOps run esc base q47_20_1 x.1 x.2).bind fun x => (stepOps run esc base q47_20_2 x.1 x.2).bind (Zk [3, 6] base) := by simp only [r47_20, regN, regA, Option.bind_assoc]
def q47_21_0 : List MOper := [⟨some 75,.load false true 3 (.tmp 3),none⟩, ⟨none,.store 3 (.tmp 6) (.tmp 75),none⟩, ⟨some 7,.mov false (.lit (.int .i64 0)),none⟩]
def r47_21 : MCode := .region 21 q47_21_0 false [6, 7]
theorem x47_21 : exec run esc l base r47_21 e σ = (stepOps run esc base q47_21_0 e σ).bind (Zk [6, 7] base) := rfl
def m47 : MFunc := ⟨(.seq r47_0 (.seq (.seq r47_1 (.block 0 (.seq (.seq r47_2 (.cond (.tmp 12) .skip (.seq r47_3 (.cond (.tmp 12) .skip r47_4)))) (.cond (.tmp 12) (.seq (.seq r47_5 (.cond (.tmp 17) (.seq r47_6 .ret) .skip)) (.seq r47_7 (.cond (.tmp 26) (.seq r47_8 .ret) .skip))) .skip)))) (.seq (.seq r47_9 (.block 1 (.seq (.block 6 (.seq (.block 5 (.seq (.block 4 (.seq (.block 3 (.seq (.block 2 (.seq (.seq (.seq r47_10 (.cond (.tmp 32) (.exit 2) .skip)) (.seq (.seq r47_11 (.cond (.tmp 34) (.exit 3) .skip)) (.seq (.seq r47_12 (.cond (.tmp 36) (.exit 4) .skip)) (.seq (.seq r47_13 (.cond (.tmp 38) (.exit 5) .skip)) (.seq r47_14 (.cond (.tmp 40) (.exit 6) .skip)))))) (.exit 1))) (.seq (.seq r47_15 (.seq r47_16 .ret)) (.exit 1)))) r47_17)) r47_18)) (.seq r47_19 (.exit 1)))) (.seq r47_20 (.exit 1))))) (.seq r47_21 .ret)))), [.cell 6 true 3, .tmp 7], false, false⟩
def q48_0_0 : List MOper := [⟨some 4,.mov false (.lit (.bool false)),none⟩]
def r48_0 : MCode := .region 0 q48_0_0 false [0, 1]
theorem x48_0 : exec run esc l base r48_0 e σ = (stepOps run esc base q48_0_0 e σ).bind (Zk [0, 1] base) := rfl
def q48_1_0 : List MOper := [⟨some 6,.mov false (.tmp 0),none⟩, ⟨some 7,.len false (.tmp 6),none⟩, ⟨some 8,.mov false (.tmp 1),none⟩, ⟨some 9,.len false (.tmp 8),none⟩, ⟨some 10,.bin .neq (.tmp 7) (.tmp 9),none⟩]
def r48_1 : MCode := .region 1 q48_1_0 false [0, 1, 10]
theorem x48_1 : exec run esc l base r48_1 e σ = (stepOps run esc base q48_1_0 e σ).bind (Zk [0, 1, 10] base) := rfl
def q48_2_0 : List MOper := [⟨some 4,.mov false (.lit (.bool false)),none⟩]
def r48_2 : MCode := .region 2 q48_2_0 false [4]
theorem x48_2 : exec run esc l base r48_2 e σ = (stepOps run esc base q48_2_0 e σ).bind (Zk [4] base) := rfl
def q48_3_0 : List MOper := [⟨some 11,.mov false (.tmp 0),none⟩, ⟨some 12,.len false (.tmp 11),none⟩, ⟨some 13,.mov false (.lit (.int .i64 0)),none⟩]
def r48_3 : MCode := .region 3 q48_3_0 false [0, 1, 12, 13]
theorem x48_3 : exec run esc l base r48_3 e σ = (stepOps run esc base q48_3_0 e σ).bind (Zk [0, 1, 12, 13] base) := rfl
def q48_4_0 : List MOper := [⟨some 14,.bin .lss (.tmp 13) (.tmp 12),none⟩]
def r48_4 : MCode := .region 4 q48_4_0 false [0, 1, 12, 13, 14]
theorem x48_4 : exec run esc l base r48_4 e σ = (stepOps run esc base q48_4_0 e σ).bind (Zk [0, 1, 12, 13, 14] base) := rfl
def q48_5_0 : List MOper := [⟨some 15,.mov false (.tmp 13),none⟩, ⟨some 5,.mov false (.tmp 15),none⟩]
def r48_5 : MCode := .region 5 q48_5_0 false [0, 1, 5, 12, 13]
theorem x48_5 : exec run esc l base r48_5 e σ = (stepOps run esc base q48_5_0 e σ).bind (Zk [0, 1, 5, 12, 13] base) := rfl
def q48_6_0 : List MOper := [⟨some 16,.mov false (.tmp 0),none⟩, ⟨some 17,.mov false (.tmp 5),none⟩, ⟨some 18,.index 3 (.tmp 16) (.tmp 17),none⟩, ⟨some 19,.load false true 3 (.tmp 18),none⟩, ⟨some 20,.mov false (.tmp 1),none⟩, ⟨some 21,.mov false (.tmp 5),none⟩]
def q48_6_1 : List MOper := [⟨some 22,.index 3 (.tmp 20) (.tmp 21),none⟩, ⟨some 23,.load false true 3 (.tmp 22),none⟩, ⟨some 24,.eqs true [2, 2, 0] (.tmp 19) (.tmp 23),none⟩]
def r48_6 : MCode := .region 6 (q48_6_0 ++ q48_6_1) true [0, 1, 12, 13, 24]
theorem x48_6 : exec run esc l base r48_6 e σ = (stepOps run esc base q48_6_0 e σ).bind fun x => (stepOps run esc base q48_6_1 x.1 x.2).bind (Zk [0, 1, 12, 13, 24] base) := reg2
def q48_7_0 : List MOper := [⟨some 4,.mov false (.lit (.bool false)),none⟩]
def r48_7 : MCode := .region 7 q48_7_0 false [4]
theorem x48_7 : exec run esc l base r48_7 e σ = (stepOps run esc base q48_7_0 e σ).bind (Zk [4] base) := rfl
def q48_8_0 : List MOper := [⟨some 25,.bin .add (.tmp 13) (.lit (.int .i64 1)),none⟩, ⟨some 13,.mov false (.tmp 25),none⟩]
def r48_8 : MCode := .region 8 q48_8_0 false [0, 1, 12, 13]
theorem x48_8 : exec run esc l base r48_8 e σ = (stepOps run esc base q48_8_0 e σ).bind (Zk [0, 1, 12, 13] base) := rfl
def l48_0 : MCode := (.seq r48_4 (.seq (.cond (.tmp 14) .skip (.exit 0)) (.seq (.block 1 (.seq r48_5 (.seq r48_6 (.cond (.tmp 24) (.seq r48_7 .ret) .skip)))) r48_8)))
def q48_9_0 : List MOper := [⟨some 4,.mov false (.lit (.bool true)),none⟩]
def r48_9 : MCode := .region 9 q48_9_0 false [4]
theorem x48_9 : exec run esc l base r48_9 e σ = (stepOps run esc base q48_9_0 e σ).bind (Zk [4] base) := rfl
def m48 : MFunc := ⟨(.seq r48_0 (.seq (.seq r48_1 (.cond (.tmp 10) (.seq r48_2 .ret) .skip)) (.seq (.seq r48_3 (.block 0 (.loop l48_0))) (.seq r48_9 .ret)))), [.tmp 4], false, false⟩
def q61_0_0 : List MOper := [⟨some 4,.mov false (.lit (.str [])),none⟩]
def r61_0 : MCode := .region 0 q61_0_0 false [0, 1]
theorem x61_0 : exec run esc l base r61_0 e σ = (stepOps run esc base q61_0_0 e σ).bind (Zk [0, 1] base) := rfl
def q61_1_0 : List MOper := [⟨some 5,.mov false (.tmp 0),none⟩, ⟨some 6,.len true (.tmp 5),none⟩, ⟨some 7,.bin .gtr (.tmp 6) (.lit (.int .i64 0)),none⟩, ⟨some 8,.mov false (.tmp 7),none⟩, ⟨some 9,.mov false (.tmp 0),some (8, true)⟩, ⟨some 10,.at (.tmp 9) (.lit (.int .i64 0)),some (8, true)⟩]
def q61_1_1 : List MOper := [⟨some 11,.mov false (.tmp 1),some (8, true)⟩, ⟨some 12,.bin .eql (.tmp 10) (.tmp 11),some (8, true)⟩, ⟨some 13,.pick (.tmp 8) (.tmp 12) (.lit (.bool false)),none⟩]
def r61_1 : MCode := .region 1 (q61_1_0 ++ q61_1_1) false [0, 1, 13]
theorem x61_1 : exec run esc l base r61_1 e σ = (stepOps run esc base q61_1_0 e σ).bind fun x => (stepOps run esc base q61_1_1 x.1 x.2).bind (Zk [0, 1, 13] base) := reg2
def q61_2_0 : List MOper := [⟨some 14,.mov false (.tmp 0),none⟩, ⟨some 15,.substr (.tmp 14) (some (.lit (.int .i64 1))) none,none⟩, ⟨some 0,.mov false (.tmp 15),none⟩]
def r61_2 : MCode := .region 2 q61_2_0 false [0, 1]
theorem x61_2 : exec run esc l base r61_2 e σ = (stepOps run esc base q61_2_0 e σ).bind (Zk [0, 1] base) := rfl
def l61_0 : MCode := (.seq (.seq r61_1 (.cond (.tmp 13) .skip (.exit 0))) (.block 1 r61_2))
def q61_3_0 : List MOper := [⟨some 16,.mov false (.tmp 0),none⟩, ⟨some 4,.mov false (.tmp 16),none⟩]
def r61_3 : MCode := .region 3 q61_3_0 false [4]
theorem x61_3 : exec run esc l base r61_3 e σ = (stepOps run esc base q61_3_0 e σ).bind (Zk [4] base) := rfl
def m61 : MFunc := ⟨(.seq r61_0 (.seq (.block 0 (.loop l61_0)) (.seq r61_3 .ret))), [.tmp 4], false, false⟩
def q62_0_0 : List MOper := [⟨some 4,.mov false (.lit (.str [])),none⟩]
def r62_0 : MCode := .region 0 q62_0_0 false [0, 1]
theorem x62_0 : exec run esc l base r62_0 e σ = (stepOps run esc base q62_0_0 e σ).bind (Zk [0, 1] base) := rfl
def q62_1_0 : List MOper := [⟨some 5,.mov false (.tmp 0),none⟩, ⟨some 6,.len true (.tmp 5),none⟩, ⟨some 7,.bin .gtr (.tmp 6) (.lit (.int .i64 0)),none⟩, ⟨some 8,.mov false (.tmp 7),none⟩, ⟨some 9,.mov false (.tmp 0),some (8, true)⟩, ⟨some 10,.mov false (.tmp 0),some (8, true)⟩]
def q62_1_1 : List MOper := [⟨some 11,.len true (.tmp 10),some (8, true)⟩, ⟨some 12,.bin .sub (.tmp 11) (.lit (.int .i64 1)),some (8, true)⟩, ⟨some 13,.at (.tmp 9) (.tmp 12),some (8, true)⟩, ⟨some 14,.mov false (.tmp 1),some (8, true)⟩, ⟨some 15,.bin .eql (.tmp 13) (.tmp 14),some (8, true)⟩, ⟨some 16,.pick (.tmp 8) (.tmp 15) (.lit (.bool false)),none⟩]
def r62_1 : MCode := .region 1 (q62_1_0 ++ q62_1_1) false [0, 1, 16]
theorem x62_1 : exec run esc l base r62_1 e σ = (stepOps run esc base q62_1_0 e σ).bind fun x => (stepOps run esc base q62_1_1 x.1 x.2).bind (Zk [0, 1, 16] base) := reg2
def q62_2_0 : List MOper := [⟨some 17,.mov false (.tmp 0),none⟩, ⟨some 18,.mov false (.tmp 0),none⟩, ⟨some 19,.len true (.tmp 18),none⟩, ⟨some 20,.bin .sub (.tmp 19) (.lit (.int .i64 1)),none⟩, ⟨some 21,.substr (.tmp 17) none (some (.tmp 20)),none⟩, ⟨some 0,.mov false (.tmp 21),none⟩]
def r62_2 : MCode := .region 2 q62_2_0 false [0, 1]
theorem x62_2 : exec run esc l base r62_2 e σ = (stepOps run esc base q62_2_0 e σ).bind (Zk [0, 1] base) := rfl
def l62_0 : MCode := (.seq (.seq r62_1 (.cond (.tmp 16) .skip (.exit 0))) (.block 1 r62_2))
def q62_3_0 : List MOper := [⟨some 22,.mov false (.tmp 0),none⟩, ⟨some 4,.mov false (.tmp 22),none⟩]
def r62_3 : MCode := .region 3 q62_3_0 false [4]
theorem x62_3 : exec run esc l base r62_3 e σ = (stepOps run esc base q62_3_0 e σ).bind (Zk [4] base) := rfl
def m62 : MFunc := ⟨(.seq r62_0 (.seq (.block 0 (.loop l62_0)) (.seq r62_3 .ret))), [.tmp 4], false, false⟩
def q63_0_0 : List MOper := [⟨some 2,.alloc [(.bool false), (.bool false), (.bool false), (.bool false), (.bool false), (.bool false), (.bool false), (.bool false), (.bool false), (.bool false), (.bool false), (.bool false), (.bool false), (.bool false), (.bool false), (.bool false), (.bool false), (.bool false), (.bool false), (.bool false), (.bool false), (.bool false), (.bool false), (.bool false), (.bool false), (.bool false), (.bool false), (.bool false), (.bool false), (.bool false), (.bool false), (.bool false), (.bool false), (.bool false), (.bool false), (.bool false), (.bool false), (.bool false), (.bool false), (.bool false), (.bool false), (.bool false), (.bool false), (.bool false), (.bool false), (.bool false), (.bool false), (.bool false), (.bool false), (.bool false), (.bool false), (.bool false), (.bool false), (.bool false), (.bool false), (.bool false), (.bool false), (.bool false), (.bool false), (.bool false), (.bool false), (.bool false), (.bool false), (.bool false), (.bool false), (.bool false), (.bool false), (.bool false), (.bool false), (.bool false), (.bool false), (.bool false), (.bool false), (.bool false), (.bool false), (.bool false), (.bool false), (.bool false), (.bool false), (.bool false), (.bool false), (.bool false), (.bool false), (.bool false), (.bool false), (.bool false), (.bool false), (.bool false), (.bool false), (.bool false), (.bool false), (.bool false), (.bool false), (.bool false), (.bool false), (.bool false), (.bool false), (.bool false), (.bool false), (.bool false), (.bool false), (.bool false), (.bool false), (.bool false), (.bool false), (.bool false), (.bool false), (.bool false), (.bool false), (.bool false), (.bool false), (.bool false), (.bool false), (.bool false), (.bool false), (.bool false), (.bool false), (.bool false), (.bool false), (.bool false), (.bool false), (.bool false), (.bool false), (.bool false), (.bool false), (.bool false), (.bool false), (.bool false), (.bool false), (.bool false), (.bool false), (.bool false), (.bool false), (.bool false), (.bool false), (.bool false), (.bool false), (.bool false), (.bool false), (.bool false), (.bool false), (.bool false), (.bool false), (.bool false), (.bool false), (.bool false), (.bool false), (.bool false), (.bool false), (.bool false), (.bool false), (.bool false), (.bool false), (.bool false), (.bool false), (.bool false), (.bool false), (.bool false), (.bool false), (.bool false), (.bool false), (.bool false), (.bool false), (.bool false), (.bool false), (.bool false), (.bool false), (.bool false), (.bool false), (.bool false), (.bool false), (.bool false), (.bool false), (.bool false), (.bool false), (.bool false), (.bool false), (.bool false), (.bool false), (.bool false), (.bool false), (.bool false), (.bool false), (.bool false), (.bool false), (.bool false), (.bool false), (.bool false), (.bool false), (.bool false), (.bool false), (.bool false), (.bool false), (.bool false), (.bool false), (.bool false), (.bool false), (.bool false), (.bool false), (.bool false), (.bool false), (.bool false), (.bool false), (.bool false), (.bool false), (.bool false), (.bool false), (.bool false), (.bool false), (.bool false), (.bool false), (.bool false), (.bool false), (.bool false), (.bool false), (.bool false), (.bool false), (.bool false), (.bool false), (.bool false), (.bool false), (.bool false), (.bool false), (.bool false), (.bool false), (.bool false), (.bool false), (.bool false), (.bool false), (.bool false), (.bool false), (.bool false), (.bool false), (.bool false), (.bool false), (.bool false), (.bool false), (.bool false), (.bool false), (.bool false), (.bool false), (.bool false), (.bool false), (.bool false), (.bool false), (.bool false), (.bool false), (.bool false), (.bool false), (.bool false), (.bool false), (.bool false), (.bool false), (.bool false), (.bool false), (.bool false)],none⟩, ⟨some 3,.mov false (.lit (.bool false)),none⟩]
def r63_0 : MCode := .region 0 q63_0_0 false [0, 2]
theorem x63_0 : exec run esc l base r63_0 e σ = (stepOps run esc base q63_0_0 e σ).bind (Zk [0, 2] base) := rfl
def q63_1_0 : List MOper := [⟨some 4,.mov false (.lit (.int .i64 0)),none⟩]
def r63_1 : MCode := .region 1 q63_1_0 false [0, 2, 4]
theorem x63_1 : exec run esc l base r63_1 e σ = (stepOps run esc base q63_1_0 e σ).bind (Zk [0, 2, 4] base) := rfl
def q63_2_0 : List MOper := [⟨some 6,.mov false (.tmp 4),none⟩, ⟨some 7,.mov false (.tmp 0),none⟩, ⟨some 8,.len true (.tmp 7),none⟩, ⟨some 9,.bin .lss (.tmp 6) (.tmp 8),none⟩]
def r63_2 : MCode := .region 2 q63_2_0 false [0, 2, 4, 9]
theorem x63_2 : exec run esc l base r63_2 e σ = (stepOps run esc base q63_2_0 e σ).bind (Zk [0, 2, 4, 9] base) := rfl
def q63_4_0 : List MOper := [⟨some 12,.mov false (.tmp 0),none⟩, ⟨some 13,.mov false (.tmp 4),none⟩, ⟨some 14,.at (.tmp 12) (.tmp 13),none⟩, ⟨some 5,.mov false (.tmp 14),none⟩]
def r63_4 : MCode := .region 4 q63_4_0 false [0, 2, 4, 5]
theorem x63_4 : exec run esc l base r63_4 e σ = (stepOps run esc base q63_4_0 e σ).bind (Zk [0, 2, 4, 5] base) := rfl
def q63_5_0 : List MOper := [⟨some 15,.mov false (.tmp 5),none⟩, ⟨some 16,.bin .geq (.tmp 15) (.lit (.int .u8 128)),none⟩]
def r63_5 : MCode := .region 5 q63_5_0 false [0, 2, 4, 5, 16]
theorem x63_5 : exec run esc l base r63_5 e σ = (stepOps run esc base q63_5_0 e σ).bind (Zk [0, 2, 4, 5, 16] base) := rfl
def q63_6_0 : List MOper := [⟨some 17,.load false true 256 (.tmp 2),none⟩, ⟨none,.store 256 (.tmp 2) (.tmp 17),none⟩, ⟨some 3,.mov false (.lit (.bool false)),none⟩]
def r63_6 : MCode := .region 6 q63_6_0 false [2, 3]
theorem x63_6 : exec run esc l base r63_6 e σ = (stepOps run esc base q63_6_0 e σ).bind (Zk [2, 3] base) := rfl
def q63_7_0 : List MOper := [⟨some 18,.mov false (.tmp 5),none⟩, ⟨some 19,.indexArr 256 1 (.tmp 2) (.tmp 18),none⟩, ⟨none,.store 1 (.tmp 19) (.lit (.bool true)),none⟩]
def r63_7 : MCode := .region 7 q63_7_0 false [0, 2, 4]
theorem x63_7 : exec run esc l base r63_7 e σ = (stepOps run esc base q63_7_0 e σ).bind (Zk [0, 2, 4] base) := rfl
def q63_3_0 : List MOper := [⟨some 10,.mov false (.tmp 4),none⟩, ⟨some 11,.bin .add (.tmp 10) (.lit (.int .i64 1)),none⟩, ⟨some 4,.mov false (.tmp 11),none⟩]
def r63_3 : MCode := .region 3 q63_3_0 false [0, 2, 4]
theorem x63_3 : exec run esc l base r63_3 e σ = (stepOps run esc base q63_3_0 e σ).bind (Zk [0, 2, 4] base) := rfl
def l63_0 : MCode := (.seq (.seq r63_2 (.cond (.tmp 9) .skip (.exit 0))) (.seq (.block 1 (.seq r63_4 (.seq (.seq r63_5 (.cond (.tmp 16) (.seq r63_6 .ret) .skip)) r63_7))) r63_3))
def q63_8_0 : List MOper := [⟨some 20,.load false true 256 (.tmp 2),none⟩, ⟨none,.store 256 (.tmp 2) (.tmp 20),none⟩, ⟨some 3,.mov false (.lit (.bool true)),none⟩]
def r63_8 : MCode := .region 8 q63_8_0 false [2, 3]
theorem x63_8 : exec run esc l base r63_8 e σ = (stepOps run esc base q63_8_0 e σ).bind (Zk [2, 3] base) := rfl
def m63 : MFunc := ⟨(.seq r63_0 (.seq (.seq r63_1 (.block 0 (.loop l63_0))) (.seq r63_8 .ret))), [.cell 2 true 256, .tmp 3], false, false⟩
def q64_0_0 : List MOper := [⟨some 4,.mov false (.lit (.str [])),none⟩]
def r64_0 : MCode := .region 0 q64_0_0 false [0, 1]
theorem x64_0 : exec run esc l base r64_0 e σ = (stepOps run esc base q64_0_0 e σ).bind (Zk [0, 1] base) := rfl
def q64_1_0 : List MOper := [⟨some 5,.mov false (.tmp 0),none⟩, ⟨some 6,.len true (.tmp 5),none⟩, ⟨some 7,.bin .gtr (.tmp 6) (.lit (.int .i64 0)),none⟩]
def r64_1 : MCode := .region 1 q64_1_0 false [0, 1, 7]
theorem x64_1 : exec run esc l base r64_1 e σ = (stepOps run esc base q64_1_0 e σ).bind (Zk [0, 1, 7] base) := rfl
def q64_2_0 : List MOper := [⟨some 8,.mov false (.tmp 1),none⟩, ⟨some 9,.mov false (.tmp 0),none⟩, ⟨some 10,.at (.tmp 9) (.lit (.int .i64 0)),none⟩, ⟨some 11,.call (.lit (.fn 78 [])) [(.tmp 8), (.tmp 10)],none⟩, ⟨some 12,.un .not (.tmp 11),none⟩]
def r64_2 : MCode := .region 2 q64_2_0 false [0, 1, 12]
theorem x64_2 : exec run esc l base r64_2 e σ = (stepOps run esc base q64_2_0 e σ).bind (Zk [0, 1, 12] base) := rfl
def q64_3_0 : List MOper := [⟨some 13,.mov false (.tmp 0),none⟩, ⟨some 14,.substr (.tmp 13) (some (.lit (.int .i64 1))) none,none⟩, ⟨some 0,.mov false (.tmp 14),none⟩]
def r64_3 : MCode := .region 3 q64_3_0 false [0, 1]
theorem x64_3 : exec run esc l base r64_3 e σ = (stepOps run esc base q64_3_0 e σ).bind (Zk [0, 1] base) := rfl
def l64_0 : MCode := (.seq (.seq r64_1 (.cond (.tmp 7) .skip (.exit 0))) (.block 1 (.seq (.seq r64_2 (.cond (.tmp 12) (.exit 0) .skip)) r64_3)))
def q64_4_0 : List MOper := [⟨some 15,.mov false (.tmp 0),none⟩, ⟨some 4,.mov false (.tmp 15),none⟩]
def r64_4 : MCode := .region 4 q64_4_0 false [4]
theorem x64_4 : exec run esc l base r64_4 e σ = (stepOps run esc base q64_4_0 e σ).bind (Zk [4] base) := rfl
def m64 : MFunc := ⟨(.seq r64_0 (.seq (.block 0 (.loop l64_0)) (.seq r64_4 .ret))), [.tmp 4], false, false⟩
def q65_0_0 : List MOper := [⟨some 4,.mov false (.lit (.str [])),none⟩]
def r65_0 : MCode := .region 0 q65_0_0 false [0, 1]
theorem x65_0 : exec run esc l base r65_0 e σ = (stepOps run esc base q65_0_0 e σ).bind (Zk [0, 1] base) := rfl
def q65_1_0 : List MOper := [⟨some 5,.mov false (.tmp 0),none⟩, ⟨some 6,.len true (.tmp 5),none⟩, ⟨some 7,.bin .gtr (.tmp 6) (.lit (.int .i64 0)),none⟩]
def r65_1 : MCode := .region 1 q65_1_0 false [0, 1, 7]
theorem x65_1 : exec run esc l base r65_1 e σ = (stepOps run esc base q65_1_0 e σ).bind (Zk [0, 1, 7] base) := rfl
def q65_2_0 : List MOper := [⟨some 8,.mov false (.tmp 1),none⟩, ⟨some 9,.mov false (.tmp 0),none⟩, ⟨some 10,.mov false (.tmp 0),none⟩, ⟨some 11,.len true (.tmp 10),none⟩, ⟨some 12,.bin .sub (.tmp 11) (.lit (.int .i64 1)),none⟩, ⟨some 13,.at (.tmp 9) (.tmp 12),none⟩]
def q65_2_1 : List MOper := [⟨some 14,.call (.lit (.fn 78 [])) [(.tmp 8), (.tmp 13)],none⟩, ⟨some 15,.un .not (.tmp 14),none⟩]
def r65_2 : MCode := .region 2 (q65_2_0 ++ q65_2_1) false [0, 1, 15]
theorem x65_2 : exec run esc l base r65_2 e σ = (stepOps run esc base q65_2_0 e σ).bind fun x => (stepOps run esc base q65_2_1 x.1 x.2).bind (Zk [0, 1, 15] base) := reg2
def q65_3_0 : List MOper := [⟨some 16,.mov false (.tmp 0),none⟩, ⟨some 17,.mov false (.tmp 0),none⟩, ⟨some 18,.len true (.tmp 17),none⟩, ⟨some 19,.bin .sub (.tmp 18) (.lit (.int .i64 1)),none⟩, ⟨some 20,.substr (.tmp 16) none (some (.tmp 19)),none⟩, ⟨some 0,.mov false (.tmp 20),none⟩]
def r65_3 : MCode := .region 3 q65_3_0 false [0, 1]
theorem x65_3 : exec run esc l base r65_3 e σ = (stepOps run esc base q65_3_0 e σ).bind (Zk [0, 1] base) := rfl
def l65_0 : MCode := (.seq (.seq r65_1 (.cond (.tmp 7) .skip (.exit 0))) (.block 1 (.seq (.seq r65_2 (.cond (.tmp 15) (.exit 0) .skip)) r65_3)))
def q65_4_0 : List MOper := [⟨some 21,.mov false (.tmp 0),none⟩, ⟨some 4,.mov false (.tmp 21),none⟩]
def r65_4 : MCode := .region 4 q65_4_0 false [4]
theorem x65_4 : exec run esc l base r65_4 e σ = (stepOps run esc base q65_4_0 e σ).bind (Zk [4] base) := rfl
def m65 : MFunc := ⟨(.seq r65_0 (.seq (.block 0 (.loop l65_0)) (.seq r65_4 .ret))), [.tmp 4], false, false⟩
def q66_0_0 : List MOper := [⟨some 4,.mov false (.lit (.str [])),none⟩]
def r66_0 : MCode := .region 0 q66_0_0 false [0, 1]
theorem x66_0 : exec run esc l base r66_0 e σ = (stepOps run esc base q66_0_0 e σ).bind (Zk [0, 1] base) := rfl
def q66_1_0 : List MOper := [⟨some 7,.mov false (.tmp 0),none⟩, ⟨some 8,.len true (.tmp 7),none⟩, ⟨some 9,.bin .gtr (.tmp 8) (.lit (.int .i64 0)),none⟩]
def r66_1 : MCode := .region 1 q66_1_0 false [0, 1, 9]
theorem x66_1 : exec run esc l base r66_1 e σ = (stepOps run esc base q66_1_0 e σ).bind (Zk [0, 1, 9] base) := rfl
def q66_2_0 : List MOper := [⟨some 11,.mov false (.tmp 0),none⟩, ⟨some 12,.call (.lit (.fn 79 [])) [(.tmp 11)],none⟩, ⟨some 10,.mov false (.tmp 12),none⟩, ⟨some 13,.extract 0 (.tmp 10),none⟩, ⟨some 14,.extract 1 (.tmp 10),none⟩, ⟨some 5,.mov false (.tmp 13),none⟩]
def q66_2_1 : List MOper := [⟨some 6,.mov false (.tmp 14),none⟩]
def r66_2 : MCode := .region 2 (q66_2_0 ++ q66_2_1) false [0, 1, 5, 6]
theorem x66_2 : exec run esc l base r66_2 e σ = (stepOps run esc base q66_2_0 e σ).bind fun x => (stepOps run esc base q66_2_1 x.1 x.2).bind (Zk [0, 1, 5, 6] base) := reg2
def q66_3_0 : List MOper := [⟨some 15,.mov false (.tmp 1),none⟩, ⟨some 16,.mov false (.tmp 5),none⟩, ⟨some 17,.call (.lit (.fn 80 [])) [(.tmp 15), (.tmp 16)],none⟩, ⟨some 18,.un .not (.tmp 17),none⟩]
def r66_3 : MCode := .region 3 q66_3_0 false [0, 1, 6, 18]
theorem x66_3 : exec run esc l base r66_3 e σ = (stepOps run esc base q66_3_0 e σ).bind (Zk [0, 1, 6, 18] base) := rfl
def q66_4_0 : List MOper := [⟨some 19,.mov false (.tmp 0),none⟩, ⟨some 20,.mov false (.tmp 6),none⟩, ⟨some 21,.substr (.tmp 19) (some (.tmp 20)) none,none⟩, ⟨some 0,.mov false (.tmp 21),none⟩]
def r66_4 : MCode := .region 4 q66_4_0 false [0, 1]
theorem x66_4 : exec run esc l base r66_4 e σ = (stepOps run esc base q66_4_0 e σ).bind (Zk [0, 1] base) := rfl
def l66_0 : MCode := (.seq (.seq r66_1 (.cond (.tmp 9) .skip (.exit 0))) (.block 1 (.seq r66_2 (.seq (.seq r66_3 (.cond (.tmp 18) (.exit 0) .skip)) r66_4))))
def q66_5_0 : List MOper := [⟨some 22,.mov false (.tmp 0),none⟩, ⟨some 4,.mov false (.tmp 22),none⟩]
def r66_5 : MCode := .region 5 q66_5_0 false [4]
theorem x66_5 : exec run esc l base r66_5 e σ = (stepOps run esc base q66_5_0 e σ).bind (Zk [4] base) := rfl
def m66 : MFunc := ⟨(.seq r66_0 (.seq (.block 0 (.loop l66_0)) (.seq r66_5 .ret))), [.tmp 4], false, false⟩
def q67_0_0 : List MOper := [⟨some 4,.mov false (.lit (.str [])),none⟩]
def r67_0 : MCode := .region 0 q67_0_0 false [0, 1]
theorem x67_0 : exec run esc l base r67_0 e σ = (stepOps run esc base q67_0_0 e σ).bind (Zk [0, 1] base) := rfl
def q67_1_0 : List MOper := [⟨some 7,.mov false (.tmp 0),none⟩, ⟨some 8,.len true (.tmp 7),none⟩, ⟨some 9,.bin .gtr (.tmp 8) (.lit (.int .i64 0)),none⟩]
def r67_1 : MCode := .region 1 q67_1_0 false [0, 1, 9]
theorem x67_1 : exec run esc l base r67_1 e σ = (stepOps run esc base q67_1_0 e σ).bind (Zk [0, 1, 9] base) := rfl
def q67_2_0 : List MOper := [⟨some 10,.mov false (.tmp 0),none⟩, ⟨some 11,.mov false (.tmp 0),none⟩, ⟨some 12,.len true (.tmp 11),none⟩, ⟨some 13,.bin .sub (.tmp 12) (.lit (.int .i64 1)),none⟩, ⟨some 14,.at (.tmp 10) (.tmp 13),none⟩, ⟨some 15,.conv .i32 (.tmp 14),none⟩]
def q67_2_1 : List MOper := [⟨some 5,.mov false (.tmp 15),none⟩, ⟨some 6,.mov false (.lit (.int .i64 1)),none⟩]
def r67_2 : MCode := .region 2 (q67_2_0 ++ q67_2_1) false [0, 1, 5, 6]
theorem x67_2 : exec run esc l base r67_2 e σ = (stepOps run esc base q67_2_0 e σ).bind fun x => (stepOps run esc base q67_2_1 x.1 x.2).bind (Zk [0, 1, 5, 6] base) := reg2
def q67_3_0 : List MOper := [⟨some 16,.mov false (.tmp 5),none⟩, ⟨some 17,.bin .geq (.tmp 16) (.lit (.int .i32 128)),none⟩]
def r67_3 : MCode := .region 3 q67_3_0 false [0, 1, 5, 6, 17]
theorem x67_3 : exec run esc l base r67_3 e σ = (stepOps run esc base q67_3_0 e σ).bind (Zk [0, 1, 5, 6, 17] base) := rfl
def q67_4_0 : List MOper := [⟨some 19,.mov false (.tmp 0),none⟩, ⟨some 20,.call (.lit (.fn 81 [])) [(.tmp 19)],none⟩, ⟨some 18,.mov false (.tmp 20),none⟩, ⟨some 21,.extract 0 (.tmp 18),none⟩, ⟨some 22,.extract 1 (.tmp 18),none⟩, ⟨some 5,.mov false (.tmp 21),none⟩]
def q67_4_1 : List MOper := [⟨some 6,.mov false (.tmp 22),none⟩]
def r67_4 : MCode := .region 4 (q67_4_0 ++ q67_4_1) false [0, 1, 5, 6]
theorem x67_4 : exec run esc l base r67_4 e σ = (stepOps run esc base q67_4_0 e σ).bind fun x => (stepOps run esc base q67_4_1 x.1 x.2).bind (Zk [0, 1, 5, 6] base) := reg2
def q67_5_0 : List MOper := [⟨some 23,.mov false (.tmp 1),none⟩, ⟨some 24,.mov false (.tmp 5),none⟩, ⟨some 25,.call (.lit (.fn 80 [])) [(.tmp 23), (.tmp 24)],none⟩, ⟨some 26,.un .not (.tmp 25),none⟩]
def r67_5 : MCode := .region 5 q67_5_0 false [0, 1, 6, 26]
theorem x67_5 : exec run esc l base r67_5 e σ = (stepOps run esc base q67_5_0 e σ).bind (Zk [0, 1, 6, 26] base) := rfl
def q67_6_0 : List MOper := [⟨some 27,.mov false (.tmp 0),none⟩, ⟨some 28,.mov false (.tmp 0),none⟩, ⟨some 29,.len true (.tmp 28),none⟩, ⟨some 30,.mov false (.tmp 6),none⟩, ⟨some 31,.bin .sub (.tmp 29) (.tmp 30),none⟩, ⟨some 32,.substr (.tmp 27) none (some (.tmp 31)),none⟩]
def q67_6_1 : List MOper := [⟨some 0,.mov false (.tmp 32),none⟩]
def r67_6 : MCode := .region 6 (q67_6_0 ++ q67_6_1) false [0, 1]
theorem x67_6 : exec run esc l base r67_6 e σ = (stepOps run esc base q67_6_0 e σ).bind fun x => (stepOps run esc base q67_6_1 x.1 x.2).bind (Zk [0, 1] base) := reg2
def l67_0 : MCode := (.seq (.seq r67_1 (.cond (.tmp 9) .skip (.exit 0))) (.block 1 (.seq r67_2 (.seq (.seq r67_3 (.cond (.tmp 17) r67_4 .skip)) (.seq (.seq r67_5 (.cond (.tmp 26) (.exit 0) .skip)) r67_6)))))
def q67_7_0 : List MOper := [⟨some 33,.mov false (.tmp 0),none⟩, ⟨some 4,.mov false (.tmp 33),none⟩]
def r67_7 : MCode := .region 7 q67_7_0 false [4]
theorem x67_7 : exec run esc l base r67_7 e σ = (stepOps run esc base q67_7_0 e σ).bind (Zk [4] base) := rfl
def m67 : MFunc := ⟨(.seq r67_0 (.seq (.block 0 (.loop l67_0)) (.seq r67_7 .ret))), [.tmp 4], false, false⟩
def q68_0_0 : List MOper := [⟨some 4,.mov false (.lit (.int .i64 0)),none⟩]
def r68_0 : MCode := .region 0 q68_0_0 false [0, 1]
theorem x68_0 : exec run esc l base r68_0 e σ = (stepOps run esc base q68_0_0 e σ).bind (Zk [0, 1] base) := rfl
def q68_1_0 : List MOper := [⟨some 5,.mov false (.tmp 0),none⟩, ⟨some 6,.mov false (.tmp 1),none⟩, ⟨some 7,.call (.lit (.fn 82 [])) [(.tmp 5), (.tmp 6)],none⟩, ⟨some 4,.mov false (.tmp 7),none⟩]
def r68_1 : MCode := .region 1 q68_1_0 false [4]
theorem x68_1 : exec run esc l base r68_1 e σ = (stepOps run esc base q68_1_0 e σ).bind (Zk [4] base) := rfl
def m68 : MFunc := ⟨(.seq r68_0 (.seq r68_1 .ret)), [.tmp 4], false, false⟩
def q78_0_0 : List MOper := [⟨some 4,.mov false (.lit (.bool false)),none⟩]
def r78_0 : MCode := .region 0 q78_0_0 false [0, 1]
theorem x78_0 : exec run esc l base r78_0 e σ = (stepOps run esc base q78_0_0 e σ).bind (Zk [0, 1] base) := rfl
def q78_1_0 : List MOper := [⟨some 5,.mov false (.tmp 0),none⟩, ⟨some 6,.mov false (.tmp 1),none⟩, ⟨some 7,.nilCheck (.tmp 5),none⟩, ⟨some 8,.indexArr 256 1 (.tmp 7) (.tmp 6),none⟩, ⟨some 9,.load false false 1 (.tmp 8),none⟩, ⟨some 4,.mov false (.tmp 9),none⟩]
def r78_1 : MCode := .region 1 q78_1_0 false [4]
theorem x78_1 : exec run esc l base r78_1 e σ = (stepOps run esc base q78_1_0 e σ).bind (Zk [4] base) := rfl
def m78 : MFunc := ⟨(.seq r78_0 (.seq r78_1 .ret)), [.tmp 4], false, false⟩
def q79_0_0 : List MOper := [⟨some 2,.mov false (.lit (.int .i32 0)),none⟩, ⟨some 3,.mov false (.lit (.int .i64 0)),none⟩]
def r79_0 : MCode := .region 0 q79_0_0 false [0]
theorem x79_0 : exec run esc l base r79_0 e σ = (stepOps run esc base q79_0_0 e σ).bind (Zk [0] base) := rfl
def q79_1_0 : List MOper := [⟨some 4,.mov false (.tmp 0),none⟩, ⟨some 5,.bin .neq (.tmp 4) (.lit (.str [])),none⟩, ⟨some 6,.mov false (.tmp 5),none⟩, ⟨some 7,.mov false (.tmp 0),some (6, true)⟩, ⟨some 8,.at (.tmp 7) (.lit (.int .i64 0)),some (6, true)⟩, ⟨some 9,.bin .lss (.tmp 8) (.lit (.int .u8 128)),some (6, true)⟩]
def q79_1_1 : List MOper := [⟨some 10,.pick (.tmp 6) (.tmp 9) (.lit (.bool false)),none⟩]
def r79_1 : MCode := .region 1 (q79_1_0 ++ q79_1_1) false [0, 10]
theorem x79_1 : exec run esc l base r79_1 e σ = (stepOps run esc base q79_1_0 e σ).bind fun x => (stepOps run esc base q79_1_1 x.1 x.2).bind (Zk [0, 10] base) := reg2
def q79_2_0 : List MOper := [⟨some 11,.mov false (.tmp 0),none⟩, ⟨some 12,.at (.tmp 11) (.lit (.int .i64 0)),none⟩, ⟨some 13,.conv .i32 (.tmp 12),none⟩, ⟨some 2,.mov false (.tmp 13),none⟩, ⟨some 3,.mov false (.lit (.int .i64 1)),none⟩]
def r79_2 : MCode := .region 2 q79_2_0 false [2, 3]
theorem x79_2 : exec run esc l base r79_2 e σ = (stepOps run esc base q79_2_0 e σ).bind (Zk [2, 3] base) := rfl
def q79_3_0 : List MOper := [⟨some 15,.mov false (.tmp 0),none⟩, ⟨some 16,.call (.lit (.fn 93 [])) [(.tmp 15)],none⟩, ⟨some 14,.mov false (.tmp 16),none⟩, ⟨some 17,.extract 0 (.tmp 14),none⟩, ⟨some 18,.extract 1 (.tmp 14),none⟩, ⟨some 2,.mov false (.tmp 17),none⟩]
def q79_3_1 : List MOper := [⟨some 3,.mov false (.tmp 18),none⟩]
def r79_3 : MCode := .region 3 (q79_3_0 ++ q79_3_1) false [2, 3]
theorem x79_3 : exec run esc l base r79_3 e σ = (stepOps run esc base q79_3_0 e σ).bind fun x => (stepOps run esc base q79_3_1 x.1 x.2).bind (Zk [2, 3] base) := reg2
def m79 : MFunc := ⟨(.seq r79_0 (.seq (.seq r79_1 (.cond (.tmp 10) (.seq r79_2 .ret) r79_3)) .ret)), [.tmp 2, .tmp 3], false, false⟩
def q80_0_0 : List MOper := [⟨some 4,.mov false (.lit (.bool false)),none⟩]
def r80_0 : MCode := .region 0 q80_0_0 false [0, 1]
theorem x80_0 : exec run esc l base r80_0 e σ = (stepOps run esc base q80_0_0 e σ).bind (Zk [0, 1] base) := rfl
def q80_1_0 : List MOper := [⟨some 5,.mov false (.tmp 0),none⟩, ⟨some 6,.mov false (.tmp 1),none⟩, ⟨some 7,.call (.lit (.fn 94 [])) [(.tmp 5), (.tmp 6)],none⟩, ⟨some 8,.bin .geq (.tmp 7) (.lit (.int .i64 0)),none⟩, ⟨some 4,.mov false (.tmp 8),none⟩]
def r80_1 : MCode := .region 1 q80_1_0 false [4]
theorem x80_1 : exec run esc l base r80_1 e σ = (stepOps run esc base q80_1_0 e σ).bind (Zk [4] base) := rfl
def m80 : MFunc := ⟨(.seq r80_0 (.seq r80_1 .ret)), [.tmp 4], false, false⟩
def q81_0_0 : List MOper := [⟨some 2,.mov false (.lit (.int .i32 0)),none⟩, ⟨some 3,.mov false (.lit (.int .i64 0)),none⟩]
def r81_0 : MCode := .region 0 q81_0_0 false [0]
theorem x81_0 : exec run esc l base r81_0 e σ = (stepOps run esc base q81_0_0 e σ).bind (Zk [0] base) := rfl
def q81_1_0 : List MOper := [⟨some 7,.mov false (.tmp 0),none⟩, ⟨some 8,.len true (.tmp 7),none⟩, ⟨some 4,.mov false (.tmp 8),none⟩]
def r81_1 : MCode := .region 1 q81_1_0 false [0, 4]
theorem x81_1 : exec run esc l base r81_1 e σ = (stepOps run esc base q81_1_0 e σ).bind (Zk [0, 4] base) := rfl
def q81_2_0 : List MOper := [⟨some 9,.mov false (.tmp 4),none⟩, ⟨some 10,.bin .eql (.tmp 9) (.lit (.int .i64 0)),none⟩]
def r81_2 : MCode := .region 2 q81_2_0 false [0, 4, 10]
theorem x81_2 : exec run esc l base r81_2 e σ = (stepOps run esc base q81_2_0 e σ).bind (Zk [0, 4, 10] base) := rfl
def q81_3_0 : List MOper := [⟨some 2,.mov false (.lit (.int .i32 65533)),none⟩, ⟨some 3,.mov false (.lit (.int .i64 0)),none⟩]
def r81_3 : MCode := .region 3 q81_3_0 false [2, 3]
theorem x81_3 : exec run esc l base r81_3 e σ = (stepOps run esc base q81_3_0 e σ).bind (Zk [2, 3] base) := rfl
def q81_4_0 : List MOper := [⟨some 11,.mov false (.tmp 4),none⟩, ⟨some 12,.bin .sub (.tmp 11) (.lit (.int .i64 1)),none⟩, ⟨some 5,.mov false (.tmp 12),none⟩]
def r81_4 : MCode := .region 4 q81_4_0 false [0, 4, 5]
theorem x81_4 : exec run esc l base r81_4 e σ = (stepOps run esc base q81_4_0 e σ).bind (Zk [0, 4, 5] base) := rfl
def q81_5_0 : List MOper := [⟨some 13,.mov false (.tmp 0),none⟩, ⟨some 14,.mov false (.tmp 5),none⟩, ⟨some 15,.at (.tmp 13) (.tmp 14),none⟩, ⟨some 16,.conv .i32 (.tmp 15),none⟩, ⟨some 2,.mov false (.tmp 16),none⟩]
def r81_5 : MCode := .region 5 q81_5_0 false [0, 2, 4, 5]
theorem x81_5 : exec run esc l base r81_5 e σ = (stepOps run esc base q81_5_0 e σ).bind (Zk [0, 2, 4, 5] base) := rfl
def q81_6_0 : List MOper := [⟨some 17,.mov false (.tmp 2),none⟩, ⟨some 18,.bin .lss (.tmp 17) (.lit (.int .i32 128)),none⟩]
def r81_6 : MCode := .region 6 q81_6_0 false [0, 2, 4, 5, 18]
theorem x81_6 : exec run esc l base r81_6 e σ = (stepOps run esc base q81_6_0 e σ).bind (Zk [0, 2, 4, 5, 18] base) := rfl
def q81_7_0 : List MOper := [⟨some 19,.mov false (.tmp 2),none⟩, ⟨some 2,.mov false (.tmp 19),none⟩, ⟨some 3,.mov false (.lit (.int .i64 1)),none⟩]
def r81_7 : MCode := .region 7 q81_7_0 false [2, 3]
theorem x81_7 : exec run esc l base r81_7 e σ = (stepOps run esc base q81_7_0 e σ).bind (Zk [2, 3] base) := rfl
def q81_8_0 : List MOper := [⟨some 20,.mov false (.tmp 4),none⟩, ⟨some 21,.bin .sub (.tmp 20) (.lit (.int .i64 4)),none⟩, ⟨some 22,.max2 (.tmp 21) (.lit (.int .i64 0)),none⟩, ⟨some 6,.mov false (.tmp 22),none⟩]
def r81_8 : MCode := .region 8 q81_8_0 false [0, 4, 5, 6]
theorem x81_8 : exec run esc l base r81_8 e σ = (stepOps run esc base q81_8_0 e σ).bind (Zk [0, 4, 5, 6] base) := rfl
def q81_9_0 : List MOper := [⟨some 23,.mov false (.tmp 5),none⟩, ⟨some 24,.bin .sub (.tmp 23) (.lit (.int .i64 1)),none⟩, ⟨some 5,.mov false (.tmp 24),none⟩]
def r81_9 : MCode := .region 9 q81_9_0 false [0, 4, 5, 6]
theorem x81_9 : exec run esc l base r81_9 e σ = (stepOps run esc base q81_9_0 e σ).bind (Zk [0, 4, 5, 6] base) := rfl
def q81_10_0 : List MOper := [⟨some 25,.mov false (.tmp 5),none⟩, ⟨some 26,.mov false (.tmp 6),none⟩, ⟨some 27,.bin .geq (.tmp 25) (.tmp 26),none⟩]
def r81_10 : MCode := .region 10 q81_10_0 false [0, 4, 5, 6, 27]
theorem x81_10 : exec run esc l base r81_10 e σ = (stepOps run esc base q81_10_0 e σ).bind (Zk [0, 4, 5, 6, 27] base) := rfl
def q81_12_0 : List MOper := [⟨some 30,.mov false (.tmp 0),none⟩, ⟨some 31,.mov false (.tmp 5),none⟩, ⟨some 32,.at (.tmp 30) (.tmp 31),none⟩, ⟨some 33,.call (.lit (.fn 95 [])) [(.tmp 32)],none⟩]
def r81_12 : MCode := .region 12 q81_12_0 false [0, 4, 5, 6, 33]
theorem x81_12 : exec run esc l base r81_12 e σ = (stepOps run esc base q81_12_0 e σ).bind (Zk [0, 4, 5, 6, 33] base) := rfl
def q81_11_0 : List MOper := [⟨some 28,.mov false (.tmp 5),none⟩, ⟨some 29,.bin .sub (.tmp 28) (.lit (.int .i64 1)),none⟩, ⟨some 5,.mov false (.tmp 29),none⟩]
def r81_11 : MCode := .region 11 q81_11_0 false [0, 4, 5, 6]
theorem x81_11 : exec run esc l base r81_11 e σ = (stepOps run esc base q81_11_0 e σ).bind (Zk [0, 4, 5, 6] base) := rfl
def l81_0 : MCode := (.seq (.seq r81_10 (.cond (.tmp 27) .skip (.exit 0))) (.seq (.block 1 (.seq r81_12 (.cond (.tmp 33) (.exit 0) .skip))) r81_11))
def q81_13_0 : List MOper := [⟨some 34,.mov false (.tmp 5),none⟩, ⟨some 35,.bin .lss (.tmp 34) (.lit (.int .i64 0)),none⟩]
def r81_13 : MCode := .region 13 q81_13_0 false [0, 4, 5, 35]
theorem x81_13 : exec run esc l base r81_13 e σ = (stepOps run esc base q81_13_0 e σ).bind (Zk [0, 4, 5, 35] base) := rfl
def q81_14_0 : List MOper := [⟨some 5,.mov false (.lit (.int .i64 0)),none⟩]
def r81_14 : MCode := .region 14 q81_14_0 false [0, 4, 5]
theorem x81_14 : exec run esc l base r81_14 e σ = (stepOps run esc base q81_14_0 e σ).bind (Zk [0, 4, 5] base) := rfl
def q81_15_0 : List MOper := [⟨some 37,.mov false (.tmp 0),none⟩, ⟨some 38,.mov false (.tmp 5),none⟩, ⟨some 39,.mov false (.tmp 4),none⟩, ⟨some 40,.substr (.tmp 37) (some (.tmp 38)) (some (.tmp 39)),none⟩, ⟨some 41,.call (.lit (.fn 79 [])) [(.tmp 40)],none⟩, ⟨some 36,.mov false (.tmp 41),none⟩]
def q81_15_1 : List MOper := [⟨some 42,.extract 0 (.tmp 36),none⟩, ⟨some 43,.extract 1 (.tmp 36),none⟩, ⟨some 2,.mov false (.tmp 42),none⟩, ⟨some 3,.mov false (.tmp 43),none⟩]
def r81_15 : MCode := .region 15 (q81_15_0 ++ q81_15_1) false [2, 3, 4, 5]
theorem x81_15 : exec run esc l base r81_15 e σ = (stepOps run esc base q81_15_0 e σ).bind fun x => (stepOps run esc base q81_15_1 x.1 x.2).bind (Zk [2, 3, 4, 5] base) := reg2
def q81_16_0 : List MOper := [⟨some 44,.mov false (.tmp 5),none⟩, ⟨some 45,.mov false (.tmp 3),none⟩, ⟨some 46,.bin .add (.tmp 44) (.tmp 45),none⟩, ⟨some 47,.mov false (.tmp 4),none⟩, ⟨some 48,.bin .neq (.tmp 46) (.tmp 47),none⟩]
def r81_16 : MCode := .region 16 q81_16_0 false [2, 3, 48]
theorem x81_16 : exec run esc l base r81_16 e σ = (stepOps run esc base q81_16_0 e σ).bind (Zk [2, 3, 48] base) := rfl
def q81_17_0 : List MOper := [⟨some 2,.mov false (.lit (.int .i32 65533)),none⟩, ⟨some 3,.mov false (.lit (.int .i64 1)),none⟩]
def r81_17 : MCode := .region 17 q81_17_0 false [2, 3]
theorem x81_17 : exec run esc l base r81_17 e σ = (stepOps run esc base q81_17_0 e σ).bind (Zk [2, 3] base) := rfl
def q81_18_0 : List MOper := [⟨some 49,.mov false (.tmp 2),none⟩, ⟨some 50,.mov false (.tmp 3),none⟩, ⟨some 2,.mov false (.tmp 49),none⟩, ⟨some 3,.mov false (.tmp 50),none⟩]
def r81_18 : MCode := .region 18 q81_18_0 false [2, 3]
theorem x81_18 : exec run esc l base r81_18 e σ = (stepOps run esc base q81_18_0 e σ).bind (Zk [2, 3] base) := rfl
def m81 : MFunc := ⟨(.seq r81_0 (.seq r81_1 (.seq (.seq r81_2 (.cond (.tmp 10) (.seq r81_3 .ret) .skip)) (.seq r81_4 (.seq r81_5 (.seq (.seq r81_6 (.cond (.tmp 18) (.seq r81_7 .ret) .skip)) (.seq r81_8 (.seq (.seq r81_9 (.block 0 (.loop l81_0))) (.seq (.seq r81_13 (.cond (.tmp 35) r81_14 .skip)) (.seq r81_15 (.seq (.seq r81_16 (.cond (.tmp 48) (.seq r81_17 .ret) .skip)) (.seq r81_18 .ret)))))))))))), [.tmp 2, .tmp 3], false, false⟩
def q82_0_0 : List MOper := [⟨some 4,.mov false (.lit (.int .i64 0)),none⟩]
def r82_0 : MCode := .region 0 q82_0_0 false [0, 1]
theorem x82_0 : exec run esc l base r82_0 e σ = (stepOps run esc base q82_0_0 e σ).bind (Zk [0, 1] base) := rfl
def q82_1_0 : List MOper := [⟨some 5,.mov false (.tmp 0),none⟩, ⟨some 6,.mov false (.tmp 1),none⟩, ⟨some 7,.nat 0 [(.tmp 5), (.tmp 6)],none⟩, ⟨some 4,.mov false (.tmp 7),none⟩]
def r82_1 : MCode := .region 1 q82_1_0 false [4]
theorem x82_1 : exec run esc l base r82_1 e σ = (stepOps run esc base q82_1_0 e σ).bind (Zk [4] base) := rfl
def m82 : MFunc := ⟨(.seq r82_0 (.seq r82_1 .ret)), [.tmp 4], false, false⟩
def q95_0_0 : List MOper := [⟨some 2,.mov false (.lit (.bool false)),none⟩]
def r95_0 : MCode := .region 0 q95_0_0 false [0]
theorem x95_0 : exec run esc l base r95_0 e σ = (stepOps run esc base q95_0_0 e σ).bind (Zk [0] base) := rfl
def q95_1_0 : List MOper := [⟨some 3,.mov false (.tmp 0),none⟩, ⟨some 4,.bin .and (.tmp 3) (.lit (.int .u8 192)),none⟩, ⟨some 5,.bin .neq (.tmp 4) (.lit (.int .u8 128)),none⟩, ⟨some 2,.mov false (.tmp 5),none⟩]
def r95_1 : MCode := .region 1 q95_1_0 false [2]
theorem x95_1 : exec run esc l base r95_1 e σ = (stepOps run esc base q95_1_0 e σ).bind (Zk [2] base) := rfl
def m95 : MFunc := ⟨(.seq r95_0 (.seq r95_1 .ret)), [.tmp 2], false, false⟩
def tab : Tab := fun f => match f with
  | 3 => some m3
  | 5 => some m5
  | 6 => some m6
  | 12 => some m12
  | 13 => some m13
  | 14 => some m14
  | 15 => some m15
  | 16 => some m16
  | 17 => some m17
  | 18 => some m18
  | 19 => some m19
  | 21 => some m21
  | 23 => some m23
  | 24 => some m24
  | 25 => some m25
  | 26 => some m26
  | 40 => some m40
  | 41 => some m41
  | 42 => some m42
  | 43 => some m43
  | 44 => some m44
  | 45 => some m45
  | 46 => some m46
  | 47 => some m47
  | 48 => some m48
  | 61 => some m61
  | 62 => some m62
  | 63 => some m63
  | 64 => some m64
  | 65 => some m65
  | 66 => some m66
  | 67 => some m67
  | 68 => some m68
  | 78 => some m78
  | 79 => some m79
  | 80 => some m80
  | 81 => some m81
  | 82 => some m82
  | 95 => some m95
  | _ => none
theorem tab_3 : tab 3 = some m3 := rfl
theorem esc_3 : tab.esc 3 = false := rfl
theorem tab_5 : tab 5 = some m5 := rfl
theorem esc_5 : tab.esc 5 = false := rfl
theorem tab_6 : tab 6 = some m6 := rfl
theorem esc_6 : tab.esc 6 = false := rfl
theorem tab_12 : tab 12 = some m12 := rfl
theorem esc_12 : tab.esc 12 = false := rfl
theorem tab_13 : tab 13 = some m13 := rfl
theorem esc_13 : tab.esc 13 = false := rfl
theorem tab_14 : tab 14 = some m14 := rfl
theorem esc_14 : tab.esc 14 = false := rfl
theorem tab_15 : tab 15 = some m15 := rfl
theorem esc_15 : tab.esc 15 = false := rfl
theorem tab_16 : tab 16 = some m16 := rfl
theorem esc_16 : tab.esc 16 = false := rfl
theorem tab_17 : tab 17 = some m17 := rfl
theorem esc_17 : tab.esc 17 = false := rfl
theorem tab_18 : tab 18 = some m18 := rfl
theorem esc_18 : tab.esc 18 = false := rfl
theorem tab_19 : tab 19 = some m19 := rfl
theorem esc_19 : tab.esc 19 = false := rfl
theorem tab_21 : tab 21 = some m21 := rfl
theorem esc_21 : tab.esc 21 = false := rfl
theorem tab_23 : tab 23 = some m23 := rfl
theorem esc_23 : tab.esc 23 = false := rfl
theorem tab_24 : tab 24 = some m24 := rfl
theorem esc_24 : tab.esc 24 = false := rfl
theorem tab_25 : tab 25 = some m25 := rfl
theorem esc_25 : tab.esc 25 = false := rfl
theorem tab_26 : tab 26 = some m26 := rfl
theorem esc_26 : tab.esc 26 = false := rfl
theorem tab_40 : tab 40 = some m40 := rfl
theorem esc_40 : tab.esc 40 = false := rfl
theorem tab_41 : tab 41 = some m41 := rfl
theorem esc_41 : tab.esc 41 = false := rfl
theorem tab_42 : tab 42 = some m42 := rfl
theorem esc_42 : tab.esc 42 = false := rfl
theorem tab_43 : tab 43 = some m43 := rfl
theorem esc_43 : tab.esc 43 = false := rfl
theorem tab_44 : tab 44 = some m44 := rfl
theorem esc_44 : tab.esc 44 = false := rfl
theorem tab_45 : tab 45 = some m45 := rfl
theorem esc_45 : tab.esc 45 = false := rfl
theorem tab_46 : tab 46 = some m46 := rfl
theorem esc_46 : tab.esc 46 = false := rfl
theorem tab_47 : tab 47 = some m47 := rfl
theorem esc_47 : tab.esc 47 = false := rfl
theorem tab_48 : tab 48 = some m48 := rfl
theorem esc_48 : tab.esc 48 = false := rfl
theorem tab_61 : tab 61 = some m61 := rfl
theorem esc_61 : tab.esc 61 = false := rfl
theorem tab_62 : tab 62 = some m62 := rfl
theorem esc_62 : tab.esc 62 = false := rfl
theorem tab_63 : tab 63 = some m63 := rfl
theorem esc_63 : tab.esc 63 = false := rfl
theorem tab_64 : tab 64 = some m64 := rfl
theorem esc_64 : tab.esc 64 = false := rfl
theorem tab_65 : tab 65 = some m65 := rfl
theorem esc_65 : tab.esc 65 = false := rfl
theorem tab_66 : tab 66 = some m66 := rfl
theorem esc_66 : tab.esc 66 = false := rfl
theorem tab_67 : tab 67 = some m67 := rfl
theorem esc_67 : tab.esc 67 = false := rfl
theorem tab_68 : tab 68 = some m68 := rfl
theorem esc_68 : tab.esc 68 = false := rfl
theorem tab_78 : tab 78 = some m78 := rfl
theorem esc_78 : tab.esc 78 = false := rfl
theorem tab_79 : tab 79 = some m79 := rfl
theorem esc_79 : tab.esc 79 = false := rfl
theorem tab_80 : tab 80 = some m80 := rfl
theorem esc_80 : tab.esc 80 = false := rfl
theorem tab_81 : tab 81 = some m81 := rfl
theorem esc_81 : tab.esc 81 = false := rfl
theorem tab_82 : tab 82 = some m82 := rfl
theorem esc_82 : tab.esc 82 = false := rfl
theorem tab_95 : tab 95 = some m95 := rfl
theorem esc_95 : tab.esc 95 = false := rfl
end Go.Mir.D
