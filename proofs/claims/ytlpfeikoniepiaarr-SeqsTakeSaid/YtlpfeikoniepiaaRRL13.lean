import Derived.Test.YtlpfeikoniepiaaRRL12
import Derived.Test.YtlpfeikoniepiaaRRMirSim2
set_option linter.all false
namespace Go.Mir.A
attribute [local congr] bind_head
attribute [local simp] exec stepOps stepOp wantedD evalOp.eq_1 evalOp.eq_2 evalOp.eq_3 evalOp.eq_4 evalOp.eq_5 evalOp.eq_6 evalOp.eq_7 evalOp.eq_8 evalOp.eq_9 evalOp.eq_10 evalOp.eq_11 evalOp.eq_12 evalOp.eq_13 evalOp.eq_14 evalOp.eq_15 evalOp.eq_16 evalOp.eq_18 evalOp.eq_19 evalOp.eq_20 evalOp.eq_21 evalOp.eq_22 evalOp.eq_23 evalOp.eq_24 evalOp.eq_25 evalOp.eq_26 evalOp.eq_27 evalOp.eq_28 evalOp.eq_29 evalOp.eq_31 evalOp.eq_32 evalOp_append evalOp_slice appD_nil rowsOk_nil rowsOk_cons rowsOk_app rowsOk_tk rowsOk_dp rowsOk_tl rowsOk_S rowsOk_P rowsOk_R underLL_tl underLL_app underLL_tk underLL_dp nn1 nn2 take_rest take_full MArg.ev MArg.evs Env.get Env.put Env.keep putD gc Dat.strip Dat.strip1 MArg.take binD intBin loadD ofCells bindArgs leave resD packD Dat.noTup encPs encP encB encS encR Dat.cells? Dat.safe St.get St.set Dat.underL Dat.underLL Dat.under Dat.norm callD callC under_encP under_encS under_encR gc_self fillD elemsD bound Dat.rows? cellsEq cellEq
set_option linter.unusedSimpArgs false
set_option linter.unusedVariables false
set_option maxHeartbeats 1000000

def setP (l : List Prod) (p : Prod) : List Prod := l.take (place l p.pid) ++ [p] ++ l.drop (if there l p.pid then place l p.pid + 1 else place l p.pid)
theorem place_le (l : List Prod) (pid : Int) : place l pid ≤ l.length := List.findIdx_le_length
theorem place_lt {l : List Prod} {pid : Int} (h : there l pid = true) : place l pid < l.length := by
  rcases Nat.lt_or_ge (place l pid) l.length with h1 | h1
  · exact h1
  · simp [there, show ¬ place l pid < l.length by omega] at h
theorem rows_encP (l : List Prod) : ∀ x ∈ l.map encP, x.length = 4 := by
  intro x hx
  obtain ⟨p, _, rfl⟩ := List.mem_map.1 hx
  rfl
theorem t37 (l : List Prod) (p : Prod) (hl : l.length ≤ 1000) : run tab 37 [encPs l, .agg (encP p)] [] = some (.slice false ((setP l p).map encP), []) := by
  have h55 := t55 l p.pid (by omega)
  simp at h55
  have hle := place_le l p.pid
  have a1 := appD_ok (esz := 4) (bytes := 48) (xs := []) (ys := (l.take (place l p.pid)).map encP) (by simp; omega) (by simp) (rows_encP _)
  have a2 := appD_ok (esz := 4) (bytes := 48) (xs := (l.take (place l p.pid)).map encP) (ys := [encP p]) (by simp; omega) (rows_encP _) (by simp [encP])
  rw [run_eq, tab_37]
  cases ht : there l p.pid with
  | true =>
    have hlt := place_lt ht
    have hlt' : place l p.pid + 1 ≤ l.length := hlt
    have hw : IntKind.wrap .i64 ((place l p.pid : Int) + 1) = place l p.pid + 1 := wrap64 (by omega) (by omega)
    have a3 := appD_ok (esz := 4) (bytes := 48) (xs := (l.take (place l p.pid) ++ [p]).map encP) (ys := (l.drop (place l p.pid + 1)).map encP) (by simp; omega) (rows_encP _) (rows_encP _)
    rw [ht] at h55
    simp at a1 a2 a3
    simp [m37, x37_0, q37_0_0, x37_1, q37_1_0, q37_1_1, x37_2, q37_2_0, x37_3, q37_3_0, x37_4, q37_4_0, x37_5, q37_5_0, x37_6, q37_6_0, x37_7, q37_7_0, h55, esc_55, hle, hlt', hw, setP, ht, a1, a2, a3]
  | false =>
    have a3 := appD_ok (esz := 4) (bytes := 48) (xs := (l.take (place l p.pid) ++ [p]).map encP) (ys := (l.drop (place l p.pid)).map encP) (by simp; omega) (rows_encP _) (rows_encP _)
    rw [ht] at h55
    simp at a1 a2 a3
    simp [m37, x37_0, q37_0_0, x37_1, q37_1_0, q37_1_1, x37_2, q37_2_0, x37_3, q37_3_0, x37_4, q37_4_0, x37_5, q37_5_0, x37_6, q37_6_0, x37_7, q37_7_0, h55, esc_55, hle, setP, ht, a1, a2, a3]
end Go.Mir.A
