import Derived.Test.YtlpfeikoniepiaaRRL22
import Derived.Test.YtlpfeikoniepiaaRRLA
set_option linter.all false
namespace Go.Mir.A
attribute [local congr] bind_head
attribute [local simp] exec stepOps stepOp wantedD evalOp.eq_1 evalOp.eq_2 evalOp.eq_3 evalOp.eq_4 evalOp.eq_5 evalOp.eq_6 evalOp.eq_7 evalOp.eq_8 evalOp.eq_9 evalOp.eq_10 evalOp.eq_11 evalOp.eq_12 evalOp.eq_13 evalOp.eq_14 evalOp.eq_15 evalOp.eq_16 evalOp.eq_18 evalOp.eq_19 evalOp.eq_20 evalOp.eq_21 evalOp.eq_22 evalOp.eq_23 evalOp.eq_24 evalOp.eq_25 evalOp.eq_26 evalOp.eq_27 evalOp.eq_28 evalOp.eq_29 evalOp.eq_31 evalOp.eq_32 evalOp_append evalOp_slice appD_nil rowsOk_nil rowsOk_cons rowsOk_app rowsOk_tk rowsOk_dp rowsOk_tl rowsOk_S rowsOk_P rowsOk_R underLL_tl underLL_app underLL_tk underLL_dp nn1 nn2 take_rest take_full MArg.ev MArg.evs Env.get Env.put Env.keep putD gc Dat.strip Dat.strip1 MArg.take binD intBin loadD ofCells bindArgs leave resD packD Dat.noTup encPs encP encB encS encR Dat.cells? Dat.safe St.get St.set Dat.underL Dat.underLL Dat.under Dat.norm callD callC under_encP under_encS under_encR gc_self fillD elemsD bound Dat.rows? cellsEq cellEq
set_option linter.unusedSimpArgs false
set_option linter.unusedVariables false
set_option maxHeartbeats 1000000
set_option maxRecDepth 4000

theorem sameSeen_refl (l : List Seen) : sameSeen l l = true := by
  induction l with
  | nil => rfl
  | cons s r ih => simp [sameSeen, sameS, ih]
theorem sameP_refl (p : Prod) : sameP p p = true := by simp [sameP, sameSeen_refl]
theorem samePs_refl (l : List Prod) : samePs l l = true := by
  induction l with
  | nil => rfl
  | cons s r ih => simp [samePs, sameP_refl, ih]
theorem setP_len (l : List Prod) (q : Prod) : (setP l q).length ≤ l.length + 1 := by
  have := place_le l q.pid
  unfold setP
  split <;> simp <;> omega
theorem setP_mem {l : List Prod} {q p : Prod} (h : p ∈ setP l q) : p ∈ l ∨ p = q := by
  unfold setP at h
  simp only [List.mem_append, List.mem_singleton] at h
  rcases h with (h | h) | h
  · exact .inl (List.mem_of_mem_take h)
  · exact .inr h
  · exact .inl (List.mem_of_mem_drop h)
theorem cutS_len (l : List Seen) (n : Nat) : (cutS l n).length ≤ l.length := by unfold cutS; split <;> simp
theorem baseP_len {l : List Prod} (hl : okL l) (b : Batch) : (baseP l b).seen.length ≤ 1000 := by
  unfold baseP
  split
  · rename_i h
    rcases hf : findP l b.pid with ⟨p, known⟩
    rw [hf] at h
    obtain rfl : known = true := h.1
    exact (hl.2 p (findP_mem hf).1).1
  · simp
theorem takeP_len {l : List Prod} (hl : okL l) (b : Batch) (base : Int) : (takeP l b base).1.length ≤ 1001 ∧ ∀ p ∈ (takeP l b base).1, p.seen.length ≤ 1001 := by
  unfold takeP
  split
  · simp
  split
  · simp
  split
  · simp
  refine ⟨Nat.le_trans (setP_len _ _) (by have := hl.1; omega), fun p hp => ?_⟩
  rcases setP_mem hp with h | rfl
  · have := (hl.2 p h).1; omega
  · have := baseP_len hl b
    refine Nat.le_trans (cutS_len _ _) ?_
    simp; omega

def e3 (l : List Prod) (base : Int) (i : Nat) : Env := [(0, encPs l), (2, .int .i64 base), (4, .ptr 0 0), (7, .slice true ((l.take i).map encP)), (8, .int .i64 i)]
theorem t3 (l : List Prod) (b : Batch) (base : Int) (h1 : l.length ≤ 9223372036854775807) (h2 : ∀ p ∈ l, rngS p.seen) (h3 : b.recs.length ≤ 9223372036854775807) : run tab 3 [encPs l, .agg (encB b), .int .i64 base] [] = some (.bool true, []) := by
  obtain ⟨g, h9, hg⟩ := t9 l h1
  have h10 := t10 b h3
  simp at h9 h10
  rw [run_eq, tab_3]
  cases g with
  | true => simp [m3, x3_0, q3_0_0, x3_1, q3_1_0, x3_2, q3_2_0, x3_3, q3_3_0, x3_4, q3_4_0, x3_5, q3_5_0, x3_7, q3_7_0, x3_8, q3_8_0, x3_9, q3_9_0, x3_6, q3_6_0, x3_10, q3_10_0, q3_10_1, x3_11, q3_11_0, q3_11_1, x3_12, q3_12_0, q3_12_1, q3_12_2, h9, esc_9, esc_11, t11]
  | false =>
    cases hgb : greatB b with
    | true => rw [hgb] at h10; simp [m3, x3_0, q3_0_0, x3_1, q3_1_0, x3_2, q3_2_0, x3_3, q3_3_0, x3_4, q3_4_0, x3_5, q3_5_0, x3_7, q3_7_0, x3_8, q3_8_0, x3_9, q3_9_0, x3_6, q3_6_0, x3_10, q3_10_0, q3_10_1, x3_11, q3_11_0, q3_11_1, x3_12, q3_12_0, q3_12_1, q3_12_2, h9, esc_9, h10, esc_10, esc_11, t11]
    | false =>
      rw [hgb] at h10
      obtain ⟨g1, g2⟩ := hg rfl
      obtain ⟨g3, g4⟩ := greatB_not hgb
      have hl : okL l := ⟨by omega, fun p hp => by
        obtain ⟨k, hk, rfl⟩ := List.getElem_of_mem hp
        exact ⟨by have := g2 k hk; omega, h2 _ hp⟩⟩
      have h12 := t12 l b base hl (by omega)
      have h13 := t13 l b base hl (by omega)
      obtain ⟨k1, k2⟩ := takeP_len hl b base
      have h14 := t14 (takeP l b base).1 (takeP l b base).1 (by omega) (fun p hp => by have := k2 p hp; omega)
      have h14' := t14 l l (by omega) (fun p hp => by have := (hl.2 p hp).1; omega)
      rw [samePs_refl] at h14 h14'
      simp [encT] at h12 h13 h14 h14'
      simp [m3, x3_0, q3_0_0, x3_1, q3_1_0, x3_2, q3_2_0, x3_3, q3_3_0, x3_4, q3_4_0, x3_5, q3_5_0, x3_7, q3_7_0, x3_8, q3_8_0, x3_9, q3_9_0, x3_6, q3_6_0, x3_10, q3_10_0, q3_10_1, x3_11, q3_11_0, q3_11_1, x3_12, q3_12_0, q3_12_1, q3_12_2, h9, esc_9, h10, esc_10]
      simp only [Option.bind_assoc]
      refine (loop_cont (e3 l base) (fun _ => [encB b]) l.length (fun _ => True) (fun _ => some (Dat.bool true, [])) trivial (fun _ => ?_) fun i hi _ => ?_)
      · simp [l3_0, m3, x3_0, q3_0_0, x3_1, q3_1_0, x3_2, q3_2_0, x3_3, q3_3_0, x3_4, q3_4_0, x3_5, q3_5_0, x3_7, q3_7_0, x3_8, q3_8_0, x3_9, q3_9_0, x3_6, q3_6_0, x3_10, q3_10_0, q3_10_1, x3_11, q3_11_0, q3_11_1, x3_12, q3_12_0, q3_12_1, q3_12_2, e3, h12, h13, esc_12, esc_13, h14, h14', esc_14, esc_11, t11]
      · have hw : IntKind.wrap .i64 ((i : Int) + 1) = i + 1 := wrap64 (by omega) (by omega)
        have hps := (hl.2 _ (List.getElem_mem hi)).1
        have a0 := appD_ok (esz := 3) (bytes := 24) (xs := []) (ys := (l[i]).seen.map encS) (by simp; omega) (by simp) (rows_encS _)
        have a1 := appD_ok (esz := 4) (bytes := 48) (xs := (l.take i).map encP) (ys := [encP l[i]]) (by simp; omega) (rows_encP _) (by simp [encP])
        have ht : List.take i (List.map encP l) ++ [encP l[i]] = List.take (i + 1) (List.map encP l) := by
          rw [List.take_succ_eq_append_getElem (by simpa using hi)]; simp
        simp only [encP] at ht
        simp at a0 a1
        refine .inl ⟨?_, trivial, rfl⟩
        simp [l3_0, m3, x3_0, q3_0_0, x3_1, q3_1_0, x3_2, q3_2_0, x3_3, q3_3_0, x3_4, q3_4_0, x3_5, q3_5_0, x3_7, q3_7_0, x3_8, q3_8_0, x3_9, q3_9_0, x3_6, q3_6_0, x3_10, q3_10_0, q3_10_1, x3_11, q3_11_0, q3_11_1, x3_12, q3_12_0, q3_12_1, q3_12_2, e3, hi, hw, a0, a1, ht]
end Go.Mir.A
