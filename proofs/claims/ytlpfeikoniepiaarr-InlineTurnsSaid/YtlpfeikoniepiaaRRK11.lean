/- InlineTurns: the whole call. -/
import Derived.Test.YtlpfeikoniepiaaRRK10
set_option linter.all false
namespace Go.Mir.A
open Go.Proofs
set_option linter.unusedVariables false
set_option linter.unusedSectionVars false
set_option linter.unusedSimpArgs false
set_option maxRecDepth 100000

theorem leave7 : leave m7 ([] : St).length (.ret, [(4, .bool true)], []) = some (.bool true, []) := rfl
theorem calls7 (l : List Entry) (p : Int) (h2 : ∀ x ∈ l, x.b.recs.length ≤ 9223372036854775807) (W : World) (vs : List Value) (hr : RepL (Gh.init W) W [.slice false (l.map encE), .int .i64 p] vs) :
    Calls Try.prog 7 vs.toArray W fun e W' => e = .returned (.bool true) ∧ RowKit.Below W.heap.size W W' := by
  have hk := run_ok tabOk
  have hu0 : ∀ id c, St.get ([] : St) id = some c → Dat.underL ([] : St).length c = true := fun id c hc => by simp [St.get_nil] at hc
  have hlb : LB 0 (Gh.init W) := fun b π hb => by simp [Gh.init] at hb
  have hvl := RepL_len hr
  have hul : ∀ l : List Entry, Dat.underLL 0 (l.map encE) = true := fun l => underLL_mk fun x hx => by
    obtain ⟨y, _, rfl⟩ := List.mem_map.1 hx
    exact encE_under _ y
  refine law_calls_of ?_
  refine calls_of_wp (fn := Try.f7) Try.func7 body7 ?_
  have hfr : Fr 1 112 [] (Gh.init W) W (bindArgs 0 [.slice false (l.map encE), .int .i64 p]) [] { tmps := vs.toArray ++ Array.replicate (Try.f7.ntmps - vs.toArray.size) undef, defers := [] } W (Gh.init W) := by
    refine ⟨fun t d hd => ?_, init_st W, Ch.refl _ _ _, fun b π hb => by simp [Gh.init] at hb, rfl, by simp [ntmps7]; omega⟩
    obtain ⟨_, hd⟩ := get_bindArgs hd
    rw [Nat.sub_zero] at hd
    obtain ⟨v, hv, hrd⟩ := RepL_get hr hd
    refine ⟨v, ?_, hrd, ?_, ?_⟩
    · rw [Array.getElem?_append_left (by simpa using get_some hv)]
      simpa using hv
    · match t, hd with
      | 0, hd => injection hd with hd; subst hd; trivial
      | 1, hd => injection hd with hd; subst hd; trivial
    · match t, hd with
      | 0, hd => injection hd with hd; subst hd; exact hul l
      | 1, hd => injection hd with hd; subst hd; rfl
  -- a way that ends early
  have early : execs (run tab) tab.esc (fun b => loopN b 0) ([] : St).length ms7 [(0, .slice false (l.map encE)), (1, .int .i64 p)] [] = some (.ret, [(4, .bool true)], []) → _ := fun hx =>
    seqs_ok (Q := bodyPost Try.prog Try.f7 (fun e w' => ∃ v g', e = .returned v ∧ SlotOk 0 ([] : St).length g' w' 0 (.bool true) v ∧ StOk g' w' [] ∧ Ch [] (Gh.init W) W [] g' w' ∧ LB 0 g'))
      (rest := .seq (.region 10 o10 false) (.seq (.region 11 o11 false) (.seq (.region 12 o12 false) (b7 10)))) hk (by simpa using hlb) (by omega) hu0 codes7 hfr hx (fun h => by cases h) (fun _ a' w' g' h' => end_ok res7 h' hlb hu0 0 leave7)
  by_cases hs : l.length < 2
  · exact early (pre7_short l p hs)
  · by_cases hg : 200 < l.length ∨ greatAll l = true
    · exact early (pre7_great l p (by omega) h2 hg)
    · have hn : l.length ≤ 200 := by
        rcases Nat.lt_or_ge 200 l.length with h | h
        · exact absurd (.inl h) hg
        · exact h
      have hga : greatAll l = false := by
        cases h : greatAll l with
        | false => rfl
        | true => exact absurd (.inr h) hg
      obtain ⟨k1, k2, -⟩ := at7_ok (n := l.length) (by omega) hn p
      obtain ⟨k, hkk⟩ : ∃ k : Nat, (k : Int) = at7 l.length p := ⟨(at7 l.length p).toNat, by omega⟩
      have hk1 : k + 1 < l.length := by omega
      cases hb : bad7 l[k] l[k + 1] with
      | true => exact early (pre7_bad l p (by omega) hn hga k hkk hk1 h2 hb)
      | false =>
        have hm := fun L => pre7_main (L := L) l p (by omega) hn hga k hkk hk1 h2 hb
        cases hf : foldP l zeroPt with
        | none =>
          rw [hf] at hm
          exact early (hm _)
        | some q =>
          rw [hf] at hm
          obtain ⟨-, g2⟩ := greatAll_not hga
          have hq := foldP_good good_zero hf
          simp only [bad7, Bool.or_eq_false_iff, Bool.not_eq_false', decide_eq_true_eq, decide_eq_false_iff_not, Bool.and_eq_false_iff] at hb
          obtain ⟨c1, c2, c3, c4⟩ := hb
          have ht := turned_fold hk1 c1 c2 c3 c4 hf
          have hmem : ∀ x ∈ turned l k l[k] l[k + 1], x ∈ l := fun x hx => by
            unfold turned at hx
            rcases List.mem_or_eq_of_mem_set hx with hx | rfl
            · rcases List.mem_or_eq_of_mem_set hx with hx | rfl
              · exact hx
              · exact List.getElem_mem _
            · exact List.getElem_mem _
          refine seqs_ok (fuel := 0) (rest := .seq (.region 10 o10 false) (.seq (.region 11 o11 false) (.seq (.region 12 o12 false) (b7 10)))) hk (by simpa using hlb) (by omega) hu0 codes7 hfr (hm (fun b => loopN b 0)) (fun _ a' w' g' h' => ?_) (fun h => absurd rfl h)
          refine mid7 hn hk1 h' fun a2 w2 g2' h2' => ?_
          obtain ⟨m0, q1, q2, q3⟩ := codeR
          refine exec_ok (fuel := 0) hk (by simpa using hlb) (by omega) hu0 (b7 10) q1 q2 q3 h2' (rest7_ok (L := fun b => loopN b 0) (turned l k l[k] l[k + 1]) k q l[k] l[k + 1] (by simpa [turned] using hn) (fun x hx => by have := (g2 x (hmem x hx)).1; omega) (fun x hx => by have := (g2 x (hmem x hx)).2; omega) ht hq) fun a3 w3 g3 h3 => ?_
          exact end_ok res7 h3 hlb hu0 0 leave7
end Go.Mir.A
