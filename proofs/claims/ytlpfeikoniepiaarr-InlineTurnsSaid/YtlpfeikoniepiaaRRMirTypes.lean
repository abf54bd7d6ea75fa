/- From typed pure values to the program's data. -/
import Derived.Test.YtlpfeikoniepiaaRRMirSim
import Derived.Test.YtlpfeikoniepiaaRRMirBridge
import Derived.Test.YtlpfeikoniepiaaRRMirIn
set_option linter.all false
namespace Go.Mir
theorem wf64 {n : Int} (h : (Lit.int .i64 n).wf = true) : -9223372036854775808 ≤ n ∧ n ≤ 9223372036854775807 := by
  simp only [Lit.wf, Bool.and_eq_true, decide_eq_true_eq] at h
  exact ⟨h.1, h.2⟩
theorem list_enc {α : Type} {enc : α → List Dat} {P : α → Prop} : ∀ {xs : List (List Dat)}, (∀ x ∈ xs, ∃ a, x = enc a ∧ P a) → ∃ l : List α, xs = l.map enc ∧ ∀ a ∈ l, P a
  | [], _ => ⟨[], rfl, fun _ h => by cases h⟩
  | x :: xs, h => by
    obtain ⟨a, rfl, ha⟩ := h x (List.mem_cons_self ..)
    obtain ⟨l, rfl, hl⟩ := list_enc (xs := xs) fun y hy => h y (List.mem_cons_of_mem _ hy)
    refine ⟨a :: l, rfl, fun b hb => ?_⟩
    rcases List.mem_cons.1 hb with rfl | hb
    · exact ha
    · exact hl b hb
abbrev i64T : CTy := .int .i64
abbrev seenT : List CTy := [i64T, i64T, i64T]
abbrev prodT : List CTy := [i64T, i64T, i64T, .sl seenT]
abbrev recT : List CTy := [.str, .str]
abbrev batchT : List CTy := [i64T, i64T, i64T, .bool, .sl recT]
theorem seen_of {x : List Dat} (h : HasTys seenT x) : ∃ s : Seen, x = encS s ∧ (-9223372036854775808 ≤ s.seq ∧ s.seq ≤ 9223372036854775807) ∧ (-9223372036854775808 ≤ s.count ∧ s.count ≤ 9223372036854775807) ∧ (-9223372036854775808 ≤ s.base ∧ s.base ≤ 9223372036854775807) := by
  simp only [HasTys, HasTy] at h
  obtain ⟨_, _, rfl, ⟨a, rfl, ha⟩, _, _, rfl, ⟨b, rfl, hb⟩, _, _, rfl, ⟨c, rfl, hc⟩, rfl⟩ := h
  exact ⟨⟨a, b, c⟩, rfl, wf64 ha, wf64 hb, wf64 hc⟩
def rng (n : Int) : Prop := -9223372036854775808 ≤ n ∧ n ≤ 9223372036854775807
structure okS0 (s : Seen) : Prop where
  seq : rng s.seq
  count : rng s.count
  base : rng s.base
structure okP0 (p : Prod) : Prop where
  pid : rng p.pid
  epoch : rng p.epoch
  next : rng p.next
  len : p.seen.length ≤ 9223372036854775807
  seen : ∀ s ∈ p.seen, okS0 s
structure okB0 (b : Batch) : Prop where
  pid : rng b.pid
  epoch : rng b.epoch
  seq : rng b.seq
  len : b.recs.length ≤ 9223372036854775807
  recs : ∀ r ∈ b.recs, r.key.length ≤ 9223372036854775807 ∧ r.value.length ≤ 9223372036854775807
theorem maxLen_eq : maxLen = 9223372036854775807 := by decide
theorem prod_of {x : List Dat} (h : HasTys prodT x) : ∃ p : Prod, x = encP p ∧ okP0 p := by
  simp only [HasTys, HasTy] at h
  obtain ⟨_, _, rfl, ⟨a, rfl, ha⟩, _, _, rfl, ⟨b, rfl, hb⟩, _, _, rfl, ⟨c, rfl, hc⟩, _, _, rfl, ⟨xs, rfl, hl, hx⟩, rfl⟩ := h
  obtain ⟨l, rfl, hl2⟩ := list_enc (enc := encS) (P := okS0) fun x hx' => by
    obtain ⟨s, rfl, h1, h2, h3⟩ := seen_of (x := x) (by simp only [HasTys, HasTy]; exact hx x hx')
    exact ⟨s, rfl, h1, h2, h3⟩
  rw [List.length_map, maxLen_eq] at hl
  exact ⟨⟨a, b, c, l⟩, rfl, wf64 ha, wf64 hb, wf64 hc, hl, hl2⟩
theorem batch_of {x : List Dat} (h : HasTys batchT x) : ∃ b : Batch, x = encB b ∧ okB0 b := by
  simp only [HasTys, HasTy] at h
  obtain ⟨_, _, rfl, ⟨a, rfl, ha⟩, _, _, rfl, ⟨b, rfl, hb⟩, _, _, rfl, ⟨c, rfl, hc⟩, _, _, rfl, ⟨t, rfl⟩, _, _, rfl, ⟨xs, rfl, hl, hx⟩, rfl⟩ := h
  obtain ⟨l, rfl, hl2⟩ := list_enc (enc := encR) (P := fun r => r.key.length ≤ 9223372036854775807 ∧ r.value.length ≤ 9223372036854775807) fun x hx' => by
    have := hx x hx'
    obtain ⟨_, _, rfl, ⟨k, rfl, hk⟩, _, _, rfl, ⟨v, rfl, hv⟩, rfl⟩ := this
    rw [maxLen_eq] at hk hv
    exact ⟨⟨k, v⟩, rfl, hk, hv⟩
  rw [List.length_map, maxLen_eq] at hl
  exact ⟨⟨a, b, c, t, l⟩, rfl, wf64 ha, wf64 hb, wf64 hc, hl, hl2⟩
theorem arg_prods {D : Dat} (h : ArgTy false [.sl prodT] D) : ∃ l : List Prod, D = encPs l ∧ l.length ≤ 9223372036854775807 ∧ ∀ p ∈ l, okP0 p := by
  simp only [ArgTy, Bool.false_eq_true, if_false] at h
  obtain ⟨ty, h1, h⟩ := h
  injection h1 with h1
  subst h1
  simp only [HasTy] at h
  obtain ⟨xs, rfl, hl, hx⟩ := h
  obtain ⟨l, rfl, hl2⟩ := list_enc (enc := encP) (P := okP0) fun x hx' => prod_of (hx x hx')
  rw [List.length_map, maxLen_eq] at hl
  exact ⟨l, rfl, hl, hl2⟩
theorem arg_batch {D : Dat} (h : ArgTy true batchT D) : ∃ b : Batch, D = .agg (encB b) ∧ okB0 b := by
  simp only [ArgTy, if_true] at h
  obtain ⟨ds, rfl, h⟩ := h
  obtain ⟨b, rfl, hb⟩ := batch_of h
  exact ⟨b, rfl, hb⟩
theorem arg_batches {D : Dat} (h : ArgTy false [.sl batchT] D) : ∃ l : List Batch, D = .slice false (l.map encB) ∧ l.length ≤ 9223372036854775807 ∧ ∀ b ∈ l, okB0 b := by
  simp only [ArgTy, Bool.false_eq_true, if_false] at h
  obtain ⟨ty, h1, h⟩ := h
  injection h1 with h1
  subst h1
  simp only [HasTy] at h
  obtain ⟨xs, rfl, hl, hx⟩ := h
  obtain ⟨l, rfl, hl2⟩ := list_enc (enc := encB) (P := okB0) fun x hx' => batch_of (hx x hx')
  rw [List.length_map, maxLen_eq] at hl
  exact ⟨l, rfl, hl, hl2⟩
theorem arg_int {D : Dat} (h : ArgTy false [i64T] D) : ∃ n : Int, D = .int .i64 n ∧ rng n := by
  simp only [ArgTy, Bool.false_eq_true, if_false] at h
  obtain ⟨ty, h1, h⟩ := h
  injection h1 with h1
  subst h1
  simp only [HasTy] at h
  obtain ⟨n, rfl, hn⟩ := h
  exact ⟨n, rfl, wf64 hn⟩
end Go.Mir
/- From typed pure values to entries. -/
namespace Go.Mir
abbrev entryT : List CTy := [.int .i8, i64T, i64T, i64T, .bool, .sl recT, .bool, i64T, i64T, i64T, i64T, i64T, .str, .str, i64T, i64T, i64T, .sl seenT]
structure okE0 (x : Entry) : Prop where
  b : okB0 x.b
  prod : okP0 x.prod
  nxt : rng x.nxt
  off : rng x.off
  roff : rng x.row.off
  rpid : rng x.row.pid
  rseq : rng x.row.seq
theorem entry_of {x : List Dat} (h : HasTys entryT x) : ∃ e : Entry, x = encE e ∧ okE0 e := by
  simp only [entryT, HasTys] at h
  obtain ⟨_, _, rfl, h0, _, _, rfl, h1, _, _, rfl, h2, _, _, rfl, h3, _, _, rfl, h4, _, _, rfl, h5, _, _, rfl, h6, _, _, rfl, h7, _, _, rfl, h8, _, _, rfl, h9, _, _, rfl, h10, _, _, rfl, h11, _, _, rfl, h12, _, _, rfl, h13, _, _, rfl, h14, _, _, rfl, h15, _, _, rfl, h16, _, _, rfl, h17, rfl⟩ := h
  obtain ⟨b, hb, hb0⟩ := batch_of (x := [_, _, _, _, _]) (by simp only [HasTys]; exact ⟨_, _, rfl, h1, _, _, rfl, h2, _, _, rfl, h3, _, _, rfl, h4, _, _, rfl, h5, rfl⟩)
  obtain ⟨p, hp, hp0⟩ := prod_of (x := [_, _, _, _]) (by simp only [HasTys]; exact ⟨_, _, rfl, h14, _, _, rfl, h15, _, _, rfl, h16, _, _, rfl, h17, rfl⟩)
  simp only [encB, List.cons.injEq] at hb
  simp only [encP, List.cons.injEq] at hp
  obtain ⟨rfl, rfl, rfl, rfl, rfl, -⟩ := hb
  obtain ⟨rfl, rfl, rfl, rfl, -⟩ := hp
  simp only [HasTy] at h0 h6 h7 h8 h9 h10 h11 h12 h13
  obtain ⟨k, rfl, -⟩ := h0
  obtain ⟨y, rfl⟩ := h6
  obtain ⟨n, rfl, hn⟩ := h7
  obtain ⟨o, rfl, ho⟩ := h8
  obtain ⟨r1, rfl, hr1⟩ := h9
  obtain ⟨r2, rfl, hr2⟩ := h10
  obtain ⟨r3, rfl, hr3⟩ := h11
  obtain ⟨s1, rfl, -⟩ := h12
  obtain ⟨s2, rfl, -⟩ := h13
  exact ⟨⟨k, b, y, n, o, ⟨r1, r2, r3, s1, s2⟩, p⟩, rfl, hb0, hp0, wf64 hn, wf64 ho, wf64 hr1, wf64 hr2, wf64 hr3⟩
theorem arg_entries {D : Dat} (h : ArgTy false [.sl entryT] D) : ∃ l : List Entry, D = .slice false (l.map encE) ∧ l.length ≤ 9223372036854775807 ∧ ∀ x ∈ l, okE0 x := by
  simp only [ArgTy, Bool.false_eq_true, if_false] at h
  obtain ⟨ty, h1, h⟩ := h
  injection h1 with h1
  subst h1
  simp only [HasTy] at h
  obtain ⟨xs, rfl, hl, hx⟩ := h
  obtain ⟨l, rfl, hl2⟩ := list_enc (enc := encE) (P := okE0) fun x hx' => entry_of (hx x hx')
  rw [List.length_map, maxLen_eq] at hl
  exact ⟨l, rfl, hl, hl2⟩
end Go.Mir
