/- InlineTurns: two elements of a new log written, walked by hand. -/
import Derived.Test.YtlpfeikoniepiaaRRK8
set_option linter.all false
namespace Go.Mir
open Go.Proofs
set_option linter.unusedVariables false
set_option linter.unusedSectionVars false
set_option linter.unusedSimpArgs false
set_option maxRecDepth 100000

section
variable {P : Program} {N ntmps : Nat} {σ0 : St} {g0 : Gh} {w0 : World} {e : Env} {σ : St} {a : Act} {w w1 : World} {g g1 : Gh}
theorem run_index {t el : TypeId} {inf : TypeInfo} (ht : P.underlying t = some (.slice el)) (hi : P.info? el = some inf) (b off n c : Nat) (i : Int) (h0 : 0 ≤ i) (h1 : i < n) :
    (Instr.indexAt t (.slice (some ⟨b, off, none⟩) n c) (.int .i64 i)).run P w = .ok (.pointer (some ⟨b, off + i.toNat * inf.size, none⟩)) w := by
  have hin : 0 ≤ i ∧ i < (n : Int) := ⟨h0, h1⟩
  simp only [Instr.indexAt, asIntOf, Sem.run_bind, Sem.run_pure, Result.andThen_ok, run_underlying ht, hin, and_self, if_true, sizeOf, typeInfo, run_program, hi, Addr.add_lit]
theorem run_storeAt {t : TypeId} {inf : TypeInfo} (hi : P.info? t = some inf) {b off : Nat} {us : List Value} {T : TypeId} {cur : Array Value} (hl : us.length = inf.size) (hh : w.heap[b]? = some (.cells cur T (0, 0))) (hle : off + us.length ≤ cur.size) (hone : ∀ u ∈ us, u.oneCell' = true) :
    (Instr.storeAt t (.pointer (some ⟨b, off, none⟩)) (.agg us.toArray)).run P w = .ok () (w.setRow b (cur.toList.take off ++ us ++ cur.toList.drop (off + us.length)).toArray) := by
  have hrun := run_storeCells_at P b off T us 0 cur w hh (by omega) hone
  simp only [Nat.add_zero] at hrun
  have hc : (Value.agg us.toArray).cells = us.toArray := rfl
  simp only [Instr.storeAt, Instr.sureAddr, Sem.run_bind, Sem.run_pure, Result.andThen_ok, storeVar, sizeOf, typeInfo, run_program, hi, hc]
  simp [hl, hrun]
theorem put_same {s : Nat} {v : Value} (h : s < a.tmps.size) : (a.put (some s) v).tmps[s]? = some v := by simp [Act.put, h]
/-- a new block's ghost -/
def gB (g : Gh) (B k : Nat) : Gh := { g with prot := fun b => if b = B then k else g.prot b, lock := fun b => if b = B then none else g.lock b }
theorem gB_prot (g : Gh) (B k : Nat) : (gB g B k).prot B = k := if_pos rfl
structure Grown1 (w1 w' : World) (cells : Array Value) (T : TypeId) : Prop where
  os : w'.os = w1.os
  tape : w'.tape = w1.tape
  out : w'.output = w1.output
  size : w'.heap.size = w1.heap.size + 1
  old : ∀ k, k < w1.heap.size → w'.heap[k]? = w1.heap[k]?
  new : w'.heap[w1.heap.size]? = some (.cells cells T (0, 0))
theorem Grown1.alloc (w1 : World) (cells : Array Value) (T : TypeId) : Grown1 w1 (w1.alloc (.cells cells T)) cells T := ⟨rfl, rfl, rfl, by simp, fun k hk => heap_alloc_old w1 _ k hk, heap_alloc_new w1 _⟩
theorem Grown1.grow (w1 : World) (cells : Array Value) (T : TypeId) : Grown1 w1 (w1.drew.alloc (.cells cells T)) cells T := ⟨rfl, rfl, rfl, by simp, fun k hk => heap_alloc_old w1.drew _ k hk, heap_alloc_new w1.drew _⟩
theorem Grown1.set {w' : World} {cells c2 : Array Value} {T : TypeId} (h : Grown1 w1 w' cells T) : Grown1 w1 (w'.setRow w1.heap.size c2) c2 T :=
  ⟨h.os, h.tape, h.out, by simp [h.size], fun k hk => by rw [setRow_other w' _ k _ (by omega)]; exact h.old k hk, setRow_heap w' _ _ _ T _ h.new⟩
theorem Fr.grown (h : Fr N ntmps σ0 g0 w0 e σ a w1 g1) {w' : World} {cells : Array Value} {T : TypeId} (hg : Grown1 w1 w' cells T) (k : Nat) : Fr N ntmps σ0 g0 w0 e σ a w' (gB g1 w1.heap.size k) :=
  h.block hg.os hg.tape hg.out hg.size hg.old hg.new k none (by simp)
theorem Fr.grown_ext (h : Fr N ntmps σ0 g0 w0 e σ a w1 g1) {w' : World} {cells : Array Value} {T : TypeId} (hg : Grown1 w1 w' cells T) (k n : Nat) : Ext n g1 w1 (gB g1 w1.heap.size k) w' := by
  refine ⟨fun b o u ho hcu => ?_, fun b => ?_, fun id hid => rfl⟩
  · have hb : b < w1.heap.size := by
      rcases Nat.lt_or_ge b w1.heap.size with h' | h'
      · exact h'
      · have := (h.st.fresh b h').1; omega
    simp only [World.cell?, hg.old b hb] at hcu ⊢
    exact hcu
  · by_cases hb : b = w1.heap.size
    · rw [hb, (h.st.fresh _ (Nat.le_refl _)).1]; omega
    · simp [gB, hb]
theorem Fr.grown_ext2 (h : Fr N ntmps σ0 g0 w0 e σ a w1 g1) {w' w'' : World} {c1 c2 : Array Value} {T : TypeId} (hg : Grown1 w1 w' c1 T) (hg2 : Grown1 w1 w'' c2 T) (k n : Nat) : Ext n (gB g1 w1.heap.size 0) w' (gB g1 w1.heap.size k) w'' := by
  refine ⟨fun b o u ho hcu => ?_, fun b => ?_, fun id hid => rfl⟩
  · have hb : b < w1.heap.size := by
      rcases Nat.lt_or_ge b w1.heap.size with h' | h'
      · exact h'
      · by_cases hbe : b = w1.heap.size
        · simp [gB, hbe] at ho
        · have := (h.st.fresh b h').1; simp [gB, hbe] at ho; omega
    simp only [World.cell?, hg.old b hb] at hcu
    simp only [World.cell?, hg2.old b hb]
    exact hcu
  · by_cases hb : b = w1.heap.size
    · simp [gB, hb]
    · simp [gB, hb]
theorem flat_set {m : Nat} : ∀ (vss : List (List Value)) (k : Nat) (us : List Value) (z : List Value), (∀ vs ∈ vss, vs.length = m) → us.length = m → k < vss.length →
    (vss.flatten ++ z).take (k * m) ++ us ++ (vss.flatten ++ z).drop (k * m + m) = (vss.set k us).flatten ++ z
  | [], k, us, z, _, _, hk => by simp at hk
  | v :: vss, 0, us, z, h, hu, hk => by
    have hv := h v (by simp)
    simp only [Nat.zero_mul, List.take_zero, List.nil_append, Nat.zero_add, List.set_cons_zero, List.flatten_cons, List.append_assoc]
    rw [← hv, List.drop_left]
  | v :: vss, k + 1, us, z, h, hu, hk => by
    have hv := h v (by simp)
    have ih := flat_set vss k us z (fun x hx => h x (List.mem_cons_of_mem _ hx)) hu (by simpa using hk)
    simp only [List.set_cons_succ, List.flatten_cons, List.append_assoc] at ih ⊢
    rw [show (k + 1) * m = v.length + k * m by rw [Nat.add_mul]; omega, List.take_length_add_append, show v.length + k * m + m = v.length + (k * m + m) by omega, List.drop_length_add_append, List.append_assoc, ih]
end
end Go.Mir
