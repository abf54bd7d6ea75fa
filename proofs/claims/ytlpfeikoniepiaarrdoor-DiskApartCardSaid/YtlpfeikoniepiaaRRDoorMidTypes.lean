/- From typed pure values to the disks' data. -/
import Derived.Test.YtlpfeikoniepiaaRRDoorD0
import Derived.Test.YtlpfeikoniepiaaRRDoorMidBridge
set_option linter.all false
namespace Go.Mir
theorem wf64 {n : Int} (h : (Lit.int .i64 n).wf = true) : -9223372036854775808 ≤ n ∧ n ≤ 9223372036854775807 := by
  simp only [Lit.wf, Bool.and_eq_true, decide_eq_true_eq] at h
  exact ⟨h.1, h.2⟩
theorem list_enc {α : Type} {enc : α → List Dat} {P : α → Prop} : ∀ {xs : List (List Dat)}, (∀ x ∈ xs, ∃ a, x = enc a ∧ P a) → ∃ l : List α, xs = l.map enc ∧ ∀ a ∈ l, P a
  | [], _ => ⟨[], rfl, fun _ h => by cases h⟩
  | x :: xs, h => by
    obtain ⟨a, rfl, ha⟩ := h x (List.mem_cons_self ..)
    obtain ⟨l, rfl, hl⟩ := list_enc (xs := xs) fun y hy => h y (List.mem_cons_of_mem _ hy)
    refine ⟨a :: l, rfl, fun b hb => ?_⟩
    rcases List.mem_cons.1 hb with rfl | hb
    · exact ha
    · exact hl b hb
abbrev i64T : CTy := .int .i64
abbrev fileT : List CTy := [.str, .str, i64T]
abbrev diskT : List CTy := [.sl fileT, i64T, i64T, .bool]
abbrev writeT : List CTy := [.int .i8, .str, .str, i64T]
def rng (n : Int) : Prop := -9223372036854775808 ≤ n ∧ n ≤ 9223372036854775807
theorem maxLen_eq : maxLen = 9223372036854775807 := by decide
structure okF0 (f : FileD) : Prop where
  name : f.name.length ≤ 9223372036854775807
  b : f.b.length ≤ 9223372036854775807
  sure : rng f.sure
structure okK0 (d : DiskD) : Prop where
  len : d.files.length ≤ 9223372036854775807
  files : ∀ f ∈ d.files, okF0 f
  cap : rng d.cap
  left : rng d.left
structure okW0 (w : WriteD) : Prop where
  file : w.file.length ≤ 9223372036854775807
  b : w.b.length ≤ 9223372036854775807
  n : rng w.n
theorem file_of {x : List Dat} (h : HasTys fileT x) : ∃ f : FileD, x = encF f ∧ okF0 f := by
  simp only [HasTys, HasTy] at h
  obtain ⟨_, _, rfl, ⟨a, rfl, ha⟩, _, _, rfl, ⟨b, rfl, hb⟩, _, _, rfl, ⟨c, rfl, hc⟩, rfl⟩ := h
  rw [maxLen_eq] at ha hb
  exact ⟨⟨a, b, c⟩, rfl, ha, hb, wf64 hc⟩
theorem disk_of {x : List Dat} (h : HasTys diskT x) : ∃ d : DiskD, x = encK d ∧ okK0 d := by
  simp only [HasTys, HasTy] at h
  obtain ⟨_, _, rfl, ⟨xs, rfl, hl, hx⟩, _, _, rfl, ⟨b, rfl, hb⟩, _, _, rfl, ⟨c, rfl, hc⟩, _, _, rfl, ⟨t, rfl⟩, rfl⟩ := h
  obtain ⟨l, rfl, hl2⟩ := list_enc (enc := encF) (P := okF0) fun x hx' => file_of (x := x) (by simp only [HasTys, HasTy]; exact hx x hx')
  rw [List.length_map, maxLen_eq] at hl
  exact ⟨⟨l, b, c, t⟩, rfl, hl, hl2, wf64 hb, wf64 hc⟩
theorem write_of {x : List Dat} (h : HasTys writeT x) : ∃ w : WriteD, x = encWr w ∧ okW0 w := by
  simp only [HasTys, HasTy] at h
  obtain ⟨_, _, rfl, ⟨o, rfl, _⟩, _, _, rfl, ⟨a, rfl, ha⟩, _, _, rfl, ⟨b, rfl, hb⟩, _, _, rfl, ⟨c, rfl, hc⟩, rfl⟩ := h
  rw [maxLen_eq] at ha hb
  exact ⟨⟨o, a, b, c⟩, rfl, ha, hb, wf64 hc⟩
theorem arg_disk {D : Dat} (h : ArgTy true diskT D) : ∃ d : DiskD, D = .agg (encK d) ∧ okK0 d := by
  simp only [ArgTy, if_true] at h
  obtain ⟨ds, rfl, h⟩ := h
  obtain ⟨d, rfl, hd⟩ := disk_of h
  exact ⟨d, rfl, hd⟩
theorem arg_write {D : Dat} (h : ArgTy true writeT D) : ∃ w : WriteD, D = .agg (encWr w) ∧ okW0 w := by
  simp only [ArgTy, if_true] at h
  obtain ⟨ds, rfl, h⟩ := h
  obtain ⟨d, rfl, hd⟩ := write_of h
  exact ⟨d, rfl, hd⟩
theorem arg_writes {D : Dat} (h : ArgTy false [.sl writeT] D) : ∃ l : List WriteD, D = .slice false (l.map encWr) ∧ l.length ≤ 9223372036854775807 ∧ ∀ w ∈ l, okW0 w := by
  simp only [ArgTy, Bool.false_eq_true, if_false] at h
  obtain ⟨ty, h1, h⟩ := h
  injection h1 with h1
  subst h1
  simp only [HasTy] at h
  obtain ⟨xs, rfl, hl, hx⟩ := h
  obtain ⟨l, rfl, hl2⟩ := list_enc (enc := encWr) (P := okW0) fun x hx' => write_of (hx x hx')
  rw [List.length_map, maxLen_eq] at hl
  exact ⟨l, rfl, hl, hl2⟩
theorem arg_text {D : Dat} (h : ArgTy false [.str] D) : ∃ s : Txt, D = .str s ∧ s.length ≤ 9223372036854775807 := by
  simp only [ArgTy, Bool.false_eq_true, if_false] at h
  obtain ⟨ty, h1, h⟩ := h
  injection h1 with h1
  subst h1
  simp only [HasTy] at h
  obtain ⟨s, rfl, hs⟩ := h
  rw [maxLen_eq] at hs
  exact ⟨s, rfl, hs⟩
theorem arg_int {D : Dat} (h : ArgTy false [i64T] D) : ∃ n : Int, D = .int .i64 n ∧ rng n := by
  simp only [ArgTy, Bool.false_eq_true, if_false] at h
  obtain ⟨ty, h1, h⟩ := h
  injection h1 with h1
  subst h1
  simp only [HasTy] at h
  obtain ⟨n, rfl, hn⟩ := h
  exact ⟨n, rfl, wf64 hn⟩
end Go.Mir
