/- A disk behind an operation: what it may be. Plain law, no program. -/
import Derived.Test.YtlpfeikoniepiaaRRDoorQ1
set_option linter.all false
namespace Go.Mir.D

structure Chk (d : DiskD) : Prop where
  files : checkL d.files [] = true
  len : d.files.length ≤ 64
  cap : 0 ≤ d.cap ∧ d.cap ≤ 65536
  used : (usedP d.files : Int) ≤ d.cap
theorem checkP_iff {d : DiskD} : checkP d = true ↔ Chk d := by
  unfold checkP
  simp only [Bool.and_eq_true, decide_eq_true_eq]
  exact ⟨fun h => ⟨h.1, h.2.1, ⟨h.2.2.1, h.2.2.2.1⟩, h.2.2.2.2⟩, fun h => ⟨h.files, h.len, h.cap.1, h.cap.2, h.used⟩⟩
theorem goodF_get {f : FileD} (h : goodF f = true) : f.b ≠ [] ∧ 0 ≤ f.sure ∧ f.sure ≤ f.b.length := by
  unfold goodF at h
  simpa using h
theorem nameP_get {s : Txt} (h : nameP s = true) : s ≠ [] ∧ s.length ≤ 8 ∧ s.all isL = true := by
  unfold nameP at h
  simpa using h
theorem less_nil {s : Txt} (h : s ≠ []) : less [] s = true := by
  cases s with
  | nil => exact absurd rfl h
  | cons c r => rfl
theorem b_le_used : ∀ {l : List FileD} {f : FileD}, f ∈ l → f.b.length ≤ usedP l
  | [], f, h => by cases h
  | x :: r, f, h => by
    rcases List.mem_cons.1 h with rfl | h
    · simp [usedP]
    · have := b_le_used h
      unfold usedP at this ⊢
      simp only [List.map_cons, List.sum_cons]
      omega
theorem Chk.ok {d : DiskD} (h : Chk d) : okD d := by
  refine ⟨by have := h.len; omega, fun f hf => ?_, fun f hf => ?_⟩
  · have := (nameP_get (checkL_mem h.files f hf).2.1).2.1; omega
  · have := b_le_used hf; have := h.used; have := h.cap; omega
def oldF (l : List FileD) (nm : Txt) : FileD := (getS l nm).getD ⟨nm, [], 0⟩
def actP (d : DiskD) (w : WriteD) : FileD × Int := doesP (oldF d.files w.file) (getS d.files w.file).isSome w
theorem doP_chk {d : DiskD} (w : WriteD) (h : Chk d) : doP d w = if mayW w = false then (zeroK, 2) else if d.down = true then (zeroK, 30) else if d.left = 0 then ({ d with down := true }, 30) else
    if (actP d w).2 ≠ 0 then (zeroK, (actP d w).2) else endP d (insF d.files w.file (actP d w).1) := by
  rw [doP_eq, isF_get h.files, fileAt_get h.files, putF_eq, checkP_iff.2 h]
  simp only [Bool.true_eq_false, false_or]
  rfl
theorem oldF_name (l : List FileD) (nm : Txt) : (oldF l nm).name = nm := by
  unfold oldF
  cases hg : getS l nm with
  | none => rfl
  | some f => exact (getS_mem hg).2
theorem actP_name (d : DiskD) (w : WriteD) : (actP d w).1.name = w.file := by unfold actP; rw [does_name, oldF_name]
theorem does_good {f : FileD} {is : Bool} {w : WriteD} (hm : mayW w = true) (h0 : 0 ≤ f.sure ∧ f.sure ≤ f.b.length) (he : (doesP f is w).2 = 0) (hb : (doesP f is w).1.b ≠ []) : goodF (doesP f is w).1 = true := by
  obtain ⟨-, hc⟩ := mayW_get hm
  unfold doesP at he hb ⊢
  split at he
  · simp at he
  · rename_i c1
    rw [if_neg c1] at hb ⊢
    split at he
    · simp at he
    · rename_i c2
      rw [if_neg c2] at hb ⊢
      unfold goodF
      rcases hc with ⟨o, -, -⟩ | ⟨o, -, -⟩ | ⟨o, -, hn⟩ | ⟨o, -, -⟩ | ⟨o, -, -⟩
      · simp only [o, if_true] at hb ⊢
        simp only [Bool.and_eq_true, Bool.not_eq_true', decide_eq_false_iff_not, decide_eq_true_eq, List.length_append]
        exact ⟨hb, h0.1, by omega⟩
      · simp only [o, show ¬ (2 : Int) = 0 by omega, show ¬ (2 : Int) = 4 by omega, show ¬ (2 : Int) = 3 by omega, show ¬ (2 : Int) = 1 by omega, if_false] at hb ⊢
        simp only [Bool.and_eq_true, Bool.not_eq_true', decide_eq_false_iff_not, decide_eq_true_eq]
        exact ⟨hb, by omega, by omega⟩
      · simp only [o, show ¬ (3 : Int) = 0 by omega, show ¬ (3 : Int) = 4 by omega, if_false, if_true] at hb ⊢
        have hcut : cuts w := .inl o
        have hle : ¬ (f.b.length : Int) < w.n := fun hh => c2 ⟨hcut, hh⟩
        simp only [Bool.and_eq_true, Bool.not_eq_true', decide_eq_false_iff_not, decide_eq_true_eq, List.length_take]
        exact ⟨hb, hn, by omega⟩
      · simp only [o, show ¬ (1 : Int) = 0 by omega, show ¬ (1 : Int) = 4 by omega, show ¬ (1 : Int) = 3 by omega, if_false, if_true] at hb ⊢
        simp only [Bool.and_eq_true, Bool.not_eq_true', decide_eq_false_iff_not, decide_eq_true_eq]
        exact ⟨hb, by omega, by omega⟩
      · simp [o] at hb
theorem oldF_sure {d : DiskD} (h : Chk d) (nm : Txt) : 0 ≤ (oldF d.files nm).sure ∧ (oldF d.files nm).sure ≤ (oldF d.files nm).b.length := by
  unfold oldF
  cases hg : getS d.files nm with
  | none => exact ⟨Int.le_refl _, Int.le_refl _⟩
  | some f => exact (goodF_get (checkL_mem h.files f (getS_mem hg).1).2.2).2
/-- What an operation that is done has done. -/
structure Done (d : DiskD) (w : WriteD) (x : DiskD) : Prop where
  may : mayW w = true
  down : d.down = false ∧ x.down = false
  left : d.left ≠ 0 ∧ x.left = if 0 < d.left then d.left - 1 else d.left
  cap : x.cap = d.cap
  act : (actP d w).2 = 0
  files : x.files = insF d.files w.file (actP d w).1
  get : ∀ q, getS x.files q = if q = w.file then (if (actP d w).1.b = [] then none else some (actP d w).1) else getS d.files q
  used : usedP x.files + (oldF d.files w.file).b.length = usedP d.files + (actP d w).1.b.length
  len : x.files.length + (if (getS d.files w.file).isSome = true then 1 else 0) = d.files.length + (if (actP d w).1.b = [] then 0 else 1)
  chk : Chk x
theorem ins_len {l : List FileD} {nm : Txt} {f : FileD} (h : checkL l [] = true) : (insF l nm f).length + (if (getS l nm).isSome = true then 1 else 0) = l.length + (if f.b = [] then 0 else 1) := by
  have := putF_len l nm f
  rw [putF_eq, isF_get h] at this
  exact this
theorem ins_chk {d : DiskD} {w : WriteD} (h : Chk d) (hm : mayW w = true) (ha : (actP d w).2 = 0) : checkL (insF d.files w.file (actP d w).1) [] = true := by
  obtain ⟨hn, -⟩ := mayW_get hm
  exact checkL_ins h.files (less_nil (nameP_get hn).1) hn (actP_name d w) fun hb => does_good hm (oldF_sure h _) ha hb
theorem do_done {d x : DiskD} {w : WriteD} (h : Chk d) (hd : doP d w = (x, 0)) : Done d w x := by
  rw [doP_chk w h] at hd
  split at hd
  · simp at hd
  rename_i c1
  split at hd
  · simp at hd
  rename_i c2
  split at hd
  · simp at hd
  rename_i c3
  split at hd
  · rename_i c4
    simp only [_root_.Prod.mk.injEq] at hd
    exact absurd hd.2 c4
  rename_i c4
  have hm : mayW w = true := by simpa using c1
  have ha : (actP d w).2 = 0 := by
    by_cases h : (actP d w).2 = 0
    · exact h
    · exact absurd h c4
  have hc := ins_chk h hm ha
  unfold endP at hd
  split at hd
  · simp at hd
  rename_i c5
  split at hd
  · simp at hd
  rename_i c6
  simp only [_root_.Prod.mk.injEq, and_true] at hd
  subst hd
  exact ⟨hm, ⟨by simpa using c2, by simpa using c2⟩, ⟨c3, rfl⟩, rfl, ha, rfl, fun q => getS_ins h.files (actP_name d w) q, used_ins h.files, ins_len h.files, ⟨hc, by simp only; omega, h.cap, by simp only; omega⟩⟩
/-- and when it is done -/
theorem do_goes {d : DiskD} {w : WriteD} (h : Chk d) (hm : mayW w = true) (h1 : d.down = false) (h2 : d.left ≠ 0) (ha : (actP d w).2 = 0) (h3 : (insF d.files w.file (actP d w).1).length ≤ 64) (h4 : (usedP (insF d.files w.file (actP d w).1) : Int) ≤ d.cap) :
    doP d w = ({ d with files := insF d.files w.file (actP d w).1, left := if 0 < d.left then d.left - 1 else d.left }, 0) := by
  rw [doP_chk w h, if_neg (by rw [hm]; simp), if_neg (by rw [h1]; simp), if_neg h2, if_neg (by rw [ha]; simp)]
  unfold endP
  rw [if_neg (by omega), if_neg (by omega)]
end Go.Mir.D
