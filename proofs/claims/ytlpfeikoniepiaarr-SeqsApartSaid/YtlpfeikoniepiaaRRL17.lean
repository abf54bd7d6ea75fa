import Derived.Test.YtlpfeikoniepiaaRRL16
set_option linter.all false
namespace Go.Mir.A

def headAt (l : List Seen) (next : Int) : Int := match l with
  | [] => next
  | s :: _ => s.seq
def okR : List Seen → Int → Bool
  | [], _ => true
  | s :: r, next => !(decide (s.seq < 0) || (!(decide (1 ≤ s.count) && decide (s.count ≤ 4)) || (!(decide (-1 ≤ s.base) && decide (s.base ≤ 1048576)) || decide (IntKind.wrap .i64 (headAt r next - s.count) < s.seq)))) && okR r next
theorem okFrom_okR (p : Prod) : ∀ k i, p.seen.length - i = k → i ≤ p.seen.length → okFrom p i = okR (p.seen.drop i) p.next := by
  intro k
  induction k with
  | zero => intro i h1 h2; rw [show i = p.seen.length by omega]; simp [okFrom_end, okR]
  | succ k ih =>
    intro i h1 h2
    have hi : i < p.seen.length := by omega
    rw [okFrom_step p i hi, List.drop_eq_getElem_cons hi, okR, ih (i + 1) (by omega) (by omega)]
    have : nextAt p i = headAt (p.seen.drop (i + 1)) p.next := by
      unfold nextAt
      by_cases h : i + 1 < p.seen.length
      · rw [dif_pos h, List.drop_eq_getElem_cons h]; rfl
      · rw [dif_neg h, List.drop_of_length_le (by omega)]; rfl
    rw [← this]; rfl
def rngS (l : List Seen) : Prop := ∀ s ∈ l, s.seq ≤ 9223372036854775807
theorem okR_le {next : Int} (hn : 0 ≤ next) (hn2 : next ≤ 1048576) : ∀ l : List Seen, rngS l → okR l next = true → 0 ≤ headAt l next ∧ headAt l next ≤ next := by
  intro l
  induction l with
  | nil => intro _ _; exact ⟨hn, Int.le_refl _⟩
  | cons s r ih =>
    intro hr h
    have := ih (fun x hx => hr x (List.mem_cons_of_mem _ hx))
    simp only [okR, Bool.and_eq_true, Bool.not_eq_true', Bool.or_eq_false_iff, decide_eq_false_iff_not, Bool.not_eq_false'] at h
    obtain ⟨h1, h2⟩ := this h.2
    obtain ⟨⟨h3, h4, h5, h6⟩, -⟩ := h
    simp only [Bool.and_eq_true, decide_eq_true_eq] at h4
    rw [wrap64 (by omega) (by omega)] at h6
    show 0 ≤ s.seq ∧ s.seq ≤ next
    omega
theorem okAll_okR {next : Int} (hn : 0 ≤ next) (hn2 : next ≤ 1048576) : ∀ (l : List Seen), rngS l → ∀ least : Int, 0 ≤ least → okAll l least next = (decide (least ≤ headAt l next) && okR l next) := by
  intro l
  induction l with
  | nil => intro _ least _; simp only [okAll, headAt, okR, Bool.and_true]; exact decide_eq_decide.2 Iff.rfl
  | cons s r ih =>
    intro hr least hl
    have hr' : rngS r := fun x hx => hr x (List.mem_cons_of_mem _ hx)
    show (okS least next s && okAll r (s.seq + s.count) next) = (decide (least ≤ s.seq) && okR (s :: r) next)
    rw [Bool.eq_iff_iff]
    simp only [okS, okR, Bool.and_eq_true, decide_eq_true_eq, Bool.not_eq_true', Bool.or_eq_false_iff, decide_eq_false_iff_not, Bool.not_eq_false']
    constructor
    · rintro ⟨⟨⟨⟨h1, h2⟩, h3, h4⟩, h5, h6⟩, h7⟩
      rw [ih hr' _ (by omega)] at h7
      simp only [Bool.and_eq_true, decide_eq_true_eq] at h7
      have := okR_le hn hn2 r hr' h7.2
      rw [wrap64 (by omega) (by omega)]
      refine ⟨h1, ⟨by omega, ⟨h3, h4⟩, ⟨h5, h6⟩, by omega⟩, h7.2⟩
    · rintro ⟨h1, ⟨h2, ⟨h3, h4⟩, ⟨h5, h6⟩, h7⟩, h8⟩
      have := okR_le hn hn2 r hr' h8
      rw [wrap64 (by omega) (by omega)] at h7
      refine ⟨⟨⟨⟨h1, by omega⟩, h3, h4⟩, h5, h6⟩, ?_⟩
      rw [ih hr' _ (by omega)]
      simp only [Bool.and_eq_true, decide_eq_true_eq]
      exact ⟨by omega, h8⟩
theorem knownR_eq (p : Prod) (hr : rngS p.seen) : knownR p = knownP p := by
  unfold knownR knownP
  by_cases h : 0 ≤ p.next ∧ p.next ≤ 1048576
  · rw [okFrom_okR p _ 0 rfl (Nat.zero_le _), okAll_okR h.1 h.2 _ hr 0 (Int.le_refl _), List.drop_zero]
    cases h2 : okR p.seen p.next with
    | true =>
      have := (okR_le h.1 h.2 _ hr h2).1
      simp [this]
    | false => simp
  · have : (decide (0 ≤ p.next) && decide (p.next ≤ 1048576)) = false := by simp; omega
    simp [this]
end Go.Mir.A
