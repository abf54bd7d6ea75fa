/- The mirror without a bound on rounds: the limit, and its equations. -/
import Derived.Test.YtlpfeikoniepiaaRRDoorMidDef
set_option linter.all false
namespace Go.Mir

/-- x is what F comes to. -/
structure IsLim {α : Type} (F : Nat → Option α) (x : Option α) : Prop where
  up : ∀ k r, F k = some r → x = some r
  get : ∀ r, x = some r → ∃ K, ∀ k, K ≤ k → F k = some r

theorem IsLim.const {α : Type} (x : Option α) : IsLim (fun _ => x) x := ⟨fun _ _ h => h, fun _ h => ⟨0, fun _ _ => h⟩⟩
theorem IsLim.bind {α β : Type} {F : Nat → Option α} {x : Option α} {G : Nat → α → Option β} {y : α → Option β} (h : IsLim F x) (hg : ∀ a, IsLim (fun k => G k a) (y a)) :
    IsLim (fun k => (F k).bind (G k)) (x.bind y) := by
  constructor
  · intro k r hr
    obtain ⟨a, ha, hb⟩ := Option.bind_eq_some_iff.1 hr
    rw [h.up k a ha]
    exact (hg a).up k r hb
  · intro r hr
    obtain ⟨a, ha, hb⟩ := Option.bind_eq_some_iff.1 hr
    obtain ⟨K1, h1⟩ := h.get a ha
    obtain ⟨K2, h2⟩ := (hg a).get r hb
    exact ⟨max K1 K2, fun k hk => by
      have e1 := h1 k (by omega)
      have e2 := h2 k (by omega)
      simp only [e1, Option.bind_some]
      exact e2⟩
theorem IsLim.unique {α : Type} {F : Nat → Option α} {x y : Option α} (h : IsLim F x) (h' : IsLim F y) : x = y := by
  cases x with
  | none =>
    cases y with
    | none => rfl
    | some b =>
      obtain ⟨K, hK⟩ := h'.get b rfl
      exact h.up K b (hK K (Nat.le_refl _))
  | some a =>
    obtain ⟨K, hK⟩ := h.get a rfl
    exact (h'.up K a (hK K (Nat.le_refl _))).symm
theorem IsLim.congr {α : Type} {F G : Nat → Option α} {x : Option α} (h : IsLim F x) (e : ∀ k, F k = G k) : IsLim G x := by
  have : F = G := funext e
  exact this ▸ h

open Classical in
noncomputable def lim {α : Type} (F : Nat → Option α) : Option α := if h : ∃ r k, F k = some r then some (Classical.choose h) else none
theorem lim_is {α : Type} {F : Nat → Option α} (mono : ∀ k r, F k = some r → F (k + 1) = some r) : IsLim F (lim F) := by
  have up : ∀ k r, F k = some r → ∀ n, F (k + n) = some r := by
    intro k r h n
    induction n with
    | zero => exact h
    | succ n ih => exact mono _ _ ih
  constructor
  · intro k r h
    have hex : ∃ r k, F k = some r := ⟨r, k, h⟩
    unfold lim
    rw [dif_pos hex]
    obtain ⟨k', hk'⟩ := Classical.choose_spec hex
    have h1 := up k r h k'
    have h2 := up k' _ hk' k
    rw [Nat.add_comm k' k, h1] at h2
    exact h2.symm
  · intro r h
    unfold lim at h
    split at h
    · rename_i hex
      obtain ⟨k', hk'⟩ := Classical.choose_spec hex
      injection h with h
      rw [h] at hk'
      refine ⟨k', fun k hk => ?_⟩
      have := up k' r hk' (k - k')
      rwa [Nat.add_sub_cancel' hk] at this
    · exact absurd h (by simp)

/-! ### more in, more out -/
def LeO {α : Type} (x y : Option α) : Prop := ∀ r, x = some r → y = some r
theorem LeO.refl {α : Type} (x : Option α) : LeO x x := fun _ h => h
theorem LeO.bind {α β : Type} {x y : Option α} {f g : α → Option β} (h : LeO x y) (hg : ∀ a, LeO (f a) (g a)) : LeO (x.bind f) (y.bind g) := by
  intro r hr
  obtain ⟨a, ha, hb⟩ := Option.bind_eq_some_iff.1 hr
  rw [h a ha]
  exact hg a r hb
def LeR (run run' : Run) : Prop := ∀ f a σ, LeO (run f a σ) (run' f a σ)
def LeL (l l' : (Env → St → Out) → Env → St → Out) : Prop := ∀ b b', (∀ e σ, LeO (b e σ) (b' e σ)) → ∀ e σ, LeO (l b e σ) (l' b' e σ)

theorem callD_mono {run run' : Run} (h : LeR run run') (esc : Nat → Bool) (f : Nat) (args : List Dat) (σ : St) : LeO (callD run esc f args σ) (callD run' esc f args σ) := by
  unfold callD
  split
  · exact (h f args []).bind fun _ => LeO.refl _
  · exact h f args σ
theorem callC_mono {run run' : Run} (h : LeR run run') (esc : Nat → Bool) (f : Nat) (args : List Dat) : LeO (callC run esc f args) (callC run' esc f args) := by
  unfold callC
  split
  · exact (h f args []).bind fun _ => LeO.refl _
  · exact LeO.refl _
theorem callR_mono {run run' : Run} (h : LeR run run') (esc : Nat → Bool) (f : Nat) (args : List Dat) (σ : St) : LeO (callR run esc f args σ) (callR run' esc f args σ) := by
  unfold callR
  split
  · exact callC_mono h esc f args
  · exact (h f args σ).bind fun _ => LeO.refl _
theorem evalOp_mono {run run' : Run} (h : LeR run run') (esc : Nat → Bool) (base : Nat) (e : Env) (σ : St) (o : MOp) : LeO (evalOp run esc base e σ o) (evalOp run' esc base e σ o) := by
  cases o
  case call f args =>
    simp only [evalOp]
    refine (LeO.refl _).bind fun d => ?_
    cases d <;> first | exact LeO.refl _ | exact (LeO.refl _).bind fun l => (callD_mono h esc _ _ σ).bind fun _ => LeO.refl _
  case callc f args =>
    simp only [evalOp]
    refine (LeO.refl _).bind fun d => ?_
    cases d <;> first | exact LeO.refl _ | exact (LeO.refl _).bind fun l => (callC_mono h esc _ _).bind fun _ => LeO.refl _
  case callr f args =>
    simp only [evalOp]
    refine (LeO.refl _).bind fun d => ?_
    cases d <;> first | exact LeO.refl _ | exact (LeO.refl _).bind fun l => (callR_mono h esc _ _ σ).bind fun _ => LeO.refl _
  case mov mv x => cases mv <;> exact LeO.refl _
  all_goals exact LeO.refl _
theorem stepOp_mono {run run' : Run} (h : LeR run run') (esc : Nat → Bool) (base : Nat) (o : MOper) (e : Env) (σ : St) : LeO (stepOp run esc base o e σ) (stepOp run' esc base o e σ) := by
  unfold stepOp
  refine (LeO.refl _).bind fun w => ?_
  cases w
  · exact LeO.refl _
  · exact (evalOp_mono h esc base e σ o.op).bind fun _ => LeO.refl _
theorem stepOps_mono {run run' : Run} (h : LeR run run') (esc : Nat → Bool) (base : Nat) (l : List MOper) : ∀ (e : Env) (σ : St), LeO (stepOps run esc base l e σ) (stepOps run' esc base l e σ) := by
  induction l with
  | nil => exact fun _ _ => LeO.refl _
  | cons o r ih => exact fun e σ => (stepOp_mono h esc base o e σ).bind fun x => ih x.1 x.2
theorem exec_mono {run run' : Run} (h : LeR run run') (esc : Nat → Bool) {l l' : (Env → St → Out) → Env → St → Out} (hl : LeL l l') (base : Nat) (c : MCode) :
    ∀ e σ, LeO (exec run esc l base c e σ) (exec run' esc l' base c e σ) := by
  induction c with
  | skip => exact fun _ _ => LeO.refl _
  | region id ops draw keep =>
    intro e σ
    simp only [exec]
    exact (stepOps_mono h esc base ops e σ).bind fun _ => LeO.refl _
  | seq a b iha ihb =>
    intro e σ
    simp only [exec]
    refine (iha e σ).bind fun x => ?_
    obtain ⟨x, e1, σ1⟩ := x
    cases x with
    | normal => exact ihb e1 σ1
    | exit i => exact LeO.refl _
    | ret => exact LeO.refl _
  | cond c a b iha ihb =>
    intro e σ
    simp only [exec]
    refine (LeO.refl _).bind fun d => ?_
    cases d <;> try exact LeO.refl _
    rename_i t
    cases t
    · exact ihb e σ
    · exact iha e σ
  | block id b ih =>
    intro e σ
    simp only [exec]
    exact (ih e σ).bind fun _ => LeO.refl _
  | loop b ih =>
    intro e σ
    simp only [exec]
    exact hl _ _ ih e σ
  | exit i => exact fun _ _ => LeO.refl _
  | ret => exact fun _ _ => LeO.refl _
theorem loopN_mono (k : Nat) : LeL (fun b => loopN b k) (fun b => loopN b (k + 1)) := by
  intro b b' h
  induction k with
  | zero => exact fun e σ r hr => by simp [loopN] at hr
  | succ k ih =>
    intro e σ
    simp only [loopN]
    refine (h e σ).bind fun x => ?_
    obtain ⟨x, e1, σ1⟩ := x
    cases x with
    | normal => exact ih e1 σ1
    | exit i => exact LeO.refl _
    | ret => exact LeO.refl _
theorem runF_mono (tab : Tab) : ∀ k, LeR (runF tab k) (runF tab (k + 1)) := by
  intro k
  induction k with
  | zero => exact fun f a σ r hr => by simp [runF] at hr
  | succ k ih =>
    intro f a σ
    simp only [runF]
    refine (LeO.refl _).bind fun fd => ?_
    exact (exec_mono ih tab.esc (loopN_mono k) σ.length fd.body _ _).bind fun _ => LeO.refl _

/-! ### the limits -/
noncomputable def run (tab : Tab) : Run := fun f a σ => lim fun k => runF tab k f a σ
noncomputable def loopW (b : Env → St → Out) (e : Env) (σ : St) : Out := lim fun k => loopN b k e σ
theorem run_is (tab : Tab) (f : Nat) (a : List Dat) (σ : St) : IsLim (fun k => runF tab k f a σ) (run tab f a σ) := lim_is fun k r h => runF_mono tab k f a σ r h
theorem loopW_is (b : Env → St → Out) (e : Env) (σ : St) : IsLim (fun k => loopN b k e σ) (loopW b e σ) := lim_is fun k r h => loopN_mono k b b (fun _ _ => LeO.refl _) e σ r h

theorem IsLim.shift {α : Type} {F : Nat → Option α} {x : Option α} (h : IsLim F x) : IsLim (fun k => F (k + 1)) x :=
  ⟨fun k r hr => h.up _ r hr, fun r hr => let ⟨K, hK⟩ := h.get r hr; ⟨K, fun k hk => hK _ (by omega)⟩⟩

/-- One round of a loop. -/
theorem loopW_eq (b : Env → St → Out) (e : Env) (σ : St) : loopW b e σ = (b e σ).bind fun o => match o with
    | (.normal, e1, σ1) => loopW b e1 σ1
    | o => some o := by
  refine IsLim.unique (loopW_is b e σ).shift ?_
  refine IsLim.congr (IsLim.bind (IsLim.const (b e σ)) (G := fun k o => match o with
    | (.normal, e1, σ1) => loopN b k e1 σ1
    | o => some o) fun o => ?_) fun k => ?_
  · obtain ⟨x, e1, σ1⟩ := o
    cases x with
    | normal => exact loopW_is b e1 σ1
    | exit i => exact IsLim.const _
    | ret => exact IsLim.const _
  · simp only [loopN]
    congr 1
    funext o
    obtain ⟨x, e1, σ1⟩ := o
    cases x <;> rfl

section
variable {R : Nat → Run} {ρ : Run} (h : ∀ f a σ, IsLim (fun k => R k f a σ) (ρ f a σ))
include h
theorem callD_is (esc : Nat → Bool) (f : Nat) (args : List Dat) (σ : St) : IsLim (fun k => callD (R k) esc f args σ) (callD ρ esc f args σ) := by
  unfold callD
  split
  · exact (h f args []).bind fun _ => IsLim.const _
  · exact h f args σ
theorem callC_is (esc : Nat → Bool) (f : Nat) (args : List Dat) : IsLim (fun k => callC (R k) esc f args) (callC ρ esc f args) := by
  unfold callC
  split
  · exact (h f args []).bind fun _ => IsLim.const _
  · exact IsLim.const _
theorem callR_is (esc : Nat → Bool) (f : Nat) (args : List Dat) (σ : St) : IsLim (fun k => callR (R k) esc f args σ) (callR ρ esc f args σ) := by
  unfold callR
  split
  · exact callC_is h esc f args
  · exact (h f args σ).bind fun _ => IsLim.const _
theorem evalOp_is (esc : Nat → Bool) (base : Nat) (e : Env) (σ : St) (o : MOp) : IsLim (fun k => evalOp (R k) esc base e σ o) (evalOp ρ esc base e σ o) := by
  cases o
  case call f args =>
    simp only [evalOp]
    refine (IsLim.const _).bind fun d => ?_
    cases d <;> first | exact IsLim.const _ | exact (IsLim.const _).bind fun l => (callD_is h esc _ _ σ).bind fun _ => IsLim.const _
  case callc f args =>
    simp only [evalOp]
    refine (IsLim.const _).bind fun d => ?_
    cases d <;> first | exact IsLim.const _ | exact (IsLim.const _).bind fun l => (callC_is h esc _ _).bind fun _ => IsLim.const _
  case callr f args =>
    simp only [evalOp]
    refine (IsLim.const _).bind fun d => ?_
    cases d <;> first | exact IsLim.const _ | exact (IsLim.const _).bind fun l => (callR_is h esc _ _ σ).bind fun _ => IsLim.const _
  case mov mv x => cases mv <;> exact IsLim.const _
  all_goals exact IsLim.const _
theorem stepOp_is (esc : Nat → Bool) (base : Nat) (o : MOper) (e : Env) (σ : St) : IsLim (fun k => stepOp (R k) esc base o e σ) (stepOp ρ esc base o e σ) := by
  unfold stepOp
  refine (IsLim.const _).bind fun w => ?_
  cases w
  · exact IsLim.const _
  · exact (evalOp_is h esc base e σ o.op).bind fun _ => IsLim.const _
theorem stepOps_is (esc : Nat → Bool) (base : Nat) (l : List MOper) : ∀ (e : Env) (σ : St), IsLim (fun k => stepOps (R k) esc base l e σ) (stepOps ρ esc base l e σ) := by
  induction l with
  | nil => exact fun _ _ => IsLim.const _
  | cons o r ih => exact fun e σ => (stepOp_is h esc base o e σ).bind fun x => ih x.1 x.2
theorem exec_is (esc : Nat → Bool) (base : Nat) (c : MCode) : ∀ e σ, IsLim (fun k => exec (R k) esc (fun b => loopN b k) base c e σ) (exec ρ esc loopW base c e σ) := by
  induction c with
  | skip => exact fun _ _ => IsLim.const _
  | region id ops draw keep =>
    intro e σ
    simp only [exec]
    exact (stepOps_is h esc base ops e σ).bind fun _ => IsLim.const _
  | seq a b iha ihb =>
    intro e σ
    simp only [exec]
    refine (iha e σ).bind fun x => ?_
    obtain ⟨x, e1, σ1⟩ := x
    cases x with
    | normal => exact ihb e1 σ1
    | exit i => exact IsLim.const _
    | ret => exact IsLim.const _
  | cond c a b iha ihb =>
    intro e σ
    simp only [exec]
    refine (IsLim.const _).bind fun d => ?_
    cases d <;> try exact IsLim.const _
    rename_i t
    cases t
    · exact ihb e σ
    · exact iha e σ
  | block id b ih =>
    intro e σ
    simp only [exec]
    exact (ih e σ).bind fun _ => IsLim.const _
  | loop b ih =>
    intro e σ
    simp only [exec]
    constructor
    · intro k r hr
      have key : ∀ n e σ, loopN (exec (R k) esc (fun b => loopN b k) base b) n e σ = some r → loopN (exec ρ esc loopW base b) n e σ = some r := by
        intro n
        induction n with
        | zero => intro e σ hr; simp [loopN] at hr
        | succ n ihn =>
          intro e σ hr
          simp only [loopN] at hr ⊢
          obtain ⟨⟨x, e1, σ1⟩, ha, hb⟩ := Option.bind_eq_some_iff.1 hr
          rw [(ih e σ).up k _ ha]
          cases x with
          | normal => exact ihn e1 σ1 hb
          | exit i => exact hb
          | ret => exact hb
      exact (loopW_is _ e σ).up k r (key k e σ hr)
    · intro r hr
      obtain ⟨K, hK⟩ := (loopW_is _ e σ).get r hr
      have key : ∀ n e σ, loopN (exec ρ esc loopW base b) n e σ = some r → ∃ K, ∀ k, K ≤ k → loopN (exec (R k) esc (fun b => loopN b k) base b) n e σ = some r := by
        intro n
        induction n with
        | zero => intro e σ hr; simp [loopN] at hr
        | succ n ihn =>
          intro e σ hr
          simp only [loopN] at hr
          obtain ⟨⟨x, e1, σ1⟩, ha, hb⟩ := Option.bind_eq_some_iff.1 hr
          obtain ⟨K1, h1⟩ := (ih e σ).get _ ha
          cases x with
          | normal =>
            obtain ⟨K2, h2⟩ := ihn e1 σ1 hb
            refine ⟨max K1 K2, fun k hk => ?_⟩
            simp only [loopN, h1 k (by omega), Option.bind_some]
            exact h2 k (by omega)
          | exit i => exact ⟨K1, fun k hk => by simp only [loopN, h1 k hk, Option.bind_some]; exact hb⟩
          | ret => exact ⟨K1, fun k hk => by simp only [loopN, h1 k hk, Option.bind_some]; exact hb⟩
      obtain ⟨K2, h2⟩ := key K e σ (hK K (Nat.le_refl _))
      refine ⟨max K K2, fun k hk => ?_⟩
      have h3 := h2 k (by omega)
      have up : ∀ m, loopN (exec (R k) esc (fun b => loopN b k) base b) (K + m) e σ = some r := by
        intro m
        induction m with
        | zero => exact h3
        | succ m ihm => exact loopN_mono _ _ _ (fun _ _ => LeO.refl _) e σ r ihm
      have := up (k - K)
      rwa [Nat.add_sub_cancel' (by omega : K ≤ k)] at this
  | exit i => exact fun _ _ => IsLim.const _
  | ret => exact fun _ _ => IsLim.const _
end

/-- A call, opened. -/
theorem run_eq (tab : Tab) (f : Nat) (a : List Dat) (σ : St) :
    run tab f a σ = (tab f).bind fun fd => (exec (run tab) tab.esc loopW σ.length fd.body (bindArgs 0 a) σ).bind fun o => leave fd σ.length o := by
  refine IsLim.unique (run_is tab f a σ).shift ?_
  simp only [runF]
  exact (IsLim.const _).bind fun fd => (exec_is (run_is tab) tab.esc σ.length fd.body _ _).bind fun _ => IsLim.const _
theorem run_of_runF {tab : Tab} {k f : Nat} {a : List Dat} {σ : St} {r : Dat × St} (h : runF tab k f a σ = some r) : run tab f a σ = some r := (run_is tab f a σ).up k r h
theorem runF_of_run {tab : Tab} {f : Nat} {a : List Dat} {σ : St} {r : Dat × St} (h : run tab f a σ = some r) : ∃ k, runF tab k f a σ = some r :=
  let ⟨K, hK⟩ := (run_is tab f a σ).get r h
  ⟨K, hK K (Nat.le_refl _)⟩
end Go.Mir
