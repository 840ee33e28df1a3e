/- Part of Rig, a reflective evaluator of this project's own: a function's code, run over typed data by Lean's kernel, gives its contract. No condition. -/
import Derived.Test.YthcokbkmpkkioaaRigBCore
set_option linter.unusedVariables false
noncomputable section
namespace Rig
/-- an element; z where there is none -/
def dat {α : Type} (z : α) (l : List α) (i : Int) : α := l.getD i.toNat z
/-! ### Rounds without a bound -/
def Le {ρ : Type} (a b : Option ρ) : Prop := ∀ y, a = some y → b = some y
theorem Le.none {ρ : Type} (b : Option ρ) : Le .none b := fun _ h => by cases h
theorem Le.refl {ρ : Type} (a : Option ρ) : Le a a := fun _ h => h
theorem Le.trans {ρ : Type} {a b c : Option ρ} (h : Le a b) (k : Le b c) : Le a c := fun y e => k y (h y e)
theorem Le.dif {ρ : Type} {b : Bool} {x y x' y' : Option ρ} (h : Le x x') (k : Le y y') : Le (Rig.dif b x y) (Rig.dif b x' y') := by cases b <;> assumption
theorem Le.dbind {α ρ : Type} {c : Option α} {f g : α → Option ρ} (h : ∀ a, Le (f a) (g a)) : Le (Rig.dbind c f) (Rig.dbind c g) := by
  intro y e
  cases c with
  | none => cases e
  | some a => exact h a y e
/-- the value that some number of rounds gives -/
def lim {ρ : Type} (f : Nat → Option ρ) : Option ρ := by
  classical exact if h : ∃ y n, f n = some y then some h.choose else none
theorem lim_some {ρ : Type} {f : Nat → Option ρ} {y : ρ} (h : lim f = some y) : ∃ n, f n = some y := by
  unfold lim at h
  split at h
  · rename_i hx
    obtain ⟨n, hn⟩ := hx.choose_spec
    cases h
    exact ⟨n, hn⟩
  · cases h
theorem Le.rounds {ρ : Type} {f : Nat → Option ρ} (m : ∀ n, Le (f n) (f (n + 1))) {n k : Nat} (h : n ≤ k) : Le (f n) (f k) := by
  induction h with
  | refl => exact Le.refl _
  | step _ ih => exact ih.trans (m _)
theorem lim_of {ρ : Type} {f : Nat → Option ρ} (m : ∀ n, Le (f n) (f (n + 1))) {n : Nat} {y : ρ} (h : f n = some y) : lim f = some y := by
  unfold lim
  have hx : ∃ y n, f n = some y := ⟨y, n, h⟩
  rw [dif_pos hx]
  obtain ⟨k, hk⟩ := hx.choose_spec
  have h1 := Le.rounds m (Nat.le_max_left n k) y h
  have h2 := Le.rounds m (Nat.le_max_right n k) _ hk
  rw [h1] at h2
  rw [← Option.some.inj h2]
theorem Le.dbind2 {α ρ : Type} {c c' : Option α} {f g : α → Option ρ} (h0 : Le c c') (h : ∀ a, Le (f a) (g a)) : Le (Rig.dbind c f) (Rig.dbind c' g) := by
  intro y e
  cases c with
  | none => cases e
  | some a => rw [h0 a rfl]; exact h a y e
theorem Le.lim {ρ : Type} {f g : Nat → Option ρ} (h : ∀ n, Le (f n) (g (n + 1))) (m : ∀ n, Le (g n) (g (n + 1))) : Le (Rig.lim f) (Rig.lim g) := by
  intro y e
  obtain ⟨n, hn⟩ := lim_some e
  exact lim_of m (h n y hn)
end Rig
