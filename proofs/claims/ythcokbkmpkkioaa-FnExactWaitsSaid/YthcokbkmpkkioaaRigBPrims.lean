/- Part of Rig, a reflective evaluator of this project's own: a function's code, run over typed data by Lean's kernel, gives its contract. No condition. -/
import Derived.Test.YthcokbkmpkkioaaRigBMono
import Derived.IntWalk
set_option linter.unusedVariables false
noncomputable section
namespace Rig
open Go (IntKind)
/-! ### The words of the texts -/
section
variable {α ρ : Type}
theorem dif_t (x y : α) : dif true x y = x := rfl
theorem dif_f (x y : α) : dif false x y = y := rfl
theorem dbind_s (a : α) (f : α → Option ρ) : dbind (some a) f = f a := rfl
theorem ilt_t {a b : Int} (h : a < b) : ilt a b = true := by simp [ilt, h]
theorem ilt_f {a b : Int} (h : ¬ a < b) : ilt a b = false := by simp [ilt, h]
theorem ile_t {a b : Int} (h : a ≤ b) : ile a b = true := by simp [ile, h]
theorem ile_f {a b : Int} (h : ¬ a ≤ b) : ile a b = false := by simp [ile, h]
theorem ieq_t {a b : Int} (h : a = b) : ieq a b = true := by simp [ieq, h]
theorem ieq_f {a b : Int} (h : ¬ a = b) : ieq a b = false := by simp [ieq, h]
theorem ine_t {a b : Int} (h : ¬ a = b) : ine a b = true := by simp [ine, h]
theorem ine_f {a b : Int} (h : a = b) : ine a b = false := by simp [ine, h]
theorem dnot_t : dnot true = false := rfl
theorem dnot_f : dnot false = true := rfl
theorem deqs_self (a : ByteArray) : deqs a a = true := by simp [deqs]
theorem dnes_self (a : ByteArray) : dnes a a = false := by simp [dnes]
theorem iadd_in {a b : Int} (h : -9223372036854775808 ≤ a + b ∧ a + b ≤ 9223372036854775807) : iadd .i64 a b = a + b := Go.IntWalk.i64_in _ h
theorem isub_in {a b : Int} (h : -9223372036854775808 ≤ a - b ∧ a - b ≤ 9223372036854775807) : isub .i64 a b = a - b := Go.IntWalk.i64_in _ h
theorem imul_in {a b : Int} (h : -9223372036854775808 ≤ a * b ∧ a * b ≤ 9223372036854775807) : imul .i64 a b = a * b := Go.IntWalk.i64_in _ h
theorem dlen_eq (l : List α) : dlen l = (l.length : Int) := rfl
theorem droom_t {a b : Int} {k : Nat} (h : (a + b) * k ≤ 140737488355328) : droom a b k = true := by unfold droom; rw [stuck_eq]; simpa using h
theorem droom_iff {a b : Int} {k : Nat} : droom a b k = true ↔ (a + b) * k ≤ 140737488355328 := by unfold droom; rw [stuck_eq]; simp
theorem dat_nat (z : α) (l : List α) (i : Nat) (h : i < l.length) : dat z l (i : Int) = l[i] := by
  unfold dat
  simp [List.getD_eq_getElem?_getD, h]
theorem dset_nat (l : List α) (i : Nat) (x : α) : dset l (i : Int) x = l.set i x := by simp [dset]
theorem dapp_eq (l m : List α) : dapp l m = l ++ m := rfl
theorem dnil_eq : (dnil : List α) = [] := rfl
theorem dcons_eq (x : α) (l : List α) : dcons x l = x :: l := rfl
theorem dmake_nat (n : Nat) (x : α) : dmake (n : Int) x = List.replicate n x := by simp [dmake]

/-- 'for i := 0; i < len(l); i++ { out[i] = l[i] }' -/
theorem to_loop {L : Nat → List α × List α × Int → Option (List α)} {l : List α}
    (step : ∀ n (m : List α) (i : Nat) (h : i < l.length), m.length = l.length → L (n + 1) (l, m, (i : Int)) = L n (l, m.set i l[i], ((i + 1 : Nat) : Int)))
    (stop : ∀ n (m : List α), L (n + 1) (l, m, (l.length : Int)) = some m) (m : List α) (hm : m.length = l.length) : L (l.length + 1) (l, m, 0) = some l := by
  have key : ∀ k (i : Nat) (m : List α), i + k = l.length → m.length = l.length → (∀ j (h : j < i) (h1 : j < m.length) (h2 : j < l.length), m[j] = l[j]) → L (k + 1) (l, m, (i : Int)) = some l := by
    intro k
    induction k with
    | zero =>
      intro i m hi hm hj
      have : i = l.length := by omega
      subst this
      rw [stop]
      exact congrArg some (List.ext_getElem hm fun j h1 h2 => hj j (by omega) h1 h2)
    | succ k ih =>
      intro i m hi hm hj
      rw [step (k + 1) m i (by omega) hm]
      refine ih (i + 1) _ (by omega) (by simpa using hm) fun j h h1 h2 => ?_
      rw [List.getElem_set]
      split
      · rename_i e; subst e; rfl
      · exact hj j (by omega) _ h2
  exact key l.length 0 m (by omega) hm (fun j h => by omega)
/-- 'for i := 0; i < len(l); i++ { if l[i] != l[i] { return false } }; return true' -/
theorem eq_loop {L : Nat → List α × List α × Int → Option Bool} {l : List α}
    (step : ∀ n (i : Nat), i < l.length → L (n + 1) (l, l, (i : Int)) = L n (l, l, ((i + 1 : Nat) : Int)))
    (stop : ∀ n, L (n + 1) (l, l, (l.length : Int)) = some true) : L (l.length + 1) (l, l, 0) = some true := by
  have key : ∀ k (i : Nat), i + k = l.length → L (k + 1) (l, l, (i : Int)) = some true := by
    intro k
    induction k with
    | zero =>
      intro i hi
      have : i = l.length := by omega
      subst this
      exact stop _
    | succ k ih =>
      intro i hi
      rw [step (k + 1) i (by omega)]
      exact ih (i + 1) (by omega)
  exact key l.length 0 (by omega)
end
end Rig
