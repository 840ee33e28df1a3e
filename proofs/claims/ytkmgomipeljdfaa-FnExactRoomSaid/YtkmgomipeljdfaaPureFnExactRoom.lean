/- Part of Rig, a reflective evaluator of this project's own: a function's code, run over typed data by Lean's kernel, gives its contract. No condition. -/
import Derived.Test.YtkmgomipeljdfaaTextsFnExactRoom
import Derived.Test.YtkmgomipeljdfaaRigBPrims
set_option linter.unusedVariables false
noncomputable section
namespace Rig.Pure
open Go (IntKind)
abbrev E5 := Int × Int × Int × Int × Int
abbrev PageT := Bool × Bool × List E5
abbrev BookT := Int × List PageT
/-! ### copies, comparisons, sizes -/
theorem toEntry_eq (x) : laws_toEntry x = some x := rfl
theorem toEntryS_eq (l : List E5) (h : l.length ≤ 1048576) : laws_toEntryS l = some l := by
  refine laws_toEntryS_of (n := l.length + 1) ?_
  unfold laws_toEntryS_N
  simp only [dlen_eq, dmake_nat]
  rw [ile_t (by omega), dif_t, ile_t (by omega), dif_t, droom_t (by omega), dif_t]
  refine to_loop (fun n m i hi hm => ?_) (fun n m => ?_) _ (by simp)
  · simp only [laws_toEntryS_L3, dlen_eq, toEntry_eq, dbind_s]
    rw [ilt_t (by omega), dif_t, ile_t (by omega), dif_t, dif_t, dif_t, ilt_t (by omega), dif_t, iadd_in (by omega), dset_nat, dat_nat _ l i hi]
    rfl
  · simp only [laws_toEntryS_L3, dlen_eq]
    rw [ilt_f (by omega), dif_f]
def PageSmall (p : PageT) : Prop := p.2.2.length ≤ 1048576
def PagesSmall (l : List PageT) : Prop := l.length ≤ 1048576 ∧ ∀ p ∈ l, PageSmall p
theorem toPage_eq (p : PageT) (h : PageSmall p) : laws_toPage p = some p := by
  obtain ⟨a, b, l⟩ := p
  simp only [laws_toPage, laws_toNode, toEntryS_eq l h, dbind_s]
theorem toPageS_eq (l : List PageT) (h : PagesSmall l) : laws_toPageS l = some l := by
  refine laws_toPageS_of (n := l.length + 1) ?_
  have h1 := h.1
  unfold laws_toPageS_N
  simp only [dlen_eq, dmake_nat]
  rw [ile_t (by omega), dif_t, ile_t (by omega), dif_t, droom_t (by omega), dif_t]
  refine to_loop (fun n m i hi hm => ?_) (fun n m => ?_) _ (by simp)
  · simp only [laws_toPageS_L3, dlen_eq, dat_nat _ l i hi, toPage_eq _ (h.2 _ (List.getElem_mem hi)), dbind_s]
    rw [ilt_t (by omega), dif_t, ile_t (by omega), dif_t, dif_t, dif_t, ilt_t (by omega), dif_t, iadd_in (by omega), dset_nat]
    rfl
  · simp only [laws_toPageS_L3, dlen_eq]
    rw [ilt_f (by omega), dif_f]
theorem toBook_eq (b : BookT) (h : PagesSmall b.2) : laws_toBook b = some b := by
  obtain ⟨r, l⟩ := b
  simp only [laws_toBook, toPageS_eq l h, dbind_s]
theorem eqBox_self (x) : laws_eqBox (x, x) = some true := by
  simp only [laws_eqBox]
  rw [ine_f rfl, dif_f, ine_f rfl, dif_f, ine_f rfl, dif_f, ine_f rfl, dif_f]
theorem eqEntry_self (x) : laws_eqEntry (x, x) = some true := by
  simp only [laws_eqEntry, eqBox_self, dbind_s, dnot_t, dif_f]
  rw [ine_f rfl, dif_f]
theorem eqEntryS_self (l : List E5) (h : l.length ≤ 1048576) : laws_eqEntryS (l, l) = some true := by
  refine laws_eqEntryS_of (n := l.length + 1) ?_
  unfold laws_eqEntryS_N
  simp only
  rw [ine_f rfl, dif_f]
  refine eq_loop (fun n i hi => ?_) (fun n => ?_)
  · simp only [laws_eqEntryS_L4, dlen_eq, eqEntry_self, dbind_s, dnot_t, dif_f]
    rw [ilt_t (by omega), dif_t, ile_t (by omega), dif_t, dif_t, dif_t, dif_t, iadd_in (by omega)]
    rfl
  · simp only [laws_eqEntryS_L4, dlen_eq]
    rw [ilt_f (by omega), dif_f]
theorem dneb_self (a : Bool) : dneb a a = false := by cases a <;> rfl
theorem eqPage_self (p : PageT) (h : PageSmall p) : laws_eqPage (p, p) = some true := by
  obtain ⟨a, b, l⟩ := p
  simp only [laws_eqPage, laws_eqNode, dneb_self, dif_f, eqEntryS_self l h, dbind_s, dnot_t]
theorem eqPageS_self (l : List PageT) (h : PagesSmall l) : laws_eqPageS (l, l) = some true := by
  refine laws_eqPageS_of (n := l.length + 1) ?_
  have h1 := h.1
  unfold laws_eqPageS_N
  simp only
  rw [ine_f rfl, dif_f]
  refine eq_loop (fun n i hi => ?_) (fun n => ?_)
  · simp only [laws_eqPageS_L4, dlen_eq, dat_nat _ l i hi, eqPage_self _ (h.2 _ (List.getElem_mem hi)), dbind_s, dnot_t, dif_f]
    rw [ilt_t (by omega), dif_t, ile_t (by omega), dif_t, dif_t, dif_t, dif_t, iadd_in (by omega)]
    rfl
  · simp only [laws_eqPageS_L4, dlen_eq]
    rw [ilt_f (by omega), dif_f]
theorem eqBook_self (b : BookT) (h : PagesSmall b.2) : laws_eqBook (b, b) = some true := by
  obtain ⟨r, l⟩ := b
  simp only [laws_eqBook, eqPageS_self l h, dbind_s, dnot_t, dif_f]
  rw [ine_f rfl, dif_f]
theorem szEntryS_eq (l : List E5) (k : Int) (h : l.length ≤ 9223372036854775807) (h0 : 0 ≤ k) (h1 : k ≤ 1048576) : laws_szEntryS (l, k) = some (if k - l.length < 0 then -1 else k - l.length) := by
  simp only [laws_szEntryS, dlen_eq]
  rw [isub_in (by omega)]
  by_cases hk : k - l.length < 0
  · rw [ilt_t hk, dif_t, if_pos hk]
  · rw [ilt_f hk, dif_f, if_neg hk]
def PagesGood (l : List PageT) : Prop := l.length ≤ 9223372036854775807 ∧ ∀ p ∈ l, p.2.2.length ≤ 9223372036854775807
theorem szPage_eq (p : PageT) (k : Int) (h : p.2.2.length ≤ 9223372036854775807) (h0 : 0 ≤ k) (h1 : k ≤ 1048576) : laws_szPage (p, k) = some (if k - p.2.2.length < 0 then -1 else k - p.2.2.length) := by
  obtain ⟨a, b, l⟩ := p
  simp only [laws_szPage, laws_szNode, szEntryS_eq l k h h0 h1, dbind_s]
  simp only at h
  split
  · rw [ilt_t (by omega), dif_t, dbind_s, ilt_t (by omega), dif_t]
  · rw [ilt_f (by omega), dif_f, dbind_s, ilt_f (by omega), dif_f]
theorem szPageS_some (l : List PageT) (k : Int) (h : PagesGood l) (h0 : 0 ≤ k) (h1 : k ≤ 1048576) : ∃ r, laws_szPageS (l, k) = some r ∧ (r < 0 ∨ PagesSmall l ∧ 0 ≤ r ∧ r ≤ k) := by
  have hl := h.1
  by_cases hk : k - l.length < 0
  · refine ⟨-1, laws_szPageS_of (n := 0) ?_, .inl (by omega)⟩
    simp only [laws_szPageS_N, dlen_eq]
    rw [isub_in (by omega), ilt_t hk, dif_t]
  · have key : ∀ m (i : Nat) (left : Int), i + m = l.length → 0 ≤ left → left ≤ k → (∀ j (hj : j < l.length), j < i → PageSmall l[j]) → ∃ r, laws_szPageS_L5 (m + 1) (l, left, (i : Int)) = some r ∧ (r < 0 ∨ (∀ j (hj : j < l.length), PageSmall l[j]) ∧ 0 ≤ r ∧ r ≤ k) := by
      intro m
      induction m with
      | zero =>
        intro i left hi h2 h3 hs
        simp only [laws_szPageS_L5, dlen_eq]
        rw [ilt_f (by omega), dif_f]
        exact ⟨_, rfl, .inr ⟨fun j hj => hs j hj (by omega), h2, h3⟩⟩
      | succ m ih =>
        intro i left hi h2 h3 hs
        have hil : i < l.length := by omega
        have hp := h.2 _ (List.getElem_mem hil)
        simp only [laws_szPageS_L5, dlen_eq]
        rw [ilt_t (by omega), dif_t, ile_t (by omega), dif_t, dif_t, dat_nat _ l i hil, szPage_eq _ _ hp h2 (by omega), dbind_s]
        by_cases hq : left - l[i].2.2.length < 0
        · rw [if_pos hq, ilt_t (by omega), dif_t]
          exact ⟨_, rfl, .inl (by omega)⟩
        · rw [if_neg hq, ilt_f (by omega), dif_f, iadd_in (by omega)]
          refine ih (i + 1) _ (by omega) (by omega) (by omega) fun j hj hji => ?_
          by_cases hje : j = i
          · subst hje; show _ ≤ _; omega
          · exact hs j hj (by omega)
    obtain ⟨r, hr, h2⟩ := key l.length 0 (k - l.length) (by omega) (by omega) (by omega) (fun j _ h => by omega)
    refine ⟨r, laws_szPageS_of (n := l.length + 1) ?_, h2.imp id fun ⟨h3, h4, h5⟩ => ⟨⟨by omega, fun p hp => ?_⟩, h4, h5⟩⟩
    · simp only [laws_szPageS_N, dlen_eq]
      rw [isub_in (by omega), ilt_f hk, dif_f]
      exact hr
    · obtain ⟨j, hj, e⟩ := List.getElem_of_mem hp
      rw [← e]; exact h3 j hj
theorem szBook_some (b : BookT) (k : Int) (h : PagesGood b.2) (h0 : 0 ≤ k) (h1 : k ≤ 1048576) : ∃ r, laws_szBook (b, k) = some r ∧ (r < 0 ∨ PagesSmall b.2 ∧ 0 ≤ r ∧ r ≤ k) := by
  obtain ⟨a, l⟩ := b
  obtain ⟨r, hr, h2⟩ := szPageS_some l k h h0 h1
  simp only [laws_szBook, hr, dbind_s]
  rcases h2 with h2 | h2
  · exact ⟨-1, by rw [ilt_t h2, dif_t], .inl (by omega)⟩
  · exact ⟨r, by rw [ilt_f (by omega), dif_f], .inr h2⟩
end Rig.Pure
