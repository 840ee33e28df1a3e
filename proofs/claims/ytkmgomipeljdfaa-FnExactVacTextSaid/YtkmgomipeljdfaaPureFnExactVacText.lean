/- Part of Rig, a reflective evaluator of this project's own: a function's code, run over typed data by Lean's kernel, gives its contract. No condition. -/
import Derived.Test.YtkmgomipeljdfaaTextsFnExactVacText
import Derived.Test.YtkmgomipeljdfaaRigPrims
set_option linter.unusedVariables false
noncomputable section
namespace Rig.Pure
open Go (IntKind)
theorem toIntS_eq (l : List Int) (h : l.length ≤ 1048576) : laws_toIntS l = some l := by
  refine laws_toIntS_of (n := l.length + 1) ?_
  unfold laws_toIntS_N
  simp only [dlen_eq, dmake_nat]
  rw [ile_t (by omega), dif_t, ile_t (by omega), dif_t, droom_t (by omega), dif_t]
  refine to_loop (fun n m i hi hm => ?_) (fun n m => ?_) _ (by simp)
  · simp only [laws_toIntS_L3, dlen_eq]
    rw [ilt_t (by omega), dif_t, ile_t (by omega), dif_t, dif_t, dif_t, ilt_t (by omega), dif_t, iadd_in (by omega), dset_nat, dat_nat _ l i hi]
    rfl
  · simp only [laws_toIntS_L3, dlen_eq]
    rw [ilt_f (by omega), dif_f]
theorem toItem_eq (x) : laws_toItem x = some x := rfl
theorem toEntry_eq (x) : laws_toEntry x = some x := rfl
theorem toItemS_eq (l : List (Int × Int × Int × Int × Int)) (h : l.length ≤ 1048576) : laws_toItemS l = some l := by
  refine laws_toItemS_of (n := l.length + 1) ?_
  unfold laws_toItemS_N
  simp only [dlen_eq, dmake_nat]
  rw [ile_t (by omega), dif_t, ile_t (by omega), dif_t, droom_t (by omega), dif_t]
  refine to_loop (fun n m i hi hm => ?_) (fun n m => ?_) _ (by simp)
  · simp only [laws_toItemS_L3, dlen_eq, toItem_eq, dbind_s]
    rw [ilt_t (by omega), dif_t, ile_t (by omega), dif_t, dif_t, dif_t, ilt_t (by omega), dif_t, iadd_in (by omega), dset_nat, dat_nat _ l i hi]
    rfl
  · simp only [laws_toItemS_L3, dlen_eq]
    rw [ilt_f (by omega), dif_f]
theorem toEntryS_eq (l : List (Int × Int × Int × Int × Int)) (h : l.length ≤ 1048576) : laws_toEntryS l = some l := by
  refine laws_toEntryS_of (n := l.length + 1) ?_
  unfold laws_toEntryS_N
  simp only [dlen_eq, dmake_nat]
  rw [ile_t (by omega), dif_t, ile_t (by omega), dif_t, droom_t (by omega), dif_t]
  refine to_loop (fun n m i hi hm => ?_) (fun n m => ?_) _ (by simp)
  · simp only [laws_toEntryS_L3, dlen_eq, toEntry_eq, dbind_s]
    rw [ilt_t (by omega), dif_t, ile_t (by omega), dif_t, dif_t, dif_t, ilt_t (by omega), dif_t, iadd_in (by omega), dset_nat, dat_nat _ l i hi]
    rfl
  · simp only [laws_toEntryS_L3, dlen_eq]
    rw [ilt_f (by omega), dif_f]
theorem eqIntS_self (l : List Int) (h : l.length ≤ 1048576) : laws_eqIntS (l, l) = some true := by
  refine laws_eqIntS_of (n := l.length + 1) ?_
  unfold laws_eqIntS_N
  simp only
  rw [ine_f rfl, dif_f]
  refine eq_loop (fun n i hi => ?_) (fun n => ?_)
  · simp only [laws_eqIntS_L4, dlen_eq]
    rw [ilt_t (by omega), dif_t, ile_t (by omega), dif_t, dif_t, dif_t, dif_t, ine_f rfl, dif_f, iadd_in (by omega)]
    rfl
  · simp only [laws_eqIntS_L4, dlen_eq]
    rw [ilt_f (by omega), dif_f]
theorem eqBox_self (x) : laws_eqBox (x, x) = some true := by
  simp only [laws_eqBox]
  rw [ine_f rfl, dif_f, ine_f rfl, dif_f, ine_f rfl, dif_f, ine_f rfl, dif_f]
theorem eqItem_self (x) : laws_eqItem (x, x) = some true := by
  simp only [laws_eqItem, eqBox_self, dbind_s, dnot_t, dif_f]
  rw [ine_f rfl, dif_f]
theorem eqEntry_self (x) : laws_eqEntry (x, x) = some true := by
  simp only [laws_eqEntry, eqBox_self, dbind_s, dnot_t, dif_f]
  rw [ine_f rfl, dif_f]
theorem eqItemS_self (l : List (Int × Int × Int × Int × Int)) (h : l.length ≤ 1048576) : laws_eqItemS (l, l) = some true := by
  refine laws_eqItemS_of (n := l.length + 1) ?_
  unfold laws_eqItemS_N
  simp only
  rw [ine_f rfl, dif_f]
  refine eq_loop (fun n i hi => ?_) (fun n => ?_)
  · simp only [laws_eqItemS_L4, dlen_eq, eqItem_self, dbind_s, dnot_t, dif_f]
    rw [ilt_t (by omega), dif_t, ile_t (by omega), dif_t, dif_t, dif_t, dif_t, iadd_in (by omega)]
    rfl
  · simp only [laws_eqItemS_L4, dlen_eq]
    rw [ilt_f (by omega), dif_f]
theorem eqEntryS_self (l : List (Int × Int × Int × Int × Int)) (h : l.length ≤ 1048576) : laws_eqEntryS (l, l) = some true := by
  refine laws_eqEntryS_of (n := l.length + 1) ?_
  unfold laws_eqEntryS_N
  simp only
  rw [ine_f rfl, dif_f]
  refine eq_loop (fun n i hi => ?_) (fun n => ?_)
  · simp only [laws_eqEntryS_L4, dlen_eq, eqEntry_self, dbind_s, dnot_t, dif_f]
    rw [ilt_t (by omega), dif_t, ile_t (by omega), dif_t, dif_t, dif_t, dif_t, iadd_in (by omega)]
    rfl
  · simp only [laws_eqEntryS_L4, dlen_eq]
    rw [ilt_f (by omega), dif_f]
/-- a size: what is left -/
theorem szIntS_eq (l : List Int) (k : Int) (h : l.length ≤ 9223372036854775807) (h0 : 0 ≤ k) (h1 : k ≤ 1048576) : laws_szIntS (l, k) = some (if k - l.length < 0 then -1 else k - l.length) := by
  simp only [laws_szIntS, dlen_eq]
  rw [isub_in (by omega)]
  by_cases hk : k - l.length < 0
  · rw [ilt_t hk, dif_t, if_pos hk]
  · rw [ilt_f hk, dif_f, if_neg hk]
theorem szItemS_eq (l : List (Int × Int × Int × Int × Int)) (k : Int) (h : l.length ≤ 9223372036854775807) (h0 : 0 ≤ k) (h1 : k ≤ 1048576) : laws_szItemS (l, k) = some (if k - l.length < 0 then -1 else k - l.length) := by
  simp only [laws_szItemS, dlen_eq]
  rw [isub_in (by omega)]
  by_cases hk : k - l.length < 0
  · rw [ilt_t hk, dif_t, if_pos hk]
  · rw [ilt_f hk, dif_f, if_neg hk]
theorem szEntryS_eq (l : List (Int × Int × Int × Int × Int)) (k : Int) (h : l.length ≤ 9223372036854775807) (h0 : 0 ≤ k) (h1 : k ≤ 1048576) : laws_szEntryS (l, k) = some (if k - l.length < 0 then -1 else k - l.length) := by
  simp only [laws_szEntryS, dlen_eq]
  rw [isub_in (by omega)]
  by_cases hk : k - l.length < 0
  · rw [ilt_t hk, dif_t, if_pos hk]
  · rw [ilt_f hk, dif_f, if_neg hk]
abbrev E5 := Int × Int × Int × Int × Int
abbrev VacT := Int × List Int × List E5 × List E5 × List E5 × List Int
def VacSmall (v : VacT) : Prop := v.2.1.length ≤ 1048576 ∧ v.2.2.1.length ≤ 1048576 ∧ v.2.2.2.1.length ≤ 1048576 ∧ v.2.2.2.2.1.length ≤ 1048576 ∧ v.2.2.2.2.2.length ≤ 1048576
def VacGood (v : VacT) : Prop := v.2.1.length ≤ 9223372036854775807 ∧ v.2.2.1.length ≤ 9223372036854775807 ∧ v.2.2.2.1.length ≤ 9223372036854775807 ∧ v.2.2.2.2.1.length ≤ 9223372036854775807 ∧ v.2.2.2.2.2.length ≤ 9223372036854775807
theorem szVac_some (v : VacT) (k : Int) (h : VacGood v) (h0 : 0 ≤ k) (h1 : k ≤ 1048576) : ∃ r, laws_szVac (v, k) = some r ∧ (r < 0 ∨ VacSmall v ∧ r ≤ k) := by
  obtain ⟨a0, a1, a2, a3, a4, a5⟩ := v
  obtain ⟨g1, g2, g3, g4, g5⟩ := h
  simp only at g1 g2 g3 g4 g5
  simp only [laws_szVac]
  rw [szIntS_eq _ _ g1 h0 h1, dbind_s]
  split
  · exact ⟨-1, by rw [ilt_t (by omega), dif_t], .inl (by omega)⟩
  rw [ilt_f (by omega), dif_f, szItemS_eq _ _ g2 (by omega) (by omega), dbind_s]
  split
  · exact ⟨-1, by rw [ilt_t (by omega), dif_t], .inl (by omega)⟩
  rw [ilt_f (by omega), dif_f, szEntryS_eq _ _ g3 (by omega) (by omega), dbind_s]
  split
  · exact ⟨-1, by rw [ilt_t (by omega), dif_t], .inl (by omega)⟩
  rw [ilt_f (by omega), dif_f, szEntryS_eq _ _ g4 (by omega) (by omega), dbind_s]
  split
  · exact ⟨-1, by rw [ilt_t (by omega), dif_t], .inl (by omega)⟩
  rw [ilt_f (by omega), dif_f, szIntS_eq _ _ g5 (by omega) (by omega), dbind_s]
  split
  · exact ⟨-1, by rw [ilt_t (by omega), dif_t], .inl (by omega)⟩
  rw [ilt_f (by omega), dif_f]
  refine ⟨_, rfl, .inr ⟨⟨?_, ?_, ?_, ?_, ?_⟩, ?_⟩⟩ <;> first | omega | (simp only; omega) | (show _ ≤ _; simp only; omega)
theorem toVac_eq (v : VacT) (h : VacSmall v) : laws_toVac v = some v := by
  obtain ⟨a0, a1, a2, a3, a4, a5⟩ := v
  obtain ⟨g1, g2, g3, g4, g5⟩ := h
  simp only at g1 g2 g3 g4 g5
  simp only [laws_toVac, toIntS_eq _ g1, toItemS_eq _ g2, toEntryS_eq _ g3, toEntryS_eq _ g4, toIntS_eq _ g5, dbind_s]
theorem eqVac_self (v : VacT) (h : VacSmall v) : laws_eqVac (v, v) = some true := by
  obtain ⟨a0, a1, a2, a3, a4, a5⟩ := v
  obtain ⟨g1, g2, g3, g4, g5⟩ := h
  simp only at g1 g2 g3 g4 g5
  simp only [laws_eqVac, eqIntS_self _ g1, eqItemS_self _ g2, eqEntryS_self _ g3, eqEntryS_self _ g4, eqIntS_self _ g5, dbind_s, dnot_t, dif_f]
  rw [ine_f rfl, dif_f]
/-- VacText is what the document says -/
theorem vacText_eq (v : VacT) : ∃ s, spec_VacText v = some s ∧ impl_VacText v = some s := by
  simp only [spec_VacText, impl_VacText, impl_name, spec_l1In, dlen_eq, dcons_eq, dnil_eq, List.length_cons, List.length_nil]
  rw [isub_in (by omega)]
  by_cases h0 : v.1 < 0
  · rw [ile_f (by omega), dif_f, dbind_s, dnot_f, dif_t, ilt_t h0, dif_t, dbind_s]
    exact ⟨_, rfl, rfl⟩
  · rw [ile_t (by omega), dif_t, dbind_s, ilt_f h0, dif_f]
    by_cases h1 : v.1 < 9
    · rw [ile_t (by omega), dnot_t, dif_f, dif_t, ilt_t (by omega), dif_t, ile_f (by omega), dif_f, dbind_s]
      exact ⟨_, rfl, rfl⟩
    · rw [ile_f (by omega), dnot_f, dif_t, ile_t (by omega), dif_t, dbind_s]
      exact ⟨_, rfl, rfl⟩
theorem FnExactVacText_true (v : VacT) (h : VacGood v) : laws_FnExactVacText v = some true := by
  simp only [laws_FnExactVacText]
  obtain ⟨r, hr, h2⟩ := szVac_some v 1048576 h (by omega) (by omega)
  rw [hr, dbind_s]
  rcases h2 with h2 | ⟨h2, _⟩
  · rw [ilt_t h2, dif_t]
  by_cases hk : r < 0
  · rw [ilt_t hk, dif_t]
  rw [ilt_f hk, dif_f]
  obtain ⟨s, e1, e2⟩ := vacText_eq v
  simp only [toVac_eq v h2, dbind_s, e1, e2, dnes_self, dif_f, eqVac_self v h2, dnot_t]
end Rig.Pure
