/- Part of Rig, a reflective evaluator of this project's own: a function's code, run over typed data by Lean's kernel, gives its contract. No condition. -/
import Derived.Test.YthcokbkmpkkioaaTextsFnExactWaits
import Derived.Test.YthcokbkmpkkioaaRigBPrims
set_option linter.unusedVariables false
set_option linter.unusedSimpArgs false
noncomputable section
namespace Rig.Pure
open Go (IntKind)
theorem dneb_self (a : Bool) : dneb a a = false := by cases a <;> rfl
def S_ByteS (l : List Int) : Prop := l.length ≤ 1048576
def G_ByteS (l : List Int) : Prop := l.length ≤ 9223372036854775807
theorem toByteS_eq (l : List Int) (h : S_ByteS l) : laws_toByteS l = some l := by
  have hl : l.length ≤ 1048576 := h
  refine laws_toByteS_of (n := l.length + 1) ?_
  unfold laws_toByteS_N
  simp only [dlen_eq, dmake_nat]
  rw [ile_t (by omega), dif_t, ile_t (by omega), dif_t, droom_t (by omega), dif_t]
  refine to_loop (fun n m i hi hm => ?_) (fun n m => ?_) _ (by simp)
  · simp only [laws_toByteS_L3, dlen_eq, dat_nat _ l i hi, dbind_s]
    rw [ilt_t (by omega), dif_t, ile_t (by omega), dif_t, dif_t, dif_t, ilt_t (by omega), dif_t, iadd_in (by omega), dset_nat]
    rfl
  · simp only [laws_toByteS_L3, dlen_eq]
    rw [ilt_f (by omega), dif_f]
theorem eqByteS_self (l : List Int) (h : S_ByteS l) : laws_eqByteS (l, l) = some true := by
  have hl : l.length ≤ 1048576 := h
  refine laws_eqByteS_of (n := l.length + 1) ?_
  unfold laws_eqByteS_N
  simp only
  rw [ine_f rfl, dif_f]
  refine eq_loop (fun n i hi => ?_) (fun n => ?_)
  · simp only [laws_eqByteS_L4, dlen_eq, dat_nat _ l i hi, ine_f, dneb_self, dnes_self, dbind_s, dnot_t, dif_f]
    rw [ilt_t (by omega), dif_t, ile_t (by omega), dif_t, dif_t, dif_t, dif_t, iadd_in (by omega)]
    rfl
  · simp only [laws_eqByteS_L4, dlen_eq]
    rw [ilt_f (by omega), dif_f]
theorem szByteS_some (l : List Int) (k : Int) (h : G_ByteS l) (h0 : 0 ≤ k) (h1 : k ≤ 1048576) : ∃ r, laws_szByteS (l, k) = some r ∧ (r < 0 ∨ S_ByteS l ∧ 0 ≤ r ∧ r ≤ k) := by
  have hl : l.length ≤ 9223372036854775807 := h
  simp only [laws_szByteS, dlen_eq]
  rw [isub_in (by omega)]
  by_cases hk : k - l.length < 0
  · rw [ilt_t hk, dif_t]
    exact ⟨_, rfl, .inl (by omega)⟩
  · rw [ilt_f hk, dif_f]
    exact ⟨_, rfl, .inr ⟨(show l.length ≤ 1048576 by omega), by omega, by omega⟩⟩
def S_Cell : Bool × (List Int) → Prop := fun (a0, a1) => S_ByteS a1
def G_Cell : Bool × (List Int) → Prop := fun (a0, a1) => G_ByteS a1
theorem toCell_eq (x : Bool × (List Int)) (h : S_Cell x) : laws_toCell x = some x := by
  obtain ⟨a0, a1⟩ := x
  have h0 : S_ByteS a1 := h
  simp only [laws_toCell, toByteS_eq _ h0, dbind_s]
theorem eqCell_self (x : Bool × (List Int)) (h : S_Cell x) : laws_eqCell (x, x) = some true := by
  obtain ⟨a0, a1⟩ := x
  have h0 : S_ByteS a1 := h
  simp only [laws_eqCell, ine_f, dnes_self, dneb_self, eqByteS_self _ h0, dbind_s, dnot_t, dif_f]
theorem szCell_some (x : Bool × (List Int)) (k : Int) (h : G_Cell x) (h0 : 0 ≤ k) (h1 : k ≤ 1048576) : ∃ r, laws_szCell (x, k) = some r ∧ (r < 0 ∨ S_Cell x ∧ 0 ≤ r ∧ r ≤ k) := by
  obtain ⟨a0, a1⟩ := x
  have g0 : G_ByteS a1 := h
  simp only [laws_szCell]
  obtain ⟨r0, e0, q0⟩ := szByteS_some a1 k g0 (by omega) (by omega)
  rw [e0, dbind_s]
  rcases q0 with q0 | ⟨s0, p0, q0⟩
  · exact ⟨-1, by rw [ilt_t q0, dif_t], .inl (by omega)⟩
  rw [ilt_f (by omega), dif_f]
  exact ⟨_, rfl, .inr ⟨s0, by omega, by omega⟩⟩
def S_CellS (l : List (Bool × (List Int))) : Prop := l.length ≤ 1048576 ∧ ∀ p ∈ l, S_Cell p
def G_CellS (l : List (Bool × (List Int))) : Prop := l.length ≤ 9223372036854775807 ∧ ∀ p ∈ l, G_Cell p
theorem toCellS_eq (l : List (Bool × (List Int))) (h : S_CellS l) : laws_toCellS l = some l := by
  have hl : l.length ≤ 1048576 := h.1
  refine laws_toCellS_of (n := l.length + 1) ?_
  unfold laws_toCellS_N
  simp only [dlen_eq, dmake_nat]
  rw [ile_t (by omega), dif_t, ile_t (by omega), dif_t, droom_t (by omega), dif_t]
  refine to_loop (fun n m i hi hm => ?_) (fun n m => ?_) _ (by simp)
  · simp only [laws_toCellS_L3, dlen_eq, dat_nat _ l i hi, toCell_eq _ (h.2 _ (List.getElem_mem hi)), dbind_s]
    rw [ilt_t (by omega), dif_t, ile_t (by omega), dif_t, dif_t, dif_t, ilt_t (by omega), dif_t, iadd_in (by omega), dset_nat]
    rfl
  · simp only [laws_toCellS_L3, dlen_eq]
    rw [ilt_f (by omega), dif_f]
theorem eqCellS_self (l : List (Bool × (List Int))) (h : S_CellS l) : laws_eqCellS (l, l) = some true := by
  have hl : l.length ≤ 1048576 := h.1
  refine laws_eqCellS_of (n := l.length + 1) ?_
  unfold laws_eqCellS_N
  simp only
  rw [ine_f rfl, dif_f]
  refine eq_loop (fun n i hi => ?_) (fun n => ?_)
  · simp only [laws_eqCellS_L4, dlen_eq, dat_nat _ l i hi, eqCell_self _ (h.2 _ (List.getElem_mem hi)), ine_f, dneb_self, dnes_self, dbind_s, dnot_t, dif_f]
    rw [ilt_t (by omega), dif_t, ile_t (by omega), dif_t, dif_t, dif_t, dif_t, iadd_in (by omega)]
    rfl
  · simp only [laws_eqCellS_L4, dlen_eq]
    rw [ilt_f (by omega), dif_f]
theorem szCellS_some (l : List (Bool × (List Int))) (k : Int) (h : G_CellS l) (h0 : 0 ≤ k) (h1 : k ≤ 1048576) : ∃ r, laws_szCellS (l, k) = some r ∧ (r < 0 ∨ S_CellS l ∧ 0 ≤ r ∧ r ≤ k) := by
  have hl : l.length ≤ 9223372036854775807 := h.1
  by_cases hk : k - l.length < 0
  · refine ⟨-1, laws_szCellS_of (n := 0) ?_, .inl (by omega)⟩
    simp only [laws_szCellS_N, dlen_eq]
    rw [isub_in (by omega), ilt_t hk, dif_t]
  · have key : ∀ m (i : Nat) (left : Int), i + m = l.length → 0 ≤ left → left ≤ k → (∀ j (hj : j < l.length), j < i → S_Cell l[j]) → ∃ r, laws_szCellS_L5 (m + 1) (l, left, (i : Int)) = some r ∧ (r < 0 ∨ (∀ j (hj : j < l.length), S_Cell l[j]) ∧ 0 ≤ r ∧ r ≤ k) := by
      intro m
      induction m with
      | zero =>
        intro i left hi h2 h3 hs
        simp only [laws_szCellS_L5, dlen_eq]
        rw [ilt_f (by omega), dif_f]
        exact ⟨_, rfl, .inr ⟨fun j hj => hs j hj (by omega), h2, h3⟩⟩
      | succ m ih =>
        intro i left hi h2 h3 hs
        have hil : i < l.length := by omega
        obtain ⟨r, e, hr⟩ := szCell_some _ left (h.2 _ (List.getElem_mem hil)) h2 (by omega)
        generalize hq : m + 1 = q at ih ⊢
        simp only [laws_szCellS_L5, dlen_eq]
        rw [ilt_t (by omega), dif_t, ile_t (by omega), dif_t, dif_t, dat_nat _ l i hil, e, dbind_s]
        rcases hr with hr | ⟨hr1, hr2, hr3⟩
        · rw [ilt_t hr, dif_t]
          exact ⟨_, rfl, .inl (by omega)⟩
        · rw [ilt_f (by omega), dif_f, iadd_in (by omega)]
          refine ih (i + 1) _ (by omega) (by omega) (by omega) fun j hj hji => ?_
          by_cases hje : j = i
          · subst hje; exact hr1
          · exact hs j hj (by omega)
    obtain ⟨r, hr, h2⟩ := key l.length 0 (k - l.length) (by omega) (by omega) (by omega) (fun j _ h => by omega)
    refine ⟨r, laws_szCellS_of (n := l.length + 1) ?_, h2.imp id fun ⟨h3, h4, h5⟩ => ⟨⟨by omega, fun p hp => ?_⟩, h4, h5⟩⟩
    · simp only [laws_szCellS_N, dlen_eq]
      rw [isub_in (by omega), ilt_f hk, dif_f]
      exact hr
    · obtain ⟨j, hj, e⟩ := List.getElem_of_mem hp
      rw [← e]; exact h3 j hj
def S_Wet : Int × (List Int) → Prop := fun (a0, a1) => S_ByteS a1
def G_Wet : Int × (List Int) → Prop := fun (a0, a1) => G_ByteS a1
theorem toWet_eq (x : Int × (List Int)) (h : S_Wet x) : laws_toWet x = some x := by
  obtain ⟨a0, a1⟩ := x
  have h0 : S_ByteS a1 := h
  simp only [laws_toWet, toByteS_eq _ h0, dbind_s]
theorem eqWet_self (x : Int × (List Int)) (h : S_Wet x) : laws_eqWet (x, x) = some true := by
  obtain ⟨a0, a1⟩ := x
  have h0 : S_ByteS a1 := h
  simp only [laws_eqWet, ine_f, dnes_self, dneb_self, eqByteS_self _ h0, dbind_s, dnot_t, dif_f]
theorem szWet_some (x : Int × (List Int)) (k : Int) (h : G_Wet x) (h0 : 0 ≤ k) (h1 : k ≤ 1048576) : ∃ r, laws_szWet (x, k) = some r ∧ (r < 0 ∨ S_Wet x ∧ 0 ≤ r ∧ r ≤ k) := by
  obtain ⟨a0, a1⟩ := x
  have g0 : G_ByteS a1 := h
  simp only [laws_szWet]
  obtain ⟨r0, e0, q0⟩ := szByteS_some a1 k g0 (by omega) (by omega)
  rw [e0, dbind_s]
  rcases q0 with q0 | ⟨s0, p0, q0⟩
  · exact ⟨-1, by rw [ilt_t q0, dif_t], .inl (by omega)⟩
  rw [ilt_f (by omega), dif_f]
  exact ⟨_, rfl, .inr ⟨s0, by omega, by omega⟩⟩
def S_WetS (l : List (Int × (List Int))) : Prop := l.length ≤ 1048576 ∧ ∀ p ∈ l, S_Wet p
def G_WetS (l : List (Int × (List Int))) : Prop := l.length ≤ 9223372036854775807 ∧ ∀ p ∈ l, G_Wet p
theorem toWetS_eq (l : List (Int × (List Int))) (h : S_WetS l) : laws_toWetS l = some l := by
  have hl : l.length ≤ 1048576 := h.1
  refine laws_toWetS_of (n := l.length + 1) ?_
  unfold laws_toWetS_N
  simp only [dlen_eq, dmake_nat]
  rw [ile_t (by omega), dif_t, ile_t (by omega), dif_t, droom_t (by omega), dif_t]
  refine to_loop (fun n m i hi hm => ?_) (fun n m => ?_) _ (by simp)
  · simp only [laws_toWetS_L3, dlen_eq, dat_nat _ l i hi, toWet_eq _ (h.2 _ (List.getElem_mem hi)), dbind_s]
    rw [ilt_t (by omega), dif_t, ile_t (by omega), dif_t, dif_t, dif_t, ilt_t (by omega), dif_t, iadd_in (by omega), dset_nat]
    rfl
  · simp only [laws_toWetS_L3, dlen_eq]
    rw [ilt_f (by omega), dif_f]
theorem eqWetS_self (l : List (Int × (List Int))) (h : S_WetS l) : laws_eqWetS (l, l) = some true := by
  have hl : l.length ≤ 1048576 := h.1
  refine laws_eqWetS_of (n := l.length + 1) ?_
  unfold laws_eqWetS_N
  simp only
  rw [ine_f rfl, dif_f]
  refine eq_loop (fun n i hi => ?_) (fun n => ?_)
  · simp only [laws_eqWetS_L4, dlen_eq, dat_nat _ l i hi, eqWet_self _ (h.2 _ (List.getElem_mem hi)), ine_f, dneb_self, dnes_self, dbind_s, dnot_t, dif_f]
    rw [ilt_t (by omega), dif_t, ile_t (by omega), dif_t, dif_t, dif_t, dif_t, iadd_in (by omega)]
    rfl
  · simp only [laws_eqWetS_L4, dlen_eq]
    rw [ilt_f (by omega), dif_f]
theorem szWetS_some (l : List (Int × (List Int))) (k : Int) (h : G_WetS l) (h0 : 0 ≤ k) (h1 : k ≤ 1048576) : ∃ r, laws_szWetS (l, k) = some r ∧ (r < 0 ∨ S_WetS l ∧ 0 ≤ r ∧ r ≤ k) := by
  have hl : l.length ≤ 9223372036854775807 := h.1
  by_cases hk : k - l.length < 0
  · refine ⟨-1, laws_szWetS_of (n := 0) ?_, .inl (by omega)⟩
    simp only [laws_szWetS_N, dlen_eq]
    rw [isub_in (by omega), ilt_t hk, dif_t]
  · have key : ∀ m (i : Nat) (left : Int), i + m = l.length → 0 ≤ left → left ≤ k → (∀ j (hj : j < l.length), j < i → S_Wet l[j]) → ∃ r, laws_szWetS_L5 (m + 1) (l, left, (i : Int)) = some r ∧ (r < 0 ∨ (∀ j (hj : j < l.length), S_Wet l[j]) ∧ 0 ≤ r ∧ r ≤ k) := by
      intro m
      induction m with
      | zero =>
        intro i left hi h2 h3 hs
        simp only [laws_szWetS_L5, dlen_eq]
        rw [ilt_f (by omega), dif_f]
        exact ⟨_, rfl, .inr ⟨fun j hj => hs j hj (by omega), h2, h3⟩⟩
      | succ m ih =>
        intro i left hi h2 h3 hs
        have hil : i < l.length := by omega
        obtain ⟨r, e, hr⟩ := szWet_some _ left (h.2 _ (List.getElem_mem hil)) h2 (by omega)
        generalize hq : m + 1 = q at ih ⊢
        simp only [laws_szWetS_L5, dlen_eq]
        rw [ilt_t (by omega), dif_t, ile_t (by omega), dif_t, dif_t, dat_nat _ l i hil, e, dbind_s]
        rcases hr with hr | ⟨hr1, hr2, hr3⟩
        · rw [ilt_t hr, dif_t]
          exact ⟨_, rfl, .inl (by omega)⟩
        · rw [ilt_f (by omega), dif_f, iadd_in (by omega)]
          refine ih (i + 1) _ (by omega) (by omega) (by omega) fun j hj hji => ?_
          by_cases hje : j = i
          · subst hje; exact hr1
          · exact hs j hj (by omega)
    obtain ⟨r, hr, h2⟩ := key l.length 0 (k - l.length) (by omega) (by omega) (by omega) (fun j _ h => by omega)
    refine ⟨r, laws_szWetS_of (n := l.length + 1) ?_, h2.imp id fun ⟨h3, h4, h5⟩ => ⟨⟨by omega, fun p hp => ?_⟩, h4, h5⟩⟩
    · simp only [laws_szWetS_N, dlen_eq]
      rw [isub_in (by omega), ilt_f hk, dif_f]
      exact hr
    · obtain ⟨j, hj, e⟩ := List.getElem_of_mem hp
      rw [← e]; exact h3 j hj
def S_Disk : (List (Bool × (List Int))) × (List (Int × (List Int))) × Int × Bool → Prop := fun (a0, a1, a2, a3) => S_CellS a0 ∧ S_WetS a1
def G_Disk : (List (Bool × (List Int))) × (List (Int × (List Int))) × Int × Bool → Prop := fun (a0, a1, a2, a3) => G_CellS a0 ∧ G_WetS a1
theorem toDisk_eq (x : (List (Bool × (List Int))) × (List (Int × (List Int))) × Int × Bool) (h : S_Disk x) : laws_toDisk x = some x := by
  obtain ⟨a0, a1, a2, a3⟩ := x
  have h' : S_CellS a0 ∧ S_WetS a1 := h
  obtain ⟨h0, h1⟩ := h'
  simp only [laws_toDisk, toCellS_eq _ h0, toWetS_eq _ h1, dbind_s]
theorem eqDisk_self (x : (List (Bool × (List Int))) × (List (Int × (List Int))) × Int × Bool) (h : S_Disk x) : laws_eqDisk (x, x) = some true := by
  obtain ⟨a0, a1, a2, a3⟩ := x
  have h' : S_CellS a0 ∧ S_WetS a1 := h
  obtain ⟨h0, h1⟩ := h'
  simp only [laws_eqDisk, ine_f, dnes_self, dneb_self, eqCellS_self _ h0, eqWetS_self _ h1, dbind_s, dnot_t, dif_f]
theorem szDisk_some (x : (List (Bool × (List Int))) × (List (Int × (List Int))) × Int × Bool) (k : Int) (h : G_Disk x) (h0 : 0 ≤ k) (h1 : k ≤ 1048576) : ∃ r, laws_szDisk (x, k) = some r ∧ (r < 0 ∨ S_Disk x ∧ 0 ≤ r ∧ r ≤ k) := by
  obtain ⟨a0, a1, a2, a3⟩ := x
  have h' : G_CellS a0 ∧ G_WetS a1 := h
  obtain ⟨g0, g1⟩ := h'
  simp only [laws_szDisk]
  obtain ⟨r0, e0, q0⟩ := szCellS_some a0 k g0 (by omega) (by omega)
  rw [e0, dbind_s]
  rcases q0 with q0 | ⟨s0, p0, q0⟩
  · exact ⟨-1, by rw [ilt_t q0, dif_t], .inl (by omega)⟩
  rw [ilt_f (by omega), dif_f]
  obtain ⟨r1, e1, q1⟩ := szWetS_some a1 r0 g1 (by omega) (by omega)
  rw [e1, dbind_s]
  rcases q1 with q1 | ⟨s1, p1, q1⟩
  · exact ⟨-1, by rw [ilt_t q1, dif_t], .inl (by omega)⟩
  rw [ilt_f (by omega), dif_f]
  exact ⟨_, rfl, .inr ⟨⟨s0, s1⟩, by omega, by omega⟩⟩
theorem toBox_eq (x : Int × Int × Int × Int) : laws_toBox x = some x := rfl
theorem eqBox_self (x : Int × Int × Int × Int) : laws_eqBox (x, x) = some true := by
  simp only [laws_eqBox, ine_f, dnes_self, dneb_self, dbind_s, dnot_t, dif_f]
theorem toEntry_eq (x : Int × Int × Int × Int × Int) : laws_toEntry x = some x := rfl
theorem eqEntry_self (x : Int × Int × Int × Int × Int) : laws_eqEntry (x, x) = some true := by
  simp only [laws_eqEntry, ine_f, dnes_self, dneb_self, eqBox_self, dbind_s, dnot_t, dif_f]
def S_EntryS (l : List (Int × Int × Int × Int × Int)) : Prop := l.length ≤ 1048576
def G_EntryS (l : List (Int × Int × Int × Int × Int)) : Prop := l.length ≤ 9223372036854775807
theorem toEntryS_eq (l : List (Int × Int × Int × Int × Int)) (h : S_EntryS l) : laws_toEntryS l = some l := by
  have hl : l.length ≤ 1048576 := h
  refine laws_toEntryS_of (n := l.length + 1) ?_
  unfold laws_toEntryS_N
  simp only [dlen_eq, dmake_nat]
  rw [ile_t (by omega), dif_t, ile_t (by omega), dif_t, droom_t (by omega), dif_t]
  refine to_loop (fun n m i hi hm => ?_) (fun n m => ?_) _ (by simp)
  · simp only [laws_toEntryS_L3, dlen_eq, dat_nat _ l i hi, toEntry_eq, dbind_s]
    rw [ilt_t (by omega), dif_t, ile_t (by omega), dif_t, dif_t, dif_t, ilt_t (by omega), dif_t, iadd_in (by omega), dset_nat]
    rfl
  · simp only [laws_toEntryS_L3, dlen_eq]
    rw [ilt_f (by omega), dif_f]
theorem eqEntryS_self (l : List (Int × Int × Int × Int × Int)) (h : S_EntryS l) : laws_eqEntryS (l, l) = some true := by
  have hl : l.length ≤ 1048576 := h
  refine laws_eqEntryS_of (n := l.length + 1) ?_
  unfold laws_eqEntryS_N
  simp only
  rw [ine_f rfl, dif_f]
  refine eq_loop (fun n i hi => ?_) (fun n => ?_)
  · simp only [laws_eqEntryS_L4, dlen_eq, dat_nat _ l i hi, eqEntry_self, ine_f, dneb_self, dnes_self, dbind_s, dnot_t, dif_f]
    rw [ilt_t (by omega), dif_t, ile_t (by omega), dif_t, dif_t, dif_t, dif_t, iadd_in (by omega)]
    rfl
  · simp only [laws_eqEntryS_L4, dlen_eq]
    rw [ilt_f (by omega), dif_f]
theorem szEntryS_some (l : List (Int × Int × Int × Int × Int)) (k : Int) (h : G_EntryS l) (h0 : 0 ≤ k) (h1 : k ≤ 1048576) : ∃ r, laws_szEntryS (l, k) = some r ∧ (r < 0 ∨ S_EntryS l ∧ 0 ≤ r ∧ r ≤ k) := by
  have hl : l.length ≤ 9223372036854775807 := h
  simp only [laws_szEntryS, dlen_eq]
  rw [isub_in (by omega)]
  by_cases hk : k - l.length < 0
  · rw [ilt_t hk, dif_t]
    exact ⟨_, rfl, .inl (by omega)⟩
  · rw [ilt_f hk, dif_f]
    exact ⟨_, rfl, .inr ⟨(show l.length ≤ 1048576 by omega), by omega, by omega⟩⟩
def S_Node : Bool × (List (Int × Int × Int × Int × Int)) → Prop := fun (a0, a1) => S_EntryS a1
def G_Node : Bool × (List (Int × Int × Int × Int × Int)) → Prop := fun (a0, a1) => G_EntryS a1
theorem toNode_eq (x : Bool × (List (Int × Int × Int × Int × Int))) (h : S_Node x) : laws_toNode x = some x := by
  obtain ⟨a0, a1⟩ := x
  have h0 : S_EntryS a1 := h
  simp only [laws_toNode, toEntryS_eq _ h0, dbind_s]
theorem eqNode_self (x : Bool × (List (Int × Int × Int × Int × Int))) (h : S_Node x) : laws_eqNode (x, x) = some true := by
  obtain ⟨a0, a1⟩ := x
  have h0 : S_EntryS a1 := h
  simp only [laws_eqNode, ine_f, dnes_self, dneb_self, eqEntryS_self _ h0, dbind_s, dnot_t, dif_f]
theorem szNode_some (x : Bool × (List (Int × Int × Int × Int × Int))) (k : Int) (h : G_Node x) (h0 : 0 ≤ k) (h1 : k ≤ 1048576) : ∃ r, laws_szNode (x, k) = some r ∧ (r < 0 ∨ S_Node x ∧ 0 ≤ r ∧ r ≤ k) := by
  obtain ⟨a0, a1⟩ := x
  have g0 : G_EntryS a1 := h
  simp only [laws_szNode]
  obtain ⟨r0, e0, q0⟩ := szEntryS_some a1 k g0 (by omega) (by omega)
  rw [e0, dbind_s]
  rcases q0 with q0 | ⟨s0, p0, q0⟩
  · exact ⟨-1, by rw [ilt_t q0, dif_t], .inl (by omega)⟩
  rw [ilt_f (by omega), dif_f]
  exact ⟨_, rfl, .inr ⟨s0, by omega, by omega⟩⟩
def S_Page : Bool × Bool × (List (Int × Int × Int × Int × Int)) → Prop := fun (a0, a1, a2) => S_Node (a1, a2)
def G_Page : Bool × Bool × (List (Int × Int × Int × Int × Int)) → Prop := fun (a0, a1, a2) => G_Node (a1, a2)
theorem toPage_eq (x : Bool × Bool × (List (Int × Int × Int × Int × Int))) (h : S_Page x) : laws_toPage x = some x := by
  obtain ⟨a0, a1, a2⟩ := x
  have h0 : S_Node (a1, a2) := h
  simp only [laws_toPage, toNode_eq _ h0, dbind_s]
theorem eqPage_self (x : Bool × Bool × (List (Int × Int × Int × Int × Int))) (h : S_Page x) : laws_eqPage (x, x) = some true := by
  obtain ⟨a0, a1, a2⟩ := x
  have h0 : S_Node (a1, a2) := h
  simp only [laws_eqPage, ine_f, dnes_self, dneb_self, eqNode_self _ h0, dbind_s, dnot_t, dif_f]
theorem szPage_some (x : Bool × Bool × (List (Int × Int × Int × Int × Int))) (k : Int) (h : G_Page x) (h0 : 0 ≤ k) (h1 : k ≤ 1048576) : ∃ r, laws_szPage (x, k) = some r ∧ (r < 0 ∨ S_Page x ∧ 0 ≤ r ∧ r ≤ k) := by
  obtain ⟨a0, a1, a2⟩ := x
  have g0 : G_Node (a1, a2) := h
  simp only [laws_szPage]
  obtain ⟨r0, e0, q0⟩ := szNode_some (a1, a2) k g0 (by omega) (by omega)
  rw [e0, dbind_s]
  rcases q0 with q0 | ⟨s0, p0, q0⟩
  · exact ⟨-1, by rw [ilt_t q0, dif_t], .inl (by omega)⟩
  rw [ilt_f (by omega), dif_f]
  exact ⟨_, rfl, .inr ⟨s0, by omega, by omega⟩⟩
def S_PageS (l : List (Bool × Bool × (List (Int × Int × Int × Int × Int)))) : Prop := l.length ≤ 1048576 ∧ ∀ p ∈ l, S_Page p
def G_PageS (l : List (Bool × Bool × (List (Int × Int × Int × Int × Int)))) : Prop := l.length ≤ 9223372036854775807 ∧ ∀ p ∈ l, G_Page p
theorem toPageS_eq (l : List (Bool × Bool × (List (Int × Int × Int × Int × Int)))) (h : S_PageS l) : laws_toPageS l = some l := by
  have hl : l.length ≤ 1048576 := h.1
  refine laws_toPageS_of (n := l.length + 1) ?_
  unfold laws_toPageS_N
  simp only [dlen_eq, dmake_nat]
  rw [ile_t (by omega), dif_t, ile_t (by omega), dif_t, droom_t (by omega), dif_t]
  refine to_loop (fun n m i hi hm => ?_) (fun n m => ?_) _ (by simp)
  · simp only [laws_toPageS_L3, dlen_eq, dat_nat _ l i hi, toPage_eq _ (h.2 _ (List.getElem_mem hi)), dbind_s]
    rw [ilt_t (by omega), dif_t, ile_t (by omega), dif_t, dif_t, dif_t, ilt_t (by omega), dif_t, iadd_in (by omega), dset_nat]
    rfl
  · simp only [laws_toPageS_L3, dlen_eq]
    rw [ilt_f (by omega), dif_f]
theorem eqPageS_self (l : List (Bool × Bool × (List (Int × Int × Int × Int × Int)))) (h : S_PageS l) : laws_eqPageS (l, l) = some true := by
  have hl : l.length ≤ 1048576 := h.1
  refine laws_eqPageS_of (n := l.length + 1) ?_
  unfold laws_eqPageS_N
  simp only
  rw [ine_f rfl, dif_f]
  refine eq_loop (fun n i hi => ?_) (fun n => ?_)
  · simp only [laws_eqPageS_L4, dlen_eq, dat_nat _ l i hi, eqPage_self _ (h.2 _ (List.getElem_mem hi)), ine_f, dneb_self, dnes_self, dbind_s, dnot_t, dif_f]
    rw [ilt_t (by omega), dif_t, ile_t (by omega), dif_t, dif_t, dif_t, dif_t, iadd_in (by omega)]
    rfl
  · simp only [laws_eqPageS_L4, dlen_eq]
    rw [ilt_f (by omega), dif_f]
theorem szPageS_some (l : List (Bool × Bool × (List (Int × Int × Int × Int × Int)))) (k : Int) (h : G_PageS l) (h0 : 0 ≤ k) (h1 : k ≤ 1048576) : ∃ r, laws_szPageS (l, k) = some r ∧ (r < 0 ∨ S_PageS l ∧ 0 ≤ r ∧ r ≤ k) := by
  have hl : l.length ≤ 9223372036854775807 := h.1
  by_cases hk : k - l.length < 0
  · refine ⟨-1, laws_szPageS_of (n := 0) ?_, .inl (by omega)⟩
    simp only [laws_szPageS_N, dlen_eq]
    rw [isub_in (by omega), ilt_t hk, dif_t]
  · have key : ∀ m (i : Nat) (left : Int), i + m = l.length → 0 ≤ left → left ≤ k → (∀ j (hj : j < l.length), j < i → S_Page l[j]) → ∃ r, laws_szPageS_L5 (m + 1) (l, left, (i : Int)) = some r ∧ (r < 0 ∨ (∀ j (hj : j < l.length), S_Page l[j]) ∧ 0 ≤ r ∧ r ≤ k) := by
      intro m
      induction m with
      | zero =>
        intro i left hi h2 h3 hs
        simp only [laws_szPageS_L5, dlen_eq]
        rw [ilt_f (by omega), dif_f]
        exact ⟨_, rfl, .inr ⟨fun j hj => hs j hj (by omega), h2, h3⟩⟩
      | succ m ih =>
        intro i left hi h2 h3 hs
        have hil : i < l.length := by omega
        obtain ⟨r, e, hr⟩ := szPage_some _ left (h.2 _ (List.getElem_mem hil)) h2 (by omega)
        generalize hq : m + 1 = q at ih ⊢
        simp only [laws_szPageS_L5, dlen_eq]
        rw [ilt_t (by omega), dif_t, ile_t (by omega), dif_t, dif_t, dat_nat _ l i hil, e, dbind_s]
        rcases hr with hr | ⟨hr1, hr2, hr3⟩
        · rw [ilt_t hr, dif_t]
          exact ⟨_, rfl, .inl (by omega)⟩
        · rw [ilt_f (by omega), dif_f, iadd_in (by omega)]
          refine ih (i + 1) _ (by omega) (by omega) (by omega) fun j hj hji => ?_
          by_cases hje : j = i
          · subst hje; exact hr1
          · exact hs j hj (by omega)
    obtain ⟨r, hr, h2⟩ := key l.length 0 (k - l.length) (by omega) (by omega) (by omega) (fun j _ h => by omega)
    refine ⟨r, laws_szPageS_of (n := l.length + 1) ?_, h2.imp id fun ⟨h3, h4, h5⟩ => ⟨⟨by omega, fun p hp => ?_⟩, h4, h5⟩⟩
    · simp only [laws_szPageS_N, dlen_eq]
      rw [isub_in (by omega), ilt_f hk, dif_f]
      exact hr
    · obtain ⟨j, hj, e⟩ := List.getElem_of_mem hp
      rw [← e]; exact h3 j hj
def S_Book : Int × (List (Bool × Bool × (List (Int × Int × Int × Int × Int)))) → Prop := fun (a0, a1) => S_PageS a1
def G_Book : Int × (List (Bool × Bool × (List (Int × Int × Int × Int × Int)))) → Prop := fun (a0, a1) => G_PageS a1
theorem toBook_eq (x : Int × (List (Bool × Bool × (List (Int × Int × Int × Int × Int))))) (h : S_Book x) : laws_toBook x = some x := by
  obtain ⟨a0, a1⟩ := x
  have h0 : S_PageS a1 := h
  simp only [laws_toBook, toPageS_eq _ h0, dbind_s]
theorem eqBook_self (x : Int × (List (Bool × Bool × (List (Int × Int × Int × Int × Int))))) (h : S_Book x) : laws_eqBook (x, x) = some true := by
  obtain ⟨a0, a1⟩ := x
  have h0 : S_PageS a1 := h
  simp only [laws_eqBook, ine_f, dnes_self, dneb_self, eqPageS_self _ h0, dbind_s, dnot_t, dif_f]
theorem szBook_some (x : Int × (List (Bool × Bool × (List (Int × Int × Int × Int × Int))))) (k : Int) (h : G_Book x) (h0 : 0 ≤ k) (h1 : k ≤ 1048576) : ∃ r, laws_szBook (x, k) = some r ∧ (r < 0 ∨ S_Book x ∧ 0 ≤ r ∧ r ≤ k) := by
  obtain ⟨a0, a1⟩ := x
  have g0 : G_PageS a1 := h
  simp only [laws_szBook]
  obtain ⟨r0, e0, q0⟩ := szPageS_some a1 k g0 (by omega) (by omega)
  rw [e0, dbind_s]
  rcases q0 with q0 | ⟨s0, p0, q0⟩
  · exact ⟨-1, by rw [ilt_t q0, dif_t], .inl (by omega)⟩
  rw [ilt_f (by omega), dif_f]
  exact ⟨_, rfl, .inr ⟨s0, by omega, by omega⟩⟩
theorem toHead_eq (x : Int × Int × Int × Int) : laws_toHead x = some x := rfl
theorem eqHead_self (x : Int × Int × Int × Int) : laws_eqHead (x, x) = some true := by
  simp only [laws_eqHead, ine_f, dnes_self, dneb_self, dbind_s, dnot_t, dif_f]
def S_IntS (l : List Int) : Prop := l.length ≤ 1048576
def G_IntS (l : List Int) : Prop := l.length ≤ 9223372036854775807
theorem toIntS_eq (l : List Int) (h : S_IntS l) : laws_toIntS l = some l := by
  have hl : l.length ≤ 1048576 := h
  refine laws_toIntS_of (n := l.length + 1) ?_
  unfold laws_toIntS_N
  simp only [dlen_eq, dmake_nat]
  rw [ile_t (by omega), dif_t, ile_t (by omega), dif_t, droom_t (by omega), dif_t]
  refine to_loop (fun n m i hi hm => ?_) (fun n m => ?_) _ (by simp)
  · simp only [laws_toIntS_L3, dlen_eq, dat_nat _ l i hi, dbind_s]
    rw [ilt_t (by omega), dif_t, ile_t (by omega), dif_t, dif_t, dif_t, ilt_t (by omega), dif_t, iadd_in (by omega), dset_nat]
    rfl
  · simp only [laws_toIntS_L3, dlen_eq]
    rw [ilt_f (by omega), dif_f]
theorem eqIntS_self (l : List Int) (h : S_IntS l) : laws_eqIntS (l, l) = some true := by
  have hl : l.length ≤ 1048576 := h
  refine laws_eqIntS_of (n := l.length + 1) ?_
  unfold laws_eqIntS_N
  simp only
  rw [ine_f rfl, dif_f]
  refine eq_loop (fun n i hi => ?_) (fun n => ?_)
  · simp only [laws_eqIntS_L4, dlen_eq, dat_nat _ l i hi, ine_f, dneb_self, dnes_self, dbind_s, dnot_t, dif_f]
    rw [ilt_t (by omega), dif_t, ile_t (by omega), dif_t, dif_t, dif_t, dif_t, iadd_in (by omega)]
    rfl
  · simp only [laws_eqIntS_L4, dlen_eq]
    rw [ilt_f (by omega), dif_f]
theorem szIntS_some (l : List Int) (k : Int) (h : G_IntS l) (h0 : 0 ≤ k) (h1 : k ≤ 1048576) : ∃ r, laws_szIntS (l, k) = some r ∧ (r < 0 ∨ S_IntS l ∧ 0 ≤ r ∧ r ≤ k) := by
  have hl : l.length ≤ 9223372036854775807 := h
  simp only [laws_szIntS, dlen_eq]
  rw [isub_in (by omega)]
  by_cases hk : k - l.length < 0
  · rw [ilt_t hk, dif_t]
    exact ⟨_, rfl, .inl (by omega)⟩
  · rw [ilt_f hk, dif_f]
    exact ⟨_, rfl, .inr ⟨(show l.length ≤ 1048576 by omega), by omega, by omega⟩⟩
theorem toItem_eq (x : Int × Int × Int × Int × Int) : laws_toItem x = some x := rfl
theorem eqItem_self (x : Int × Int × Int × Int × Int) : laws_eqItem (x, x) = some true := by
  simp only [laws_eqItem, ine_f, dnes_self, dneb_self, eqBox_self, dbind_s, dnot_t, dif_f]
def S_ItemS (l : List (Int × Int × Int × Int × Int)) : Prop := l.length ≤ 1048576
def G_ItemS (l : List (Int × Int × Int × Int × Int)) : Prop := l.length ≤ 9223372036854775807
theorem toItemS_eq (l : List (Int × Int × Int × Int × Int)) (h : S_ItemS l) : laws_toItemS l = some l := by
  have hl : l.length ≤ 1048576 := h
  refine laws_toItemS_of (n := l.length + 1) ?_
  unfold laws_toItemS_N
  simp only [dlen_eq, dmake_nat]
  rw [ile_t (by omega), dif_t, ile_t (by omega), dif_t, droom_t (by omega), dif_t]
  refine to_loop (fun n m i hi hm => ?_) (fun n m => ?_) _ (by simp)
  · simp only [laws_toItemS_L3, dlen_eq, dat_nat _ l i hi, toItem_eq, dbind_s]
    rw [ilt_t (by omega), dif_t, ile_t (by omega), dif_t, dif_t, dif_t, ilt_t (by omega), dif_t, iadd_in (by omega), dset_nat]
    rfl
  · simp only [laws_toItemS_L3, dlen_eq]
    rw [ilt_f (by omega), dif_f]
theorem eqItemS_self (l : List (Int × Int × Int × Int × Int)) (h : S_ItemS l) : laws_eqItemS (l, l) = some true := by
  have hl : l.length ≤ 1048576 := h
  refine laws_eqItemS_of (n := l.length + 1) ?_
  unfold laws_eqItemS_N
  simp only
  rw [ine_f rfl, dif_f]
  refine eq_loop (fun n i hi => ?_) (fun n => ?_)
  · simp only [laws_eqItemS_L4, dlen_eq, dat_nat _ l i hi, eqItem_self, ine_f, dneb_self, dnes_self, dbind_s, dnot_t, dif_f]
    rw [ilt_t (by omega), dif_t, ile_t (by omega), dif_t, dif_t, dif_t, dif_t, iadd_in (by omega)]
    rfl
  · simp only [laws_eqItemS_L4, dlen_eq]
    rw [ilt_f (by omega), dif_f]
theorem szItemS_some (l : List (Int × Int × Int × Int × Int)) (k : Int) (h : G_ItemS l) (h0 : 0 ≤ k) (h1 : k ≤ 1048576) : ∃ r, laws_szItemS (l, k) = some r ∧ (r < 0 ∨ S_ItemS l ∧ 0 ≤ r ∧ r ≤ k) := by
  have hl : l.length ≤ 9223372036854775807 := h
  simp only [laws_szItemS, dlen_eq]
  rw [isub_in (by omega)]
  by_cases hk : k - l.length < 0
  · rw [ilt_t hk, dif_t]
    exact ⟨_, rfl, .inl (by omega)⟩
  · rw [ilt_f hk, dif_f]
    exact ⟨_, rfl, .inr ⟨(show l.length ≤ 1048576 by omega), by omega, by omega⟩⟩
def S_Vac : Int × (List Int) × (List (Int × Int × Int × Int × Int)) × (List (Int × Int × Int × Int × Int)) × (List (Int × Int × Int × Int × Int)) × (List Int) → Prop := fun (a0, a1, a2, a3, a4, a5) => S_IntS a1 ∧ S_ItemS a2 ∧ S_EntryS a3 ∧ S_EntryS a4 ∧ S_IntS a5
def G_Vac : Int × (List Int) × (List (Int × Int × Int × Int × Int)) × (List (Int × Int × Int × Int × Int)) × (List (Int × Int × Int × Int × Int)) × (List Int) → Prop := fun (a0, a1, a2, a3, a4, a5) => G_IntS a1 ∧ G_ItemS a2 ∧ G_EntryS a3 ∧ G_EntryS a4 ∧ G_IntS a5
theorem toVac_eq (x : Int × (List Int) × (List (Int × Int × Int × Int × Int)) × (List (Int × Int × Int × Int × Int)) × (List (Int × Int × Int × Int × Int)) × (List Int)) (h : S_Vac x) : laws_toVac x = some x := by
  obtain ⟨a0, a1, a2, a3, a4, a5⟩ := x
  have h' : S_IntS a1 ∧ S_ItemS a2 ∧ S_EntryS a3 ∧ S_EntryS a4 ∧ S_IntS a5 := h
  obtain ⟨h0, h1, h2, h3, h4⟩ := h'
  simp only [laws_toVac, toIntS_eq _ h0, toItemS_eq _ h1, toEntryS_eq _ h2, toEntryS_eq _ h3, toIntS_eq _ h4, dbind_s]
theorem eqVac_self (x : Int × (List Int) × (List (Int × Int × Int × Int × Int)) × (List (Int × Int × Int × Int × Int)) × (List (Int × Int × Int × Int × Int)) × (List Int)) (h : S_Vac x) : laws_eqVac (x, x) = some true := by
  obtain ⟨a0, a1, a2, a3, a4, a5⟩ := x
  have h' : S_IntS a1 ∧ S_ItemS a2 ∧ S_EntryS a3 ∧ S_EntryS a4 ∧ S_IntS a5 := h
  obtain ⟨h0, h1, h2, h3, h4⟩ := h'
  simp only [laws_eqVac, ine_f, dnes_self, dneb_self, eqIntS_self _ h0, eqItemS_self _ h1, eqEntryS_self _ h2, eqEntryS_self _ h3, eqIntS_self _ h4, dbind_s, dnot_t, dif_f]
theorem szVac_some (x : Int × (List Int) × (List (Int × Int × Int × Int × Int)) × (List (Int × Int × Int × Int × Int)) × (List (Int × Int × Int × Int × Int)) × (List Int)) (k : Int) (h : G_Vac x) (h0 : 0 ≤ k) (h1 : k ≤ 1048576) : ∃ r, laws_szVac (x, k) = some r ∧ (r < 0 ∨ S_Vac x ∧ 0 ≤ r ∧ r ≤ k) := by
  obtain ⟨a0, a1, a2, a3, a4, a5⟩ := x
  have h' : G_IntS a1 ∧ G_ItemS a2 ∧ G_EntryS a3 ∧ G_EntryS a4 ∧ G_IntS a5 := h
  obtain ⟨g0, g1, g2, g3, g4⟩ := h'
  simp only [laws_szVac]
  obtain ⟨r0, e0, q0⟩ := szIntS_some a1 k g0 (by omega) (by omega)
  rw [e0, dbind_s]
  rcases q0 with q0 | ⟨s0, p0, q0⟩
  · exact ⟨-1, by rw [ilt_t q0, dif_t], .inl (by omega)⟩
  rw [ilt_f (by omega), dif_f]
  obtain ⟨r1, e1, q1⟩ := szItemS_some a2 r0 g1 (by omega) (by omega)
  rw [e1, dbind_s]
  rcases q1 with q1 | ⟨s1, p1, q1⟩
  · exact ⟨-1, by rw [ilt_t q1, dif_t], .inl (by omega)⟩
  rw [ilt_f (by omega), dif_f]
  obtain ⟨r2, e2, q2⟩ := szEntryS_some a3 r1 g2 (by omega) (by omega)
  rw [e2, dbind_s]
  rcases q2 with q2 | ⟨s2, p2, q2⟩
  · exact ⟨-1, by rw [ilt_t q2, dif_t], .inl (by omega)⟩
  rw [ilt_f (by omega), dif_f]
  obtain ⟨r3, e3, q3⟩ := szEntryS_some a4 r2 g3 (by omega) (by omega)
  rw [e3, dbind_s]
  rcases q3 with q3 | ⟨s3, p3, q3⟩
  · exact ⟨-1, by rw [ilt_t q3, dif_t], .inl (by omega)⟩
  rw [ilt_f (by omega), dif_f]
  obtain ⟨r4, e4, q4⟩ := szIntS_some a5 r3 g4 (by omega) (by omega)
  rw [e4, dbind_s]
  rcases q4 with q4 | ⟨s4, p4, q4⟩
  · exact ⟨-1, by rw [ilt_t q4, dif_t], .inl (by omega)⟩
  rw [ilt_f (by omega), dif_f]
  exact ⟨_, rfl, .inr ⟨⟨s0, s1, s2, s3, s4⟩, by omega, by omega⟩⟩
def S_Base : (List (Bool × (List Int))) × (List (Int × (List Int))) × Int × Bool × Int × (List (Bool × Bool × (List (Int × Int × Int × Int × Int)))) × Int × Int × Int × Int × Int × Int × (List Int) × Int × Int × (List Int) × (List (Int × Int × Int × Int × Int)) × (List (Int × Int × Int × Int × Int)) × (List (Int × Int × Int × Int × Int)) × (List Int) → Prop := fun (a0, a1, a2, a3, a4, a5, a6, a7, a8, a9, a10, a11, a12, a13, a14, a15, a16, a17, a18, a19) => S_Disk (a0, a1, a2, a3) ∧ S_Book (a4, a5) ∧ S_IntS a12 ∧ S_Vac (a14, a15, a16, a17, a18, a19)
def G_Base : (List (Bool × (List Int))) × (List (Int × (List Int))) × Int × Bool × Int × (List (Bool × Bool × (List (Int × Int × Int × Int × Int)))) × Int × Int × Int × Int × Int × Int × (List Int) × Int × Int × (List Int) × (List (Int × Int × Int × Int × Int)) × (List (Int × Int × Int × Int × Int)) × (List (Int × Int × Int × Int × Int)) × (List Int) → Prop := fun (a0, a1, a2, a3, a4, a5, a6, a7, a8, a9, a10, a11, a12, a13, a14, a15, a16, a17, a18, a19) => G_Disk (a0, a1, a2, a3) ∧ G_Book (a4, a5) ∧ G_IntS a12 ∧ G_Vac (a14, a15, a16, a17, a18, a19)
theorem toBase_eq (x : (List (Bool × (List Int))) × (List (Int × (List Int))) × Int × Bool × Int × (List (Bool × Bool × (List (Int × Int × Int × Int × Int)))) × Int × Int × Int × Int × Int × Int × (List Int) × Int × Int × (List Int) × (List (Int × Int × Int × Int × Int)) × (List (Int × Int × Int × Int × Int)) × (List (Int × Int × Int × Int × Int)) × (List Int)) (h : S_Base x) : laws_toBase x = some x := by
  obtain ⟨a0, a1, a2, a3, a4, a5, a6, a7, a8, a9, a10, a11, a12, a13, a14, a15, a16, a17, a18, a19⟩ := x
  have h' : S_Disk (a0, a1, a2, a3) ∧ S_Book (a4, a5) ∧ S_IntS a12 ∧ S_Vac (a14, a15, a16, a17, a18, a19) := h
  obtain ⟨h0, h1, h2, h3⟩ := h'
  simp only [laws_toBase, toDisk_eq _ h0, toBook_eq _ h1, toIntS_eq _ h2, toVac_eq _ h3, toHead_eq, dbind_s]
theorem eqBase_self (x : (List (Bool × (List Int))) × (List (Int × (List Int))) × Int × Bool × Int × (List (Bool × Bool × (List (Int × Int × Int × Int × Int)))) × Int × Int × Int × Int × Int × Int × (List Int) × Int × Int × (List Int) × (List (Int × Int × Int × Int × Int)) × (List (Int × Int × Int × Int × Int)) × (List (Int × Int × Int × Int × Int)) × (List Int)) (h : S_Base x) : laws_eqBase (x, x) = some true := by
  obtain ⟨a0, a1, a2, a3, a4, a5, a6, a7, a8, a9, a10, a11, a12, a13, a14, a15, a16, a17, a18, a19⟩ := x
  have h' : S_Disk (a0, a1, a2, a3) ∧ S_Book (a4, a5) ∧ S_IntS a12 ∧ S_Vac (a14, a15, a16, a17, a18, a19) := h
  obtain ⟨h0, h1, h2, h3⟩ := h'
  simp only [laws_eqBase, ine_f, dnes_self, dneb_self, eqDisk_self _ h0, eqBook_self _ h1, eqIntS_self _ h2, eqVac_self _ h3, eqHead_self, dbind_s, dnot_t, dif_f]
theorem szBase_some (x : (List (Bool × (List Int))) × (List (Int × (List Int))) × Int × Bool × Int × (List (Bool × Bool × (List (Int × Int × Int × Int × Int)))) × Int × Int × Int × Int × Int × Int × (List Int) × Int × Int × (List Int) × (List (Int × Int × Int × Int × Int)) × (List (Int × Int × Int × Int × Int)) × (List (Int × Int × Int × Int × Int)) × (List Int)) (k : Int) (h : G_Base x) (h0 : 0 ≤ k) (h1 : k ≤ 1048576) : ∃ r, laws_szBase (x, k) = some r ∧ (r < 0 ∨ S_Base x ∧ 0 ≤ r ∧ r ≤ k) := by
  obtain ⟨a0, a1, a2, a3, a4, a5, a6, a7, a8, a9, a10, a11, a12, a13, a14, a15, a16, a17, a18, a19⟩ := x
  have h' : G_Disk (a0, a1, a2, a3) ∧ G_Book (a4, a5) ∧ G_IntS a12 ∧ G_Vac (a14, a15, a16, a17, a18, a19) := h
  obtain ⟨g0, g1, g2, g3⟩ := h'
  simp only [laws_szBase]
  obtain ⟨r0, e0, q0⟩ := szDisk_some (a0, a1, a2, a3) k g0 (by omega) (by omega)
  rw [e0, dbind_s]
  rcases q0 with q0 | ⟨s0, p0, q0⟩
  · exact ⟨-1, by rw [ilt_t q0, dif_t], .inl (by omega)⟩
  rw [ilt_f (by omega), dif_f]
  obtain ⟨r1, e1, q1⟩ := szBook_some (a4, a5) r0 g1 (by omega) (by omega)
  rw [e1, dbind_s]
  rcases q1 with q1 | ⟨s1, p1, q1⟩
  · exact ⟨-1, by rw [ilt_t q1, dif_t], .inl (by omega)⟩
  rw [ilt_f (by omega), dif_f]
  obtain ⟨r2, e2, q2⟩ := szIntS_some a12 r1 g2 (by omega) (by omega)
  rw [e2, dbind_s]
  rcases q2 with q2 | ⟨s2, p2, q2⟩
  · exact ⟨-1, by rw [ilt_t q2, dif_t], .inl (by omega)⟩
  rw [ilt_f (by omega), dif_f]
  obtain ⟨r3, e3, q3⟩ := szVac_some (a14, a15, a16, a17, a18, a19) r2 g3 (by omega) (by omega)
  rw [e3, dbind_s]
  rcases q3 with q3 | ⟨s3, p3, q3⟩
  · exact ⟨-1, by rw [ilt_t q3, dif_t], .inl (by omega)⟩
  rw [ilt_f (by omega), dif_f]
  exact ⟨_, rfl, .inr ⟨⟨s0, s1, s2, s3⟩, by omega, by omega⟩⟩
end Rig.Pure
