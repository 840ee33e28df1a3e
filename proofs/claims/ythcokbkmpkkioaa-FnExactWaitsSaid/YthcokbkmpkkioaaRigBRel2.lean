/- Part of Rig, a reflective evaluator of this project's own: a function's code, run over typed data by Lean's kernel, gives its contract. No condition. -/
import Derived.Test.YthcokbkmpkkioaaRigBRel
set_option linter.unusedVariables false
set_option linter.unusedSimpArgs false
noncomputable section
namespace Rig
open Go

theorem look_cons {α : Type} (d : α) (i : Nat) (x : α) (r : List (Nat × α)) (j : Nat) : look d ((i, x) :: r) j = if i = j then x else look d r j := by
  simp only [look]
  by_cases h : i = j
  · subst h; simp [sel]
  · have : Nat.beq i j = false := by
      cases hb : Nat.beq i j with
      | false => rfl
      | true => exact absurd (Nat.eq_of_beq_eq_true hb) h
    simp [this, sel, h]
theorem St.obj_new (s : St) (o : Obj) (j : Nat) : (s.new o).obj j = if s.n = j then o else s.obj j := look_cons _ _ _ _ _
theorem St.obj_setObj (s : St) (i : Nat) (o : Obj) (j : Nat) : (s.setObj i o).obj j = if i = j then o else s.obj j := look_cons _ _ _ _ _
theorem St.tmp_eq (s : St) (i : Nat) : s.tmp i = if i < s.N then look .undef s.tmps i else .undef := by
  unfold St.tmp
  by_cases h : i < s.N
  · simp [Nat.blt_eq.mpr h, sel, h]
  · have : Nat.blt i s.N = false := by
      cases hb : Nat.blt i s.N with
      | false => rfl
      | true => exact absurd (Nat.blt_eq.mp hb) h
    simp [this, sel, h]

def upd (m : Nat → Loc) (i : Nat) (l : Loc) : Nat → Loc := fun o => if i = o then l else m o
theorem upd_same (m : Nat → Loc) (i : Nat) (l : Loc) : upd m i l i = l := by simp [upd]
theorem upd_ne (m : Nat → Loc) {i o : Nat} (l : Loc) (h : i ≠ o) : upd m i l o = m o := by simp [upd, h]

section
variable {w0 w w' : World} {F0 : Own} {s : St} {m : Nat → Loc} {ok : Nat → Prop} {a : Act}

theorem OR.lt {n : Nat} {loc : Loc} {o : Obj} (h : OR w ok m n loc o) (hd : o ≠ .dead) {b : Nat} (hb : loc.addr.map (·.block) = some b) : b < w.heap.size := by
  cases o with
  | dead => exact absurd rfl hd
  | box cs =>
    obtain ⟨b', vs, t, fr, e, hh, _⟩ := h
    rw [e] at hb
    simp at hb
    subst hb
    exact (Array.getElem?_eq_some_iff.1 hh).1
  | arr row l fz =>
    obtain ⟨_, _, _, h4⟩ := h
    rcases e : loc.addr with _ | ad
    · rw [e] at hb; simp at hb
    · rw [e] at hb h4
      simp at hb
      subst hb
      obtain ⟨_, _, vs, t, fr, hh, _⟩ := h4
      exact (Array.getElem?_eq_some_iff.1 hh).1
  | map g =>
    obtain ⟨b', es, clk, e, hh, _⟩ := h
    rw [e] at hb
    simp at hb
    subst hb
    exact (Array.getElem?_eq_some_iff.1 hh).1
  | fbox row x =>
    obtain ⟨b', e, _, hlt, _⟩ := h
    rw [e] at hb
    simp at hb
    subst hb
    exact hlt
theorem ex.ne_dead {o b : Nat} (h : ex s m o b) : s.obj o ≠ .dead := by
  intro e
  have := h.2
  rw [e] at this
  exact this
theorem Rel.exlt (R : Rel w0 F0 s m ok a w) {o b : Nat} (h : ex s m o b) : b < w.heap.size := (R.objs o).lt h.ne_dead h.1

/-- the world has grown, or turned in blocks of nobody's -/
theorem Rel.world (R : Rel w0 F0 s m ok a w) (hok : ∀ b, ok b → w'.heap[b]? = w.heap[b]?)
    (hb : ∀ o b, s.obj o ≠ .dead → (m o).addr.map (·.block) = some b → w'.heap[b]? = w.heap[b]?)
    (hg : Grew F0.F w0 w') (hsz : w.heap.size ≤ w'.heap.size) : Rel w0 F0 s m ok a w' where
  defers := R.defers
  size := R.size
  tmps := fun i hi => (R.tmps i hi).keep hok (fun _ h => h) (Nat.le_refl _) (fun _ _ => rfl)
  objs := fun o => by
    by_cases hd : s.obj o = .dead
    · rw [hd]; trivial
    · exact (R.objs o).keep hok (fun _ h => h) (Nat.le_refl _) (fun _ _ => rfl) (fun b hb' => hb o b hd hb')
  live := R.live
  apart := R.apart
  exok := R.exok
  okold := fun b h => Nat.lt_of_lt_of_le (R.okold b h) hsz
  okin := R.okin
  okup := R.okup
  grew := hg
theorem Rel.grow (R : Rel w0 F0 s m ok a w) (hg : Grew (fun _ => False) w w') : Rel w0 F0 s m ok a w' :=
  R.world (fun b h => hg.block b (R.okold b h) (fun h => h)) (fun o b hd hb => hg.block b ((R.objs o).lt hd hb) (fun h => h))
    (R.grew.trans hg (fun _ _ h => h.elim)) hg.size

/-- a new object -/
theorem Rel.new (R : Rel w0 F0 s m ok a w) (o : Obj) (loc : Loc) (ho : OR w ok (upd m s.n loc) (s.n + 1) loc o)
    (hx : ∀ b, loc.addr.map (·.block) = some b → o.excl → ¬ ok b ∧ (w0.heap.size ≤ b ∨ F0 b) ∧ ∀ o', ¬ ex s m o' b) :
    Rel w0 F0 (s.new o) (upd m s.n loc) ok a w where
  defers := R.defers
  size := R.size
  tmps := fun i hi => (R.tmps i hi).keep (fun _ _ => rfl) (fun _ h => h) (Nat.le_succ _) (fun o ho => upd_ne m loc (by omega))
  objs := fun j => by
    rw [St.obj_new]
    by_cases hj : s.n = j
    · subst hj
      rw [if_pos rfl, upd_same]
      exact ho
    · rw [if_neg hj, upd_ne m loc hj]
      exact (R.objs j).keep (fun _ _ => rfl) (fun _ h => h) (Nat.le_succ _) (fun o ho => upd_ne m loc (by omega)) (fun _ _ => rfl)
  live := fun j hj => by
    have hj' : s.n + 1 ≤ j := hj
    rw [St.obj_new, if_neg (by omega)]
    exact R.live j (by omega)
  apart := fun i j b hi hj => by
    obtain ⟨h1, h2⟩ := hi
    obtain ⟨h3, h4⟩ := hj
    rw [St.obj_new] at h2 h4
    by_cases hi' : s.n = i <;> by_cases hj' : s.n = j
    · omega
    · subst hi'
      rw [upd_same] at h1
      rw [if_pos rfl] at h2
      rw [upd_ne m loc hj'] at h3
      rw [if_neg hj'] at h4
      exact absurd ⟨h3, h4⟩ ((hx b h1 h2).2.2 j)
    · subst hj'
      rw [upd_same] at h3
      rw [if_pos rfl] at h4
      rw [upd_ne m loc hi'] at h1
      rw [if_neg hi'] at h2
      exact absurd ⟨h1, h2⟩ ((hx b h3 h4).2.2 i)
    · rw [upd_ne m loc hi'] at h1
      rw [upd_ne m loc hj'] at h3
      rw [if_neg hi'] at h2
      rw [if_neg hj'] at h4
      exact R.apart i j b ⟨h1, h2⟩ ⟨h3, h4⟩
  exok := fun i b hi => by
    obtain ⟨h1, h2⟩ := hi
    rw [St.obj_new] at h2
    by_cases hi' : s.n = i
    · subst hi'
      rw [upd_same] at h1
      rw [if_pos rfl] at h2
      exact ⟨(hx b h1 h2).1, (hx b h1 h2).2.1⟩
    · rw [upd_ne m loc hi'] at h1
      rw [if_neg hi'] at h2
      exact R.exok i b ⟨h1, h2⟩
  okold := R.okold
  okin := R.okin
  okup := R.okup
  grew := R.grew

/-- an object takes another's place: it has no block that the old one didn't have -/
theorem Rel.setObj (R : Rel w0 F0 s m ok a w) (i : Nat) (o : Obj) (hd : s.n ≤ i → o = .dead) (ho : OR w ok m s.n (m i) o) (hx : ∀ b, ex (s.setObj i o) m i b → ex s m i b) :
    Rel w0 F0 (s.setObj i o) m ok a w where
  defers := R.defers
  size := R.size
  tmps := R.tmps
  objs := fun j => by
    rw [St.obj_setObj]
    by_cases hj : i = j
    · subst hj; rw [if_pos rfl]; exact ho
    · rw [if_neg hj]; exact R.objs j
  live := fun j hj => by
    rw [St.obj_setObj]
    by_cases hij : i = j
    · subst hij; rw [if_pos rfl]; exact hd hj
    · rw [if_neg hij]; exact R.live j hj
  apart := fun j k b hj hk => by
    have h : ∀ j, ex (s.setObj i o) m j b → ex s m j b := fun j hj => by
      by_cases hij : i = j
      · subst hij; exact hx b hj
      · obtain ⟨h1, h2⟩ := hj
        rw [St.obj_setObj, if_neg hij] at h2
        exact ⟨h1, h2⟩
    exact R.apart j k b (h j hj) (h k hk)
  exok := fun j b hj => by
    by_cases hij : i = j
    · subst hij; exact R.exok i b (hx b hj)
    · obtain ⟨h1, h2⟩ := hj
      rw [St.obj_setObj, if_neg hij] at h2
      exact R.exok j b ⟨h1, h2⟩
  okold := R.okold
  okin := R.okin
  okup := R.okup
  grew := R.grew

/-- a row is frozen -/
theorem Rel.freeze (R : Rel w0 F0 s m ok a w) (i : Nat) {row : List CK} {l : List (Row row)} {fz : Bool} (hi : s.obj i = .arr row l fz) :
    Rel w0 F0 (s.setObj i (.arr row l true)) m (fun b => ok b ∨ (m i).addr.map (·.block) = some b) a w where
  defers := R.defers
  size := R.size
  tmps := fun j hj => (R.tmps j hj).keep (fun _ _ => rfl) (fun _ h => .inl h) (Nat.le_refl _) (fun _ _ => rfl)
  objs := fun j => by
    rw [St.obj_setObj]
    by_cases hj : i = j
    · subst hj
      rw [if_pos rfl]
      have h := (R.objs i).keep (w' := w) (ok' := fun b => ok b ∨ (m i).addr.map (·.block) = some b) (fun _ _ => rfl) (fun _ h => .inl h) (Nat.le_refl _) (fun _ _ => rfl) (fun _ _ => rfl)
      rw [hi] at h
      obtain ⟨h1, h2, h3, h4⟩ := h
      refine ⟨h1, h2, h3, ?_⟩
      rcases e : (m i).addr with _ | ad
      · simp only [e] at h4 ⊢; exact h4
      · simp only [e] at h4 ⊢
        exact ⟨h4.1, fun _ => .inr (by simp), h4.2.2⟩
    · rw [if_neg hj]
      exact (R.objs j).keep (fun _ _ => rfl) (fun _ h => .inl h) (Nat.le_refl _) (fun _ _ => rfl) (fun _ _ => rfl)
  live := fun j hj => by
    rw [St.obj_setObj]
    by_cases hij : i = j
    · subst hij
      have := R.live i hj
      rw [hi] at this
      cases this
    · rw [if_neg hij]; exact R.live j hj
  apart := fun j k b hj hk => by
    have h : ∀ j, ex (s.setObj i (.arr row l true)) m j b → ex s m j b := fun j hj => by
      obtain ⟨h1, h2⟩ := hj
      by_cases hij : i = j
      · subst hij
        rw [St.obj_setObj, if_pos rfl] at h2
        exact h2.elim
      · rw [St.obj_setObj, if_neg hij] at h2
        exact ⟨h1, h2⟩
    exact R.apart j k b (h j hj) (h k hk)
  exok := fun j b hj => by
    obtain ⟨h1, h2⟩ := hj
    by_cases hij : i = j
    · subst hij
      rw [St.obj_setObj, if_pos rfl] at h2
      exact h2.elim
    · rw [St.obj_setObj, if_neg hij] at h2
      have hx : ex s m j b := ⟨h1, h2⟩
      refine ⟨fun h => ?_, (R.exok j b hx).2⟩
      rcases h with h | h
      · exact (R.exok j b hx).1 h
      · cases fz with
        | true =>
          have ho := R.objs i
          rw [hi] at ho
          obtain ⟨_, _, _, h4⟩ := ho
          rcases e : (m i).addr with _ | ad
          · rw [e] at h; simp at h
          · simp only [e] at h4 h
            simp at h
            exact (R.exok j b hx).1 (h ▸ h4.2.1 (by trivial))
        | false => exact hij (R.apart i j b ⟨h, by rw [hi]; trivial⟩ hx)
  okold := fun b hb => by
    rcases hb with hb | hb
    · exact R.okold b hb
    · exact (R.objs i).lt (by rw [hi]; simp) hb
  okin := fun b hb => by
    rcases hb with hb | hb
    · exact R.okin b hb
    · cases fz with
      | true =>
        have ho := R.objs i
        rw [hi] at ho
        obtain ⟨_, _, _, h4⟩ := ho
        rcases e : (m i).addr with _ | ad
        · rw [e] at hb; simp at hb
        · simp only [e] at h4 hb
          simp at hb
          exact R.okin b (hb ▸ h4.2.1 (by trivial))
      | false => exact .inr ((R.exok i b ⟨hb, by rw [hi]; trivial⟩).2.symm)
  okup := fun b hb => .inl (R.okup b hb)
  grew := R.grew

/-- a slot takes a value -/
theorem Rel.put (R : Rel w0 F0 s m ok a w) {v : V} {x : Value} (h : VR w ok m s.n v x) (d : Option Nat) : Rel w0 F0 (Rig.put s d v) m ok (a.put d x) w := by
  cases d with
  | none => exact R
  | some d =>
    refine { defers := R.defers, size := ?_, tmps := ?_, objs := R.objs, live := R.live, apart := R.apart, exok := R.exok, okold := R.okold, okin := R.okin, okup := R.okup, grew := R.grew }
    · show (a.tmps.setIfInBounds d x).size = s.N
      rw [Array.size_setIfInBounds]; exact R.size
    · intro i hi
      have hi' : i < s.N := hi
      show VR w ok m s.n (look .undef ((d, v) :: s.tmps) i) ((a.tmps.setIfInBounds d x).getD i undef)
      rw [look_cons]
      by_cases hd : d = i
      · subst hd
        rw [if_pos rfl]
        have : (a.tmps.setIfInBounds d x).getD d undef = x := by
          have : d < a.tmps.size := by rw [R.size]; exact hi'
          simp [Array.getD, this]
        rw [this]; exact h
      · rw [if_neg hd]
        have : (a.tmps.setIfInBounds d x).getD i undef = a.tmps.getD i undef := by
          simp only [Array.getD_eq_getD_getElem?]
          rw [Array.getElem?_setIfInBounds_ne hd]
        rw [this]; exact R.tmps i hi'
/-- operands -/
theorem Rel.eval (R : Rel w0 F0 s m ok a w) (x : Operand) : VR w ok m s.n (Rig.eval s x) (a.eval x) := by
  cases x with
  | tmp t =>
    show VR w ok m s.n (s.tmp t) _
    rw [St.tmp_eq]
    by_cases h : t < s.N
    · rw [if_pos h]; exact R.tmps t h
    · rw [if_neg h]; trivial
  | const v =>
    cases v <;> first | exact rfl | trivial | skip
    case slice A n c => cases A <;> cases n <;> cases c <;> first | exact rfl | trivial
  | global g => trivial
  | func f => trivial
end
end Rig
