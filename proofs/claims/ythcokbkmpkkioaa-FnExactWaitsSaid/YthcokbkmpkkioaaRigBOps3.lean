/- Part of Rig, a reflective evaluator of this project's own: a function's code, run over typed data by Lean's kernel, gives its contract. No condition. -/
import Derived.Test.YthcokbkmpkkioaaRigBOps2
set_option linter.unusedVariables false
set_option linter.unusedSimpArgs false
namespace Rig
open Go
section
variable {P : Program} {w0 w w' : World} {F0 : Own} {s s' : St} {m : Nat → Loc} {ok : Nat → Prop} {a : Act} {o : Oper} {next : Act → World → Prop} {Q : Exit → Act → World → Prop}
variable {Θ : Tab} {Γ : Env} {ρ : Type} {k : V → St → Option ρ} {r : ρ}

theorem run_storeCells_clean (P : Program) (g o : Nat) (t : TypeId) (fz : Nat × Nat) : ∀ (vs : List Value) (i : Nat) (cur : Array Value) (w : World), w.heap[g]? = some (.cells cur t fz) → Clean cur fz → o + i + vs.length ≤ cur.size → (∀ v ∈ vs, v.oneCell' = true) →
    (storeCells ⟨g, o, none⟩ vs i).run P w = .ok () (w.setRow g (cur.toList.take (o + i) ++ vs ++ cur.toList.drop (o + i + vs.length)).toArray)
  | [], i, cur, w, hg, _, _, _ => by
    simp only [storeCells, List.append_nil, List.length_nil, Nat.add_zero, List.take_append_drop, Array.toArray_toList]
    rw [setRow_self w g cur t fz hg]
    rfl
  | v :: rest, i, cur, w, hg, hfz, hl, h1 => by
    have hi : o + i < cur.size := by simp at hl; omega
    have hcell : w.cell? ⟨g, o + i, none⟩ = some cur[o + i] := by simp [World.cell?, hg, hi]
    have hfro : w.frozen? ⟨g, o + i, none⟩ = false := by
      obtain ⟨lo, hi'⟩ := fz
      simp only [World.frozen?, hg]
      have := hfz (o + i) hi
      simpa using this
    have hst : (store ((⟨g, o, none⟩ : Addr).add i) v).run P w = .ok () (w.setRow g (cur.setIfInBounds (o + i) v)) := by
      rw [add_none, run_store P w _ v _ (h1 v (by simp)), hcell]
      simp [hfro, setCell_eq_setRow w g (o + i) cur t fz v hg]
    have ih := run_storeCells_clean P g o t fz rest (i + 1) (cur.setIfInBounds (o + i) v) (w.setRow g (cur.setIfInBounds (o + i) v)) (setRow_heap w g cur _ t _ hg) (by intro j hj; exact hfz j (by simpa using hj)) (by simp at hl ⊢; omega) (fun x hx => h1 x (by simp [hx]))
    simp only [storeCells, Sem.run_bind, hst, Result.andThen_ok, ih, setRow_setRow]
    congr 3
    have e := list_seg_step cur.toList (o + i) v rest (by simp at hl ⊢; omega)
    simpa [Array.toList_setIfInBounds, Nat.add_assoc] using e

theorem run_storeVar_clean {t : Nat} {ti : TyI} (ht : TyOk P t ti) (g off : Nat) (ty : TypeId) (fz : Nat × Nat) (cur : Array Value) (hg : w.heap[g]? = some (.cells cur ty fz)) (hc : Clean cur fz)
    (x : Value) (hx : x.cells.size = ti.cells.length) (hl : off + x.cells.size ≤ cur.size) (h1 : ∀ v ∈ x.cells.toList, v.oneCell' = true) :
    (storeVar t ⟨g, off, none⟩ x).run P w = .ok () (w.setRow g (cur.toList.take off ++ x.cells.toList ++ cur.toList.drop (off + x.cells.size)).toArray) := by
  unfold storeVar
  rw [Sem.run_bind, run_size ht w]
  simp only [Result.andThen_ok]
  rw [if_neg (by omega)]
  have := run_storeCells_clean P g off ty fz x.cells.toList 0 cur w hg hc (by simpa using hl) h1
  simpa using this

/-- only what is looked up counts -/
theorem Rel.same (R : Rel w0 F0 s m ok a w) (hN : s'.N = s.N) (hn : s'.n = s.n) (ht : s'.tmps = s.tmps) (ho : ∀ o, s'.obj o = s.obj o) : Rel w0 F0 s' m ok a w where
  defers := R.defers
  size := by rw [hN]; exact R.size
  tmps := fun i hi => by rw [hN] at hi; rw [hn, ht]; exact R.tmps i hi
  objs := fun j => by rw [ho, hn]; exact R.objs j
  live := fun j hj => by rw [hn] at hj; rw [ho]; exact R.live j hj
  apart := fun i j b hi hj => R.apart i j b ⟨hi.1, by rw [← ho]; exact hi.2⟩ ⟨hj.1, by rw [← ho]; exact hj.2⟩
  exok := fun i b hi => R.exok i b ⟨hi.1, by rw [← ho]; exact hi.2⟩
  okold := R.okold
  okin := R.okin
  okup := R.okup
  grew := R.grew

/-- an object that was given away comes back -/
theorem Rel.revive (R : Rel w0 F0 s m ok a w) (i : Nat) (hi : i < s.n) (hd : s.obj i = .dead) (ob : Obj) (loc : Loc) (hm : loc = m i) (ho : OR w ok m s.n loc ob)
    (hx : ∀ b, loc.addr.map (·.block) = some b → ob.excl → ¬ ok b ∧ (w0.heap.size ≤ b ∨ F0 b) ∧ ∀ o', ¬ ex s m o' b) : Rel w0 F0 (s.setObj i ob) m ok a w where
  defers := R.defers
  size := R.size
  tmps := R.tmps
  objs := fun j => by
    rw [St.obj_setObj]
    by_cases hj : i = j
    · subst hj; rw [if_pos rfl, ← hm]; exact ho
    · rw [if_neg hj]; exact R.objs j
  live := fun j hj => by
    rw [St.obj_setObj]
    by_cases hij : i = j
    · have : s.n ≤ j := hj
      omega
    · rw [if_neg hij]; exact R.live j hj
  apart := fun j l b hj hl => by
    obtain ⟨h1, h2⟩ := hj
    obtain ⟨h3, h4⟩ := hl
    rw [St.obj_setObj] at h2 h4
    by_cases hij : i = j <;> by_cases hil : i = l
    · omega
    · subst hij
      rw [if_pos rfl] at h2
      rw [if_neg hil] at h4
      exact absurd ⟨h3, h4⟩ ((hx b (hm ▸ h1) h2).2.2 l)
    · subst hil
      rw [if_pos rfl] at h4
      rw [if_neg hij] at h2
      exact absurd ⟨h1, h2⟩ ((hx b (hm ▸ h3) h4).2.2 j)
    · rw [if_neg hij] at h2
      rw [if_neg hil] at h4
      exact R.apart j l b ⟨h1, h2⟩ ⟨h3, h4⟩
  exok := fun j b hj => by
    obtain ⟨h1, h2⟩ := hj
    rw [St.obj_setObj] at h2
    by_cases hij : i = j
    · subst hij
      rw [if_pos rfl] at h2
      exact ⟨(hx b (hm ▸ h1) h2).1, (hx b (hm ▸ h1) h2).2.1⟩
    · rw [if_neg hij] at h2
      exact R.exok j b ⟨h1, h2⟩
  okold := R.okold
  okin := R.okin
  okup := R.okup
  grew := R.grew

theorem OR.block_cases (R : Rel w0 F0 s m ok a w) {i b : Nat} (hd : s.obj i ≠ .dead) (hb : (m i).addr.map (·.block) = some b) : ex s m i b ∨ ok b := by
  have ho := R.objs i
  cases e : s.obj i with
  | dead => exact absurd e hd
  | box cs => exact .inl ⟨hb, by rw [e]; trivial⟩
  | map g => exact .inl ⟨hb, by rw [e]; trivial⟩
  | fbox row x =>
    rw [e] at ho
    obtain ⟨b', e2, hob, _⟩ := ho
    rw [e2] at hb
    simp at hb
    subst hb
    exact .inr hob
  | arr row l fz =>
    cases fz with
    | false => exact .inl ⟨hb, by rw [e]; trivial⟩
    | true =>
      rw [e] at ho
      obtain ⟨_, _, _, h4⟩ := ho
      rcases e2 : (m i).addr with _ | ad
      · rw [e2] at hb; simp at hb
      · rw [e2] at hb
        simp only [e2] at h4
        simp at hb
        subst hb
        exact .inr (h4.2.1 (by trivial))

theorem Grew.setRow (F : Nat → Prop) (w : World) (b : Nat) (cs : Array Value) (h : F b) : Grew F w (w.setRow b cs) :=
  ⟨rfl, rfl, rfl, by simp [World.setRow], fun k hk hn => setRow_other w b k cs (fun e => hn (e ▸ h))⟩

/-- what object i has for itself is written -/
theorem Rel.write (R : Rel w0 F0 s m ok a w) (i b : Nat) (hx : ex s m i b) (cs : Array Value) : Rel w0 F0 (s.setObj i .dead) m ok a (w.setRow b cs) := by
  have R1 : Rel w0 F0 (s.setObj i .dead) m ok a w := R.setObj i .dead (fun _ => rfl) trivial (fun b' h => by
    have := h.2
    rw [St.obj_setObj, if_pos rfl] at this
    exact this.elim)
  have hok := (R.exok i b hx).1
  refine R1.world (fun b' hb' => setRow_other w b b' cs (fun e => hok (e ▸ hb'))) (fun j b' hd hb' => setRow_other w b b' cs (fun e => ?_)) ?_ (by simp [World.setRow])
  · subst e
    rw [St.obj_setObj] at hd
    by_cases hij : i = j
    · rw [if_pos hij] at hd; exact hd rfl
    · rw [if_neg hij] at hd
      rcases OR.block_cases R hd hb' with h | h
      · exact hij (R.apart i j b' hx h)
      · exact hok h
  · exact R.grew.trans (Grew.setRow (fun j => j = b) w b cs rfl) (fun j hj hjb => by
      subst hjb
      rcases (R.exok i j hx).2 with h | h
      · omega
      · exact h)
theorem Rel.nex (R : Rel w0 F0 s m ok a w) {i b : Nat} (hx : ex s m i b) (cs : Array Value) : ∀ o', ¬ ex (s.setObj i .dead) m o' b := fun o' h => by
  obtain ⟨h1, h2⟩ := h
  rw [St.obj_setObj] at h2
  by_cases hij : i = o'
  · rw [if_pos hij] at h2; exact h2
  · rw [if_neg hij] at h2; exact hij (R.apart i o' b hx ⟨h1, h2⟩)

theorem ones_one : ∀ {vs : List V}, ones vs = true → ∀ v ∈ vs, v.one = true
  | [], _, _, h => by cases h
  | v :: vs, h, u, hu => by
    simp only [ones] at h
    split at h
    · rename_i h1
      rcases List.mem_cons.1 hu with rfl | hu
      · exact h1
      · exact ones_one h u hu
    · cases h
theorem one_cell {n : Nat} {v : V} {x : Value} (h1 : v.one = true) (h : VR1 w ok m n v x) : x.oneCell' = true := by
  cases v <;> first | (simp [V.one] at h1; done) | skip
  case int => rw [h]; rfl
  case bool => rw [h]; rfl
  case lit => rw [h]; rfl
  case str => rw [h]; rfl
  case nil => rw [h]; rfl
  case ro row l => obtain ⟨A, c, e, _⟩ := h; rw [e]; rfl
  case own o => rw [h.2]; rfl
  case ptr o c => obtain ⟨_, ad, _, e⟩ := h; rw [e]; rfl
  case rp => obtain ⟨ad, _, _, _, _, e⟩ := h; rw [e]; rfl
  case op => obtain ⟨_, ad, _, _, _, e⟩ := h; rw [e]; rfl
  case clo => obtain ⟨cs, e, _⟩ := h; rw [e]; rfl
  case map => obtain ⟨_, b, _, e⟩ := h; rw [e]; rfl
theorem All2.ones {n : Nat} {vs : List V} {cs : List Value} (h : All2 (VR1 w ok m n) vs cs) : Rig.ones vs = true → ∀ u ∈ cs, u.oneCell' = true := by
  induction h with
  | nil => intro _ u hu; cases hu
  | cons h ht ih =>
    intro h1 u hu
    have h2 := ones_one h1
    rcases List.mem_cons.1 hu with rfl | hu
    · exact one_cell (h2 _ (by simp)) h
    · refine ih ?_ u hu
      simp only [Rig.ones] at h1
      split at h1
      · exact h1
      · cases h1
/-- a value's cells -/
theorem VR.cells {n : Nat} {v : V} {x : Value} (h : VR w ok m n v x) (h1 : ones v.cells = true) : All2 (VR1 w ok m n) v.cells x.cells.toList := by
  cases v with
  | tup vs => simp [V.cells, ones, V.one] at h1
  | agg vs =>
    obtain ⟨cs, e, h⟩ := h
    subst e
    simpa [V.cells, Value.cells] using h
  | undef => simp [V.cells, ones, V.one] at h1
  | _ =>
    simp only [VR, VRa] at h
    have h' := h
    have h2 := one_cell (by rfl) h'
    have : x.cells = #[x] := by cases x <;> first | rfl | (simp [Value.oneCell'] at h2)
    rw [this]
    exact .cons h' .nil
end
end Rig
