/- Part of Rig, a reflective evaluator of this project's own: a function's code, run over typed data by Lean's kernel, gives its contract. No condition. -/
import Derived.Test.YthcokbkmpkkioaaRigBDrawn
set_option linter.unusedVariables false
set_option linter.unusedSimpArgs false
namespace Rig
open Go
section
variable {P : Program} {w0 w w' : World} {F0 : Own} {s s' : St} {m m' : Nat → Loc} {ok ok' : Nat → Prop} {a : Act} {Q : Exit → Act → World → Prop}
variable {Θ : Tab} {Γ : Env} {ρ : Type} {r : ρ}

theorem All2.impm2 {α β : Type} {R S : α → β → Prop} {xs : List α} {ys : List β} (h : All2 R xs ys) : (∀ x ∈ xs, ∀ y, R x y → S x y) → All2 S xs ys := by
  induction h with
  | nil => intro _; exact .nil
  | cons h _ ih => intro hi; exact .cons (hi _ (by simp) _ h) (ih fun x hx => hi x (by simp [hx]))
/-- what the slots hold -/
def SlotsR (w : World) (ok : Nat → Prop) (base : Nat → Loc) (tm : Nat → Value) : (slots : Slots) → slots.T → List Nat → Prop
  | [], _, F => F = []
  | (i, .val c own) :: r, x, F => ∃ F1 F2, F = F1 ++ F2 ∧ TR w ok c own (sfst (i := i) (.val c own) r x) (tm i) F1 ∧ SlotsR w ok base tm r (ssnd (i := i) (.val c own) r x) F2
  | (i, .box cells) :: r, x, F => ∃ b vs t fr F1 F2, tm i = .pointer (some ⟨b, 0, none⟩) ∧ w.heap[b]? = some (.cells vs t fr) ∧ Clean vs fr ∧ TRs w ok cells (sfst (i := i) (.box cells) r x) vs.toList F1 ∧ F = (b :: F1) ++ F2 ∧ SlotsR w ok base tm r (ssnd (i := i) (.box cells) r x) F2
  | (i, .par j cells) :: r, x, F => ∃ b vs t fr F1 F2, tm i = .pointer (some ⟨b, 0, none⟩) ∧ (base j).addr = some ⟨b, 0, none⟩ ∧ w.heap[b]? = some (.cells vs t fr) ∧ Clean vs fr ∧ TRs w ok cells (sfst (i := i) (.par j cells) r x) vs.toList F1 ∧ F = (b :: F1) ++ F2 ∧ SlotsR w ok base tm r (ssnd (i := i) (.par j cells) r x) F2
  | (i, .fpar j row) :: r, x, F => ∃ b, tm i = .pointer (some ⟨b, 0, none⟩) ∧ (base j).addr = some ⟨b, 0, none⟩ ∧ ok b ∧ b < w.heap.size ∧ RowsAt w ok row [sfst (i := i) (.fpar j row) r x] ⟨b, 0, none⟩ ∧ SlotsR w ok base tm r (ssnd (i := i) (.fpar j row) r x) F
  | (i, .cpar j fn js) :: r, x, F => ∃ b cs t fr F2, tm i = .pointer (some ⟨b, 0, none⟩) ∧ (base j).addr = some ⟨b, 0, none⟩ ∧ w.heap[b]? = some (.cells #[.func (.func fn) #[] (cs : List Value).toArray] t fr) ∧ Clean #[.func (.func fn) #[] cs.toArray] fr ∧
      All2 (fun j u => ∃ ad, (base j).addr = some ad ∧ u = Value.pointer (some ⟨ad.block, ad.off, none⟩)) js cs ∧ F = [b] ++ F2 ∧ SlotsR w ok base tm r (ssnd (i := i) (.cpar j fn js) r x) F2
theorem SlotsR.keep (hm : ∀ b, ok b → ok' b) {base : Nat → Loc} {tm : Nat → Value} : ∀ {slots : Slots} {x : slots.T} {F : List Nat}, SlotsR w ok base tm slots x F → SlotsR w ok' base tm slots x F
  | [], _, _, h => h
  | (i, .val c own) :: r, x, F, h => by
    obtain ⟨F1, F2, e, h1, h2⟩ := h
    exact ⟨F1, F2, e, h1.widen hm, h2.keep hm⟩
  | (i, .box cells) :: r, x, F, h => by
    obtain ⟨b, vs, t, fr, F1, F2, h0, h1, h2, h3, e, h4⟩ := h
    exact ⟨b, vs, t, fr, F1, F2, h0, h1, h2, h3.keep (fun _ _ => rfl) hm (fun _ _ => rfl), e, h4.keep hm⟩
  | (i, .par j cells) :: r, x, F, h => by
    obtain ⟨b, vs, t, fr, F1, F2, h0, h01, h1, h2, h3, e, h4⟩ := h
    exact ⟨b, vs, t, fr, F1, F2, h0, h01, h1, h2, h3.keep (fun _ _ => rfl) hm (fun _ _ => rfl), e, h4.keep hm⟩

  | (i, .fpar j row) :: r, x, F, h => by
    obtain ⟨b, h0, h1, h2, h3, h4, h5⟩ := h
    exact ⟨b, h0, h1, hm _ h2, h3, h4.keep (fun _ _ => rfl) hm rfl, h5.keep hm⟩
  | (i, .cpar j fn js) :: r, x, F, h => by
    obtain ⟨b, cs, t, fr, F2, h0, h1, h2, h3, h4, e, h5⟩ := h
    exact ⟨b, cs, t, fr, F2, h0, h1, h2, h3, h4, e, h5.keep hm⟩

/-- the variable o is taken -/
theorem take_box_one (R : Rel w0 F0 s m ok a w) {o : Nat} {cs : List V} (hob : s.obj o = .box cs) {cells : List (CK × Bool)} {x : Row (kinds cells)} (h : takeCells (s.setObj o .dead) 1 cells cs = some (x, s')) :
    ∃ b vs t fr ok' F, (m o).addr = some ⟨b, 0, none⟩ ∧ w.heap[b]? = some (.cells vs t fr) ∧ Clean vs fr ∧ TRs w ok' cells x vs.toList F ∧ Rel w0 F0 s' m ok' a w ∧ Took s m ok (b :: F) s' ok' := by
  have hor := R.objs o
  rw [hob] at hor
  obtain ⟨b, vs, t, fr, hb, hh, hc, ha⟩ := hor
  have hg : takeArg s 1 { mode := 2, cells := cells } (.ptr o 0) = some (x, [o], s') := by
    simp only [takeArg, hob, h]
  have hlt := obj_lt R (o := o) (by rw [hob]; exact nofun)
  obtain ⟨ok', F, R', T, hA, hp, _⟩ := takeArg_one (bs := []) (g := { mode := 2, cells := cells }) R hg (u := .pointer (some ⟨b, 0, none⟩)) ⟨hlt, ⟨b, 0, none⟩, hb, by simp⟩
  obtain ⟨b', vs', t', fr', F', eu, hh', hc', ht', eF⟩ := hA
  have : b = b' := by injection eu with e; injection e with e; injection e
  subst this
  subst eF
  exact ⟨b, vs', t', fr', ok', F', hb, hh', hc', ht', R', T⟩

theorem VR_tmp (R : Rel w0 F0 s m ok a w) (i : Nat) : VR w ok m s.n (s.tmp i) (a.tmps.getD i undef) := R.eval (.tmp i)

/-- the variables' numbers are numbers of variables -/
def Sh.fine (kp : Nat) : Sh → Bool
  | .par j _ => Nat.blt j kp
  | .fpar j _ => Nat.blt j kp
  | .cpar j _ js => match Nat.blt j kp with | true => lall (fun j => Nat.blt j kp) js | false => false
  | _ => true
theorem lall_blt {kp : Nat} : ∀ {js : List Nat}, lall (fun j => Nat.blt j kp) js = true → ∀ j ∈ js, j < kp
  | [], _, _, h => by cases h
  | i :: js, h, j, hj => by
    have h' : (match Nat.blt i kp with | true => lall (fun j => Nat.blt j kp) js | false => false) = true := h
    split at h'
    case h_2 => cases h'
    rename_i hi
    rcases List.mem_cons.1 hj with rfl | hj
    · exact Nat.blt_eq.mp hi
    · exact lall_blt h' j hj
theorem castR_some {row' row : List CK} {x : Row row'} {y : Row row} (h : castR row' row x = some y) : ∃ e : row' = row, y = e ▸ x := by
  unfold castR at h
  split at h
  · rename_i hb
    exact ⟨CK.eqs_of_beqs hb, (Option.some.inj h).symm⟩
  · cases h
theorem takeSlots_ok {base : Nat → Loc} {kp : Nat} : ∀ {slots : Slots} {s s' : St} {ok : Nat → Prop} {x : slots.T}, Rel w0 F0 s m ok a w → (∀ j, j < kp → m j = base j) → (∀ i sh, (i, sh) ∈ slots → Sh.fine kp sh = true) → takeSlots s slots = some (x, s') →
    ∃ ok' F, Rel w0 F0 s' m ok' a w ∧ Took s m ok F s' ok' ∧ SlotsR w ok' base (fun i => a.tmps.getD i undef) slots x F
  | [], s, s', ok, x, R, hb, hp, h => by
    have e : s = s' := congrArg Prod.snd (Option.some.inj (show some ((), s) = some (x, s') from h))
    subst e
    exact ⟨ok, [], R, Took.refl _ _ _, rfl⟩
  | (i, .val c own) :: r, s, s', ok, x, R, hb, hp, h => by
    have h' : (match V.take s (sel own 2 1) c (s.tmp i) with
      | some (x, s) => match takeSlots s r with
        | some (y, s) => some (sjoin (i := i) (.val c own) r x y, s)
        | none => none
      | none => none : Option (Slots.T (((i, .val c own) :: r)) × St)) = some (x, s') := h
    split at h'
    case h_2 => cases h'
    rename_i x1 s1 h1
    split at h'
    case h_2 => cases h'
    rename_i x2 s2 h2
    have e1 : sjoin (i := i) (.val c own) r x1 x2 = x := congrArg Prod.fst (Option.some.inj h')
    have e2 : s2 = s' := congrArg Prod.snd (Option.some.inj h')
    subst e1
    subst e2
    obtain ⟨ok1, F1, R1, T1, hT1⟩ := take_one R h1 ((VR_tmp R i).as1 (take_isone h1))
    obtain ⟨ok2, F2, R2, T2, hT2⟩ := takeSlots_ok R1 hb (fun i sh h => hp i sh (by simp [h])) h2
    refine ⟨ok2, F1 ++ F2, R2, T1.trans T2, F1, F2, rfl, ?_, ?_⟩
    · have e : sfst (i := i) (.val c own) r (sjoin (i := i) (.val c own) r x1 x2) = x1 := sfst_join (i := i) (.val c own) r x1 x2
      show TR w ok2 c own (sfst (i := i) (.val c own) r (sjoin (i := i) (.val c own) r x1 x2)) _ F1
      exact (congrArg (fun z => TR w ok2 c own z (a.tmps.getD i undef) F1) e).mpr (hT1.widen T2.okm)
    · have e : ssnd (i := i) (.val c own) r (sjoin (i := i) (.val c own) r x1 x2) = x2 := ssnd_join (i := i) (.val c own) r x1 x2
      show SlotsR w ok2 base _ r (ssnd (i := i) (.val c own) r (sjoin (i := i) (.val c own) r x1 x2)) F2
      exact (congrArg (fun z => SlotsR w ok2 base (fun i => a.tmps.getD i undef) r z F2) e).mpr hT2
  | (i, .box cells) :: r, s, s', ok, x, R, hb, hp, h => by
    have h' : (match s.tmp i with
      | .ptr o 0 => match s.obj o with
        | .box cs => match takeCells (s.setObj o .dead) 1 cells cs with
          | some (x, s) => match takeSlots s r with
            | some (y, s) => some (sjoin (i := i) (.box cells) r x y, s)
            | none => none
          | none => none
        | _ => none
      | _ => none : Option (Slots.T (((i, .box cells) :: r)) × St)) = some (x, s') := h
    split at h'
    case h_2 => cases h'
    rename_i o ho
    split at h'
    case h_2 => cases h'
    rename_i cs hob
    split at h'
    case h_2 => cases h'
    rename_i x1 s1 h1
    split at h'
    case h_2 => cases h'
    rename_i x2 s2 h2
    have e1 : sjoin (i := i) (.box cells) r x1 x2 = x := congrArg Prod.fst (Option.some.inj h')
    have e2 : s2 = s' := congrArg Prod.snd (Option.some.inj h')
    subst e1
    subst e2
    obtain ⟨b, vs, t, fr, ok1, F1, had, hh, hc, hT1, R1, T1⟩ := take_box_one R hob h1
    obtain ⟨ok2, F2, R2, T2, hT2⟩ := takeSlots_ok R1 hb (fun i sh h => hp i sh (by simp [h])) h2
    have hv := VR_tmp R i
    rw [ho] at hv
    obtain ⟨_, ad, had2, hv⟩ := hv
    rw [had] at had2
    cases had2
    refine ⟨ok2, (b :: F1) ++ F2, R2, T1.trans T2, b, vs, t, fr, F1, F2, by simpa using hv, hh, hc, ?_, rfl, ?_⟩
    · exact (congrArg (fun z => TRs w ok2 cells z vs.toList F1) (sfst_join (i := i) (.box cells) r x1 x2)).mpr (hT1.keep (fun _ _ => rfl) T2.okm (fun _ _ => rfl))
    · exact (congrArg (fun z => SlotsR w ok2 base (fun i => a.tmps.getD i undef) r z F2) (ssnd_join (i := i) (.box cells) r x1 x2)).mpr hT2
  | (i, .par j cells) :: r, s, s', ok, x, R, hb, hp, h => by
    have h' : (match s.tmp i with
      | .ptr o 0 => match Nat.beq o j, s.obj o with
        | true, .box cs => match takeCells (s.setObj o .dead) 1 cells cs with
          | some (x, s) => match takeSlots s r with
            | some (y, s) => some (sjoin (i := i) (.par j cells) r x y, s)
            | none => none
          | none => none
        | _, _ => none
      | _ => none : Option (Slots.T (((i, .par j cells) :: r)) × St)) = some (x, s') := h
    split at h'
    case h_2 => cases h'
    rename_i o ho
    split at h'
    case h_2 => cases h'
    rename_i cs hoj hob
    have hoj := Nat.eq_of_beq_eq_true hoj
    subst hoj
    split at h'
    case h_2 => cases h'
    rename_i x1 s1 h1
    split at h'
    case h_2 => cases h'
    rename_i x2 s2 h2
    have e1 : sjoin (i := i) (.par o cells) r x1 x2 = x := congrArg Prod.fst (Option.some.inj h')
    have e2 : s2 = s' := congrArg Prod.snd (Option.some.inj h')
    subst e1
    subst e2
    obtain ⟨b, vs, t, fr, ok1, F1, had, hh, hc, hT1, R1, T1⟩ := take_box_one R hob h1
    obtain ⟨ok2, F2, R2, T2, hT2⟩ := takeSlots_ok R1 hb (fun i sh h => hp i sh (by simp [h])) h2
    have hv := VR_tmp R i
    rw [ho] at hv
    obtain ⟨_, ad, had2, hv⟩ := hv
    rw [had] at had2
    cases had2
    refine ⟨ok2, (b :: F1) ++ F2, R2, T1.trans T2, b, vs, t, fr, F1, F2, by simpa using hv, by rw [← hb o (Nat.blt_eq.mp (hp i (.par o cells) (by simp)))]; exact had, hh, hc, ?_, rfl, ?_⟩
    · exact (congrArg (fun z => TRs w ok2 cells z vs.toList F1) (sfst_join (i := i) (.par o cells) r x1 x2)).mpr (hT1.keep (fun _ _ => rfl) T2.okm (fun _ _ => rfl))
    · exact (congrArg (fun z => SlotsR w ok2 base (fun i => a.tmps.getD i undef) r z F2) (ssnd_join (i := i) (.par o cells) r x1 x2)).mpr hT2

  | (i, .fpar j row) :: r, s, s', ok, x, R, hb, hp, h => by
    have h' : (match s.tmp i with
      | .ptr o 0 => match Nat.beq o j, s.obj o with
        | true, .fbox row' x => match castR row' row x with
          | some x => match takeSlots s r with
            | some (y, s) => some (sjoin (i := i) (.fpar j row) r x y, s)
            | none => none
          | none => none
        | _, _ => none
      | _ => none : Option (Slots.T ((i, .fpar j row) :: r) × St)) = some (x, s') := h
    split at h'
    case h_2 => cases h'
    rename_i o ho
    split at h'
    case h_2 => cases h'
    rename_i row' x0 hoj hob
    have hoj := Nat.eq_of_beq_eq_true hoj
    subst hoj
    split at h'
    case h_2 => cases h'
    rename_i x1 h1
    split at h'
    case h_2 => cases h'
    rename_i x2 s2 h2
    have e1 : sjoin (i := i) (.fpar o row) r x1 x2 = x := congrArg Prod.fst (Option.some.inj h')
    have e2 : s2 = s' := congrArg Prod.snd (Option.some.inj h')
    subst e1
    subst e2
    obtain ⟨e, hx⟩ := castR_some h1
    subst e
    subst hx
    obtain ⟨ok2, F2, R2, T2, hT2⟩ := takeSlots_ok R hb (fun i sh h => hp i sh (by simp [h])) h2
    have hv := VR_tmp R i
    rw [ho] at hv
    obtain ⟨_, ad, had2, hv⟩ := hv
    have hor := R.objs o
    rw [hob] at hor
    obtain ⟨b, had, hokb, hlt, hra⟩ := hor
    rw [had] at had2
    cases had2
    refine ⟨ok2, F2, R2, T2, b, by simpa using hv, by rw [← hb o (Nat.blt_eq.mp (hp i (.fpar o row') (by simp)))]; exact had, T2.okm _ hokb, hlt, ?_, ?_⟩
    · exact (congrArg (fun z => RowsAt w ok2 row' [z] ⟨b, 0, none⟩) (sfst_join (i := i) (.fpar o row') r _ x2)).mpr (hra.keep (fun _ _ => rfl) T2.okm rfl)
    · exact (congrArg (fun z => SlotsR w ok2 base (fun i => a.tmps.getD i undef) r z F2) (ssnd_join (i := i) (.fpar o row') r _ x2)).mpr hT2
  | (i, .cpar j fn js) :: r, s, s', ok, x, R, hb, hp, h => by
    have h' : (match s.tmp i with
      | .ptr o 0 => match Nat.beq o j, s.obj o with
        | true, .box [.clo f os] => match Nat.beq f fn, natsEq os js with
          | true, true => match takeSlots (s.setObj o .dead) r with
            | some (y, s) => some (sjoin (i := i) (.cpar j fn js) r () y, s)
            | none => none
          | _, _ => none
        | _, _ => none
      | _ => none : Option (Slots.T ((i, .cpar j fn js) :: r) × St)) = some (x, s') := h
    split at h'
    case h_2 => cases h'
    rename_i o ho
    split at h'
    case h_2 => cases h'
    rename_i f os hoj hob
    have hoj := Nat.eq_of_beq_eq_true hoj
    subst hoj
    split at h'
    case h_2 => cases h'
    rename_i e1 e2
    have e1 := Nat.eq_of_beq_eq_true e1
    have e2 := natsEq_eq e2
    subst e1
    subst e2
    split at h'
    case h_2 => cases h'
    rename_i x2 s2 h2
    have e1 : sjoin (i := i) (.cpar o f os) r () x2 = x := congrArg Prod.fst (Option.some.inj h')
    have e2 : s2 = s' := congrArg Prod.snd (Option.some.inj h')
    subst e1
    subst e2
    have hor := R.objs o
    rw [hob] at hor
    obtain ⟨b, vs, t, fr, had, hh, hc, ha⟩ := hor
    obtain ⟨R1, T1⟩ := give_obj R (o := o) (b := b) ⟨by rw [had]; rfl, by rw [hob]; trivial⟩
    obtain ⟨ok2, F2, R2, T2, hT2⟩ := takeSlots_ok R1 hb (fun i sh h => hp i sh (by simp [h])) h2
    have hv := VR_tmp R i
    rw [ho] at hv
    obtain ⟨_, ad, had2, hv⟩ := hv
    rw [had] at had2
    cases had2
    have hok := hp i (.cpar o f os) (by simp)
    have hok' : (match Nat.blt o kp with | true => lall (fun j => Nat.blt j kp) os | false => false) = true := hok
    split at hok'
    case h_2 => cases hok'
    rename_i hokp
    have hjs := lall_blt hok'
    have hcl : ∃ cs : List Value, vs = #[.func (.func f) #[] cs.toArray] ∧ All2 (fun j u => ∃ ad, (base j).addr = some ad ∧ u = Value.pointer (some ⟨ad.block, ad.off, none⟩)) os cs := by
      have hvs : vs = vs.toList.toArray := by simp
      rw [hvs]
      generalize vs.toList = l at ha
      match l, ha with
      | [c], .cons ⟨cs, ec, hcs⟩ .nil =>
        exact ⟨cs, by rw [ec], hcs.impm2 fun j hj u ⟨_, ad, h1, h2⟩ => ⟨ad, by rw [← hb j (hjs j hj)]; exact h1, h2⟩⟩
    obtain ⟨cs, ev, hcs⟩ := hcl
    subst ev
    refine ⟨ok2, [b] ++ F2, R2, T1.trans T2, b, cs, t, fr, F2, by simpa using hv, by rw [← hb o (Nat.blt_eq.mp hokp)]; exact had, hh, hc, hcs, rfl, ?_⟩
    exact (congrArg (fun z => SlotsR w ok2 base (fun i => a.tmps.getD i undef) r z F2) (ssnd_join (i := i) (.cpar o f os) r () x2)).mpr hT2

/-- the state with nothing but the variables' numbers -/
theorem Rel.blank (R : Rel w0 F0 s m ok a w) (kp : Nat) (base : Nat → Loc) : Rel w0 F0 { N := s.N, n := kp, tmps := [], objs := [] } base ok a w where
  defers := R.defers
  size := R.size
  tmps := fun _ _ => trivial
  objs := fun _ => trivial
  live := fun _ _ => rfl
  apart := fun _ _ _ h => h.2.elim
  exok := fun _ _ h => h.2.elim
  okold := R.okold
  okin := R.okin
  okup := R.okup
  grew := R.grew

/-- a variable comes to its number -/
theorem par_box (R : Rel w0 F0 s m ok a w) {j : Nat} (hj : j < s.n) (hd : s.obj j = .dead) {vs : List V} {b : Nat} {us : Array Value} {t : TypeId} {fr : Nat × Nat} (had : (m j).addr = some ⟨b, 0, none⟩) (hh : w.heap[b]? = some (.cells us t fr)) (hc : Clean us fr) (ha : All2 (VR1 w ok m s.n) vs us.toList)
    (hf : ¬ ok b ∧ (w0.heap.size ≤ b ∨ F0 b) ∧ ¬ pool s m b) : Rel w0 F0 (s.setObj j (.box vs)) m ok a w ∧ ∀ b', pool (s.setObj j (.box vs)) m b' → pool s m b' ∨ b' = b := by
  refine ⟨R.revive j hj hd (.box vs) (m j) rfl ⟨b, us, t, fr, had, hh, hc, ha⟩ (fun b' hb' _ => ?_), fun b' ⟨o, h1, h2⟩ => ?_⟩
  · have : b = b' := by rw [had] at hb'; simpa using hb'
    subst this
    exact ⟨hf.1, hf.2.1, fun o' h => hf.2.2 ⟨o', h⟩⟩
  · rw [St.obj_setObj] at h2
    by_cases hjo : j = o
    · subst hjo
      rw [had] at h1
      right; simpa using h1.symm
    · rw [if_neg hjo] at h2
      exact .inl ⟨o, h1, h2⟩
end
end Rig
