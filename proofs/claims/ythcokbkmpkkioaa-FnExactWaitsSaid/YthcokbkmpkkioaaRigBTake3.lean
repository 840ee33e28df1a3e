/- Part of Rig, a reflective evaluator of this project's own: a function's code, run over typed data by Lean's kernel, gives its contract. No condition. -/
import Derived.Test.YthcokbkmpkkioaaRigBTake2
set_option linter.unusedVariables false
set_option linter.unusedSimpArgs false
namespace Rig
open Go
section
variable {w0 w w' : World} {F0 : Own} {s s' : St} {m : Nat → Loc} {ok ok' : Nat → Prop} {a : Act}

theorem Took.keepVR {F : List Nat} (T : Took s m ok F s' ok') {v : V} {u : Value} (h : VR1 w ok m s.n v u) : VR1 w ok' m s'.n v u :=
  h.keep (fun _ _ => rfl) T.okm (by rw [T.n]; exact Nat.le_refl _) (fun _ _ => rfl)
theorem Took.keepVRs {F : List Nat} (T : Took s m ok F s' ok') {vs : List V} {us : List Value} (h : All2 (VR1 w ok m s.n) vs us) : All2 (VR1 w ok' m s'.n) vs us :=
  h.imp fun _ _ => T.keepVR

theorem TR.widen {c : CK} {own : Bool} {x : c.ty} {v : Value} {F : List Nat} (hm : ∀ b, ok b → ok' b) (h : TR w ok c own x v F) : TR w ok' c own x v F :=
  h.keep (fun _ _ => rfl) hm (fun _ _ => rfl)

theorem takes_one : ∀ {cells : List (CK × Bool)} {s s' : St} {ok : Nat → Prop} (R : Rel w0 F0 s m ok a w) {vs : List V} {x : Row (kinds cells)} {us : List Value},
    takeCells s 1 cells vs = some (x, s') → All2 (VR1 w ok m s.n) vs us →
    ∃ ok' F, Rel w0 F0 s' m ok' a w ∧ Took s m ok F s' ok' ∧ TRs w ok' cells x us F
  | [], s, s', ok, R, vs, x, us, h, hv => by
    cases vs with
    | nil =>
      have he := Option.some.inj (show some ((), s) = some (x, s') from h)
      have e2 : s = s' := congrArg Prod.snd he
      subst e2
      cases hv
      exact ⟨ok, [], R, Took.refl _ _ _, rfl, rfl⟩
    | cons v vs => exact absurd (show none = some (x, s') from h) nofun
  | [(c, own)], s, s', ok, R, vs, x, us, h, hv => by
    match vs, hv with
    | [], _ => exact absurd (show none = some (x, s') from h) nofun
    | [v], .cons hv1 .nil =>
      obtain ⟨ok', F, R', T, ht⟩ := take_one R (show V.take s (sel own 2 1) c v = some (x, s') from h) hv1
      exact ⟨ok', F, R', T, _, rfl, ht⟩
    | v :: v' :: vs, _ => exact absurd (show none = some (x, s') from h) nofun
  | (c, own) :: c' :: cs, s, s', ok, R, vs, x, us, h, hv => by
    match vs, us, hv with
    | [], _, _ => exact absurd (show none = some (x, s') from h) nofun
    | v :: vs, u :: us, .cons hv1 hv2 =>
      have h' : (match V.take s (sel own 2 1) c v with
        | some (x, s) => match takeCells s 1 (c' :: cs) vs with
          | some (y, s) => some ((x, y), s)
          | none => none
        | none => none : Option (Row (kinds ((c, own) :: c' :: cs)) × St)) = some (x, s') := h
      split at h'
      case h_2 => cases h'
      rename_i x1 s1 h1
      split at h'
      case h_2 => cases h'
      rename_i y s2 h2
      have he := Option.some.inj h'
      have e1 : (x1, y) = x := congrArg Prod.fst he
      have e2 : s2 = s' := congrArg Prod.snd he
      subst e1
      subst e2
      obtain ⟨ok1, F1, R1, T1, ht1⟩ := take_one R h1 hv1
      obtain ⟨ok2, F2, R2, T2, ht2⟩ := takes_one R1 h2 (T1.keepVRs hv2)
      exact ⟨ok2, F1 ++ F2, R2, T1.trans T2, u, us, F1, F2, rfl, rfl, ht1.widen T2.okm, ht2⟩

/-! #### arguments -/
/-- the closure of f over the variables in the blocks bs that js names -/
def cloVal (f : Nat) (js bs : List Nat) : Value := .func (.func f) #[] (js.map fun j => Value.pointer (some ⟨bs.getD j 0, 0, none⟩)).toArray
/-- an argument: a cell, an aggregate, a variable's address -/
def ArgR (w : World) (ok : Nat → Prop) (bs : List Nat) (g : Arg) (x : Row (kinds g.cells)) (v : Value) (F : List Nat) : Prop :=
  match g.mode with
  | 2 => ∃ b vs t fr F', v = .pointer (some ⟨b, 0, none⟩) ∧ w.heap[b]? = some (.cells vs t fr) ∧ Clean vs fr ∧ TRs w ok g.cells x vs.toList F' ∧ F = b :: F'
  | 3 => ∃ b t fr, v = .pointer (some ⟨b, 0, none⟩) ∧ w.heap[b]? = some (.cells #[cloVal g.fn g.js bs] t fr) ∧ Clean #[cloVal g.fn g.js bs] fr ∧ F = [b]
  | 4 => ∃ b, v = .pointer (some ⟨b, 0, none⟩) ∧ ok b ∧ b < w.heap.size ∧ RowsAt w ok (kinds g.cells) [x] ⟨b, 0, none⟩ ∧ F = []
  | 1 => ∃ cs : List Value, v = .agg cs.toArray ∧ TRs w ok g.cells x cs F
  | _ => TRs w ok g.cells x [v] F
def afst (a : Arg) (r : Args) (x : Args.T (a :: r)) : Row (kinds a.cells) := (asplit a r x).1
def asnd (a : Arg) (r : Args) (x : Args.T (a :: r)) : Args.T r := (asplit a r x).2
theorem psplit_cons : ∀ (k : List CK) (rs : List (List CK)) (x : Row k) (y : PT rs), psplit k rs (pcons k rs x y) = (x, y)
  | [], _, _, _ => rfl
  | _ :: _, [], _, _ => rfl
  | _ :: _, _ :: _, _, _ => rfl
theorem asplit_join (a : Arg) (r : Args) (x : Row (kinds a.cells)) (y : Args.T r) : asplit a r (ajoin a r x y) = (x, y) := psplit_cons _ _ _ _
def bfst (a : Arg) (r : Args) (x : Args.B (a :: r)) : Row (kinds a.bcells) := (bsplit a r x).1
def bsnd (a : Arg) (r : Args) (x : Args.B (a :: r)) : Args.B r := (bsplit a r x).2
theorem bsplit_join (a : Arg) (r : Args) (x : Row (kinds a.bcells)) (y : Args.B r) : bsplit a r (bjoin a r x y) = (x, y) := psplit_cons _ _ _ _
theorem bfst_join (a : Arg) (r : Args) (x : Row (kinds a.bcells)) (y : Args.B r) : bfst a r (bjoin a r x y) = x := by unfold bfst; rw [bsplit_join]
theorem bsnd_join (a : Arg) (r : Args) (x : Row (kinds a.bcells)) (y : Args.B r) : bsnd a r (bjoin a r x y) = y := by unfold bsnd; rw [bsplit_join]
theorem afst_join (a : Arg) (r : Args) (x : Row (kinds a.cells)) (y : Args.T r) : afst a r (ajoin a r x y) = x := by unfold afst; rw [asplit_join]
theorem asnd_join (a : Arg) (r : Args) (x : Row (kinds a.cells)) (y : Args.T r) : asnd a r (ajoin a r x y) = y := by unfold asnd; rw [asplit_join]
def rfst (o b : Args) (x : Args.R o b) : Args.T o := (rsplit o b x).1
def rsnd (o b : Args) (x : Args.R o b) : Args.B b := (rsplit o b x).2
theorem rcut_pair : ∀ (o b : List (List CK)) (x : PT o) (y : PT b), rcut o b (rpair o b x y) = (x, y)
  | [], [], x, y => rfl
  | _ :: _, [], x, y => rfl
  | [], _ :: _, x, y => rfl
  | _ :: _, _ :: _, x, y => rfl
theorem rsplit_join (o b : Args) (x : Args.T o) (y : Args.B b) : rsplit o b (rjoin o b x y) = (x, y) := rcut_pair _ _ _ _
theorem rfst_join (o b : Args) (x : Args.T o) (y : Args.B b) : rfst o b (rjoin o b x y) = x := by unfold rfst; rw [rsplit_join]
theorem rsnd_join (o b : Args) (x : Args.T o) (y : Args.B b) : rsnd o b (rjoin o b x y) = y := by unfold rsnd; rw [rsplit_join]
def sfst {i : Nat} (a : Sh) (r : Slots) (x : Slots.T ((i, a) :: r)) : Row a.row := (ssplit a r x).1
def ssnd {i : Nat} (a : Sh) (r : Slots) (x : Slots.T ((i, a) :: r)) : Slots.T r := (ssplit a r x).2
theorem ssplit_join {i : Nat} (a : Sh) (r : Slots) (x : Row a.row) (y : Slots.T r) : ssplit (i := i) a r (sjoin a r x y) = (x, y) := psplit_cons _ _ _ _
theorem sfst_join {i : Nat} (a : Sh) (r : Slots) (x : Row a.row) (y : Slots.T r) : sfst (i := i) a r (sjoin a r x y) = x := by unfold sfst; rw [ssplit_join]
theorem ssnd_join {i : Nat} (a : Sh) (r : Slots) (x : Row a.row) (y : Slots.T r) : ssnd (i := i) a r (sjoin a r x y) = y := by unfold ssnd; rw [ssplit_join]
def ArgsR (w : World) (ok : Nat → Prop) (bs : List Nat) : (ins : Args) → ins.T → List Value → List Nat → Prop
  | [], _, vs, F => vs = [] ∧ F = []
  | g :: r, x, vs, F => ∃ v vs' F1 F2, vs = v :: vs' ∧ F = F1 ++ F2 ∧ ArgR w ok bs g (afst g r x) v F1 ∧ ArgsR w ok bs r (asnd g r x) vs' F2
theorem ArgR.keep {bs : List Nat} {g : Arg} (hz : w.heap.size ≤ w'.heap.size) (hk : ∀ b, ok b → w'.heap[b]? = w.heap[b]?) (hm : ∀ b, ok b → ok' b) {x : Row (kinds g.cells)} {v : Value} {F : List Nat} (hF : ∀ b ∈ F, w'.heap[b]? = w.heap[b]?)
    (h : ArgR w ok bs g x v F) : ArgR w' ok' bs g x v F := by
  unfold ArgR at h ⊢
  split at h
  · obtain ⟨b, vs, t, fr, F', e, hh, hc, ht, eF⟩ := h
    subst eF
    exact ⟨b, vs, t, fr, F', e, by rw [hF b (by simp)]; exact hh, hc, ht.keep hk hm (fun b hb => hF b (by simp [hb])), rfl⟩
  · obtain ⟨b, t, fr, e, hh, hc, eF⟩ := h
    subst eF
    exact ⟨b, t, fr, e, by rw [hF b (by simp)]; exact hh, hc, rfl⟩
  · obtain ⟨b, e, ho, hlt, hr, eF⟩ := h
    exact ⟨b, e, hm _ ho, Nat.lt_of_lt_of_le hlt hz, hr.keep hk hm (hk _ ho), eF⟩
  · obtain ⟨cs, e, ht⟩ := h
    exact ⟨cs, e, ht.keep hk hm hF⟩
  · exact TRs.keep hk hm hF h
theorem ArgsR.keep {bs : List Nat} (hz : w.heap.size ≤ w'.heap.size) (hk : ∀ b, ok b → w'.heap[b]? = w.heap[b]?) (hm : ∀ b, ok b → ok' b) : ∀ {ins : Args} {x : ins.T} {vs : List Value} {F : List Nat}, (∀ b ∈ F, w'.heap[b]? = w.heap[b]?) →
    ArgsR w ok bs ins x vs F → ArgsR w' ok' bs ins x vs F
  | [], _, _, _, _, h => h
  | g :: r, x, vs, F, hF, h => by
    obtain ⟨v, vs', F1, F2, e, eF, h1, h2⟩ := h
    subst eF
    exact ⟨v, vs', F1, F2, e, rfl, h1.keep hz hk hm (fun b hb => hF b (List.mem_append_left _ hb)), ArgsR.keep hz hk hm (fun b hb => hF b (List.mem_append_right _ hb)) h2⟩

theorem VR.as1 {n : Nat} {v : V} {u : Value} (h : VR w ok m n v u) (h1 : v.one = true) : VR1 w ok m n v u := by
  cases v <;> first | (simp only [VR, VRa] at h; exact h) | (simp [V.one] at h1)

theorem get_one {s : St} {c : CK} {v : V} {x : c.ty} (h : V.get s c v = some x) : v.one = true := by
  cases v <;> first | rfl | (cases c <;> exact absurd (show none = some x from h) nofun)

theorem take_isone {s : St} {md : Nat} {c : CK} {v : V} {r : c.ty × St} (h : V.take s md c v = some r) : v.one = true := by
  unfold V.take at h
  split at h
  · cases h
  · rename_i x hg; exact get_one hg
theorem takeCells_single {s : St} {md : Nat} : ∀ {cells : List (CK × Bool)} {v : V} {r : Row (kinds cells) × St}, takeCells s md cells [v] = some r → v.one = true
  | [], v, r, h => absurd (show none = some r from h) nofun
  | [(c, own)], v, r, h => take_isone (show V.take s (sel own 2 md) c v = some r from h)
  | (c, own) :: c' :: cs, v, r, h => by
    have h' : (match V.take s (sel own 2 md) c v with
        | some (x, s) => match takeCells s md (c' :: cs) [] with
          | some (y, s) => some ((x, y), s)
          | none => none
        | none => none : Option (Row (kinds ((c, own) :: c' :: cs)) × St)) = some r := h
    split at h'
    case h_2 => cases h'
    rename_i x s1 h1
    exact take_isone h1

/-- the variables that were handed over, in order: their objects' blocks -/
def blk : Value → List Nat
  | .pointer (some ad) => [ad.block]
  | _ => []
def ptrBlocks : (ins : Args) → List Value → List Nat
  | g :: r, v :: vs => (if 2 ≤ g.mode then blk v else []) ++ ptrBlocks r vs
  | _, _ => []

theorem takeArg_one (R : Rel w0 F0 s m ok a w) {bs : List Nat} {g : Arg} {v : V} {x : Row (kinds g.cells)} {os : List Nat} {u : Value} (h : takeArg s 1 g v = some (x, os, s')) (hv : VR w ok m s.n v u) :
    ∃ ok' F, Rel w0 F0 s' m ok' a w ∧ Took s m ok F s' ok' ∧ ArgR w ok' bs g x u F ∧ g.mode ≤ 2 ∧
      (g.mode = 2 → ∃ o b, os = [o] ∧ o < s.n ∧ u = .pointer (some ⟨b, 0, none⟩) ∧ (m o).addr = some ⟨b, 0, none⟩ ∧ s'.obj o = .dead ∧ b ∈ F) ∧ (g.mode ≠ 2 → os = []) := by
  unfold takeArg at h
  split at h
  · -- a variable's address
    rename_i o hm
    split at h
    case h_2 => cases h
    rename_i cs hob
    split at h
    case h_2 => cases h
    rename_i x1 s1 h1
    have he := Option.some.inj h
    have e1 : x1 = x := congrArg Prod.fst he
    have e2 : [o] = os := congrArg (·.2.1) he
    have e3 : s1 = s' := congrArg (·.2.2) he
    subst e1
    subst e2
    subst e3
    obtain ⟨hlt, ad, had, hu⟩ := hv
    have hor := R.objs o
    rw [hob] at hor
    obtain ⟨b, vs, t, fr, hb, hh, hc, ha⟩ := hor
    rw [had] at hb
    cases hb
    have hex : ex s m o b := ⟨by rw [had]; rfl, by rw [hob]; trivial⟩
    have R1 : Rel w0 F0 (s.setObj o .dead) m ok a w := R.setObj o .dead (fun _ => rfl) trivial (fun b' h => by
      have := h.2
      rw [St.obj_setObj, if_pos rfl] at this
      exact this.elim)
    have T1 : Took s m ok [b] (s.setObj o .dead) ok := ⟨rfl, rfl, rfl, fun _ h => h, fun _ h => .inl h, fun j b' hj => by
      obtain ⟨g1, g2⟩ := hj
      rw [St.obj_setObj] at g2
      by_cases hoj : o = j
      · rw [if_pos hoj] at g2; exact g2.elim
      · rw [if_neg hoj] at g2; exact ⟨g1, g2⟩, fun b' hb' => by
        have : b' = b := by simpa using hb'
        subst this; exact ⟨o, hex⟩, fun b' hb' => by
        have : b' = b := by simpa using hb'
        subst this; exact ⟨(R.exok o b' hex).1, fun ⟨j, hj⟩ => R.nex hex #[] j hj⟩, List.nodup_cons.2 ⟨by simp, List.nodup_nil⟩, fun j hj => by
        rw [St.obj_setObj]; split <;> first | rfl | exact hj⟩
    obtain ⟨ok2, F2, R2, T2, ht2⟩ := takes_one R1 h1 (T1.keepVRs ha)
    refine ⟨ok2, b :: F2, R2, T1.trans T2, ?_, by omega, ?_, ?_⟩
    · unfold ArgR
      rw [hm]
      exact ⟨b, vs, t, fr, F2, hu, hh, hc, ht2, rfl⟩
    · intro _
      exact ⟨o, b, rfl, hlt, hu, had, T2.dead o (by rw [St.obj_setObj, if_pos rfl]), by simp⟩
    · intro hn; exact absurd hm hn
  · rename_i vs hm
    split at h
    case h_2 => cases h
    rename_i x1 s1 h1
    have he := Option.some.inj h
    have e1 : x1 = x := congrArg Prod.fst he
    have e2 : [] = os := congrArg (·.2.1) he
    have e3 : s1 = s' := congrArg (·.2.2) he
    subst e1
    subst e2
    subst e3
    obtain ⟨cs, hu, ha⟩ := hv
    obtain ⟨ok2, F2, R2, T2, ht2⟩ := takes_one R h1 ha
    refine ⟨ok2, F2, R2, T2, ?_, by omega, (fun h => by rw [hm] at h; cases h), fun _ => rfl⟩
    unfold ArgR
    rw [hm]
    exact ⟨cs, hu, ht2⟩
  · rename_i hm
    split at h
    case h_2 => cases h
    rename_i x1 s1 h1
    have he := Option.some.inj h
    have e1 : x1 = x := congrArg Prod.fst he
    have e2 : [] = os := congrArg (·.2.1) he
    have e3 : s1 = s' := congrArg (·.2.2) he
    subst e1
    subst e2
    subst e3
    have hone := takeCells_single h1
    obtain ⟨ok2, F2, R2, T2, ht2⟩ := takes_one R h1 (.cons (hv.as1 hone) .nil)
    refine ⟨ok2, F2, R2, T2, ?_, by omega, (fun h => by rw [hm] at h; cases h), fun _ => rfl⟩
    unfold ArgR
    rw [hm]
    exact ht2
  · cases h
end
end Rig
