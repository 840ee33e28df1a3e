/- Part of Rig, a reflective evaluator of this project's own: a function's code, run over typed data by Lean's kernel, gives its contract. No condition. -/
import Derived.Test.YthcokbkmpkkioaaRigBOut
import Derived.BigCall
set_option linter.unusedVariables false
set_option linter.unusedSimpArgs false
namespace Rig
open Go
section
variable {P : Program} {w0 w w' : World} {F0 : Own} {s s' : St} {m m' : Nat → Loc} {ok ok' : Nat → Prop} {a : Act} {o : Oper} {next : Act → World → Prop} {Q : Exit → Act → World → Prop}
variable {Θ : Tab} {Γ : Env} {ρ : Type} {k : V → St → Option ρ} {r : ρ}

/-- what the variables hold that were handed over by their addresses -/
def BackR (w : World) (ok : Nat → Prop) (ba : List Nat) : (ptrs : Args) → ptrs.B → List Nat → List Nat → Prop
  | [], _, bs, F => bs = [] ∧ F = []
  | g :: r, y, bs, F => ∃ b bs' F1 F2, bs = b :: bs' ∧ F = F1 ++ F2 ∧ (match g.mode with
      | 2 => ∃ vs t fr F3, F1 = b :: F3 ∧ w.heap[b]? = some (.cells vs t fr) ∧ Clean vs fr ∧ TRs w ok g.bcells (bfst g r y) vs.toList F3
      | 3 => ∃ t fr, F1 = [b] ∧ w.heap[b]? = some (.cells #[cloVal g.fn g.js ba] t fr) ∧ Clean #[cloVal g.fn g.js ba] fr
      | _ => F1 = []) ∧ BackR w ok ba r (bsnd g r y) bs' F2

theorem All2.impm {α β : Type} {R S : α → β → Prop} {xs : List α} {ys : List β} (h : All2 R xs ys) : (∀ x ∈ xs, ∀ y, R x y → S x y) → All2 S xs ys := by
  induction h with
  | nil => intro _; exact .nil
  | cons h _ ih => intro hi; exact .cons (hi _ (by simp) _ h) (ih fun x hx => hi x (by simp [hx]))
/-- more is ok -/
theorem Rel.okmore (R : Rel w0 F0 s m ok a w) (hm : ∀ b, ok b → ok' b) (hp : ∀ b, ok' b → ¬ pool s m b) (hl : ∀ b, ok' b → b < w.heap.size) (hin : ∀ b, ok' b → F0.ok b ∨ F0 b ∨ w0.heap.size ≤ b) : Rel w0 F0 s m ok' a w where
  defers := R.defers
  size := R.size
  tmps := fun i hi => (R.tmps i hi).keep (fun _ _ => rfl) hm (Nat.le_refl _) (fun _ _ => rfl)
  objs := fun o => (R.objs o).keep (fun _ _ => rfl) hm (Nat.le_refl _) (fun _ _ => rfl) (fun _ _ => rfl)
  live := R.live
  apart := R.apart
  exok := fun o b h => ⟨fun hb => hp b hb ⟨o, h⟩, (R.exok o b h).2⟩
  okold := hl
  okin := hin
  okup := fun b hb => hm b (R.okup b hb)
  grew := R.grew

/-- the variable o takes up what it holds -/
theorem take_up (R : Rel w0 F0 s m ok a w) {o b : Nat} (hlt : o < s.n) (had : (m o).addr = some ⟨b, 0, none⟩) (hd : s.obj o = .dead) {cs : List V} {vs : Array Value} {t : TypeId} {fr : Nat × Nat} (hh : w.heap[b]? = some (.cells vs t fr)) (hc : Clean vs fr) (hcs : All2 (VR1 w ok m s.n) cs vs.toList)
    (hfb : ¬ ok b ∧ (w0.heap.size ≤ b ∨ F0 b) ∧ ¬ pool s m b) : Rel w0 F0 (s.setObj o (.box cs)) m ok a w ∧ ∀ b', pool (s.setObj o (.box cs)) m b' → pool s m b' ∨ b' = b := by
  refine ⟨R.revive o hlt hd (.box cs) (m o) rfl ⟨b, vs, t, fr, had, hh, hc, hcs⟩ (fun b' hb' _ => ?_), fun b' ⟨j, h1, h2⟩ => ?_⟩
  · have : b = b' := by rw [had] at hb'; simpa using hb'
    subst this
    exact ⟨hfb.1, hfb.2.1, fun o' ho' => hfb.2.2 ⟨o', ho'⟩⟩
  · rw [St.obj_setObj] at h2
    by_cases hoj : o = j
    · subst hoj
      rw [had] at h1
      right; simpa using h1.symm
    · rw [if_neg hoj] at h2
      exact .inl ⟨j, h1, h2⟩
theorem backVals_ok {oa ba : List Nat} : ∀ {ptrs : Args} {s : St} {m : Nat → Loc} (R : Rel w0 F0 s m ok a w) (hids : All2 (Lies m s.n) oa ba) (hjs : ∀ g ∈ ptrs, g.mode = 3 → ∀ j ∈ g.js, j < oa.length) {y : ptrs.B} {os bs F : List Nat} (h : BackR w ok ba ptrs y bs F)
    (ho : All2 (Lies m s.n) os bs) (hd : ∀ o ∈ backIds ptrs os, s.obj o = .dead) (hnd : (backIds ptrs os).Nodup) (hf : FreeB w0 F0 s m ok F) {k : St → Option ρ} (hk : backVals oa ptrs os y s k = some r),
    ∃ s' m', Rel w0 F0 s' m' ok a w ∧ s.n ≤ s'.n ∧ s'.N = s.N ∧ s'.tmps = s.tmps ∧ (∀ o, o < s.n → m' o = m o) ∧ (∀ o, o < s.n → o ∉ backIds ptrs os → s'.obj o = s.obj o) ∧ k s' = some r
  | [], s, m, R, hids, hjs, y, os, bs, F, h, ho, hd, hnd, hf, k, hk => by
    obtain ⟨e, _⟩ := h
    subst e
    cases ho
    exact ⟨s, m, R, Nat.le_refl _, rfl, rfl, fun _ _ => rfl, fun _ _ _ => rfl, hk⟩
  | g :: rest, s, m, R, hids, hjs, y, os, bs, F, h, ho, hd, hnd, hf, k, hk => by
    obtain ⟨b, bs', F1, F2, e, eF, h1, hrest⟩ := h
    subst e
    subst eF
    match os, ho, hd, hnd, hk with
    | o :: os, .cons ho1 ho2, hd, hnd, hk =>
      obtain ⟨hlt, had⟩ := ho1
      -- the rest, once the first is done
      have next : ∀ {s2 : St} {m2 : Nat → Loc} (R2 : Rel w0 F0 s2 m2 ok a w) (hn : s.n ≤ s2.n) (hN : s2.N = s.N) (ht : s2.tmps = s.tmps) (hm2 : ∀ o, o < s.n → m2 o = m o) (hobj : ∀ o', o' < s.n → o' ∉ (if g.mode = 2 ∨ g.mode = 3 then [o] else []) → s2.obj o' = s.obj o')
          (hp : ∀ b', pool s2 m2 b' → pool s m b' ∨ b' ∈ F1), backVals oa rest os (bsnd g rest y) s2 k = some r →
          ∃ s' m', Rel w0 F0 s' m' ok a w ∧ s.n ≤ s'.n ∧ s'.N = s.N ∧ s'.tmps = s.tmps ∧ (∀ o, o < s.n → m' o = m o) ∧ (∀ o', o' < s.n → o' ∉ backIds (g :: rest) (o :: os) → s'.obj o' = s.obj o') ∧ k s' = some r := by
        intro s2 m2 R2 hn hN ht hm2 hobj hp hk2
        have lies : ∀ {os bs : List Nat}, All2 (Lies m s.n) os bs → All2 (Lies m2 s2.n) os bs := fun h => h.imp fun o' b' ⟨h1, h2⟩ => ⟨Nat.lt_of_lt_of_le h1 hn, by rw [hm2 o' h1]; exact h2⟩
        have hnd2 : (backIds rest os).Nodup := (List.nodup_append.1 (show ((if g.mode = 2 ∨ g.mode = 3 then [o] else []) ++ backIds rest os).Nodup from hnd)).2.1
        have hdis := (List.nodup_append.1 (show ((if g.mode = 2 ∨ g.mode = 3 then [o] else []) ++ backIds rest os).Nodup from hnd)).2.2
        have hlt2 : ∀ o' ∈ backIds rest os, o' < s.n := fun o' ho' => by
          have := backIds_sub ho'
          obtain ⟨i, hi, e⟩ := List.mem_iff_getElem.1 this
          obtain ⟨b', _, h1, _⟩ := ho2.get (List.getElem?_eq_getElem hi)
          rw [← e]; exact h1
        obtain ⟨s3, m3, R3, h1, h2, h3, h4, h6, h5⟩ := backVals_ok R2 (lies hids) (fun g' hg' => hjs g' (List.mem_cons_of_mem _ hg')) hrest (lies ho2)
          (fun o' ho' => by rw [hobj o' (hlt2 o' ho') (fun hm => hdis o' hm o' ho' rfl)]; exact hd o' (show o' ∈ (if g.mode = 2 ∨ g.mode = 3 then [o] else []) ++ backIds rest os from List.mem_append_right _ ho')) hnd2
          ⟨(List.nodup_append.1 hf.1).2.1, fun b' hb' => by
            have h0 := hf.2 b' (List.mem_append_right _ hb')
            refine ⟨h0.1, h0.2.1, fun hpp => ?_⟩
            rcases hp b' hpp with hpp | hpp
            · exact h0.2.2 hpp
            · exact (List.nodup_append.1 hf.1).2.2 b' hpp b' hb' rfl⟩ hk2
        refine ⟨s3, m3, R3, Nat.le_trans hn h1, h2.trans hN, h3.trans ht, fun o' ho' => (h4 o' (Nat.lt_of_lt_of_le ho' hn)).trans (hm2 o' ho'), fun o' ho' hn' => ?_, h5⟩
        have hn2 : o' ∉ (if g.mode = 2 ∨ g.mode = 3 then [o] else []) ++ backIds rest os := hn'
        rw [h6 o' (Nat.lt_of_lt_of_le ho' hn) (fun hm => hn2 (List.mem_append_right _ hm))]
        exact hobj o' ho' (fun hm => hn2 (List.mem_append_left _ hm))
      have hk' : (match g.mode with
        | 2 => outCells g.bcells (bfst g rest y) s fun vs s' => V.forces vs fun vs => backVals oa rest os (bsnd g rest y) (s'.setObj o (.box vs)) k
        | 3 => backVals oa rest os (bsnd g rest y) (s.setObj o (.box [.clo g.fn (lmap (lget 0 oa) g.js)])) k
        | _ => backVals oa rest os (bsnd g rest y) s k) = some r := hk
      have hdd : g.mode = 2 ∨ g.mode = 3 → s.obj o = .dead := fun h23 => hd o (show o ∈ (if g.mode = 2 ∨ g.mode = 3 then [o] else []) ++ backIds rest os by rw [if_pos h23]; simp)
      split at h1
      · rename_i hm
        rw [hm] at hk'
        obtain ⟨vs, t, fr, F3, eF, hh, hc, ht⟩ := h1
        subst eF
        have hf1 : FreeB w0 F0 s m ok F3 := ⟨(List.nodup_cons.1 hf.left.1).2, fun b' hb => hf.left.2 b' (List.mem_cons_of_mem _ hb)⟩
        obtain ⟨cs, s1, m1, R1, E1, hcs, hk1⟩ := outCells_ok R ht hf1 hk'
        rw [V.forces_eq] at hk1
        have hfb := hf.left.2 b (by simp)
        have hm1 : m1 o = m o := E1.loc o hlt
        obtain ⟨R2, hp2⟩ := take_up R1 (o := o) (b := b) (cs := cs) (Nat.lt_of_lt_of_le hlt E1.n) (by rw [hm1]; exact had) (by rw [E1.obj o hlt]; exact hdd (.inl hm)) hh hc hcs ⟨hfb.1, hfb.2.1, fun hp => by
          rcases E1.pool b hp with hp | hp
          · exact hfb.2.2 hp
          · exact (List.nodup_cons.1 hf.left.1).1 hp⟩
        refine next R2 E1.n E1.N E1.tmps E1.loc (fun o' ho' hn' => ?_) (fun b' hb' => ?_) hk1
        · rw [if_pos (.inl hm)] at hn'
          rw [St.obj_setObj, if_neg (fun e => hn' (by subst e; simp))]
          exact E1.obj o' ho'
        · rcases hp2 b' hb' with hp | hp
          · exact (E1.pool b' hp).imp id (fun h => List.mem_cons_of_mem _ h)
          · subst hp; exact .inr (by simp)
      · rename_i hm
        rw [hm] at hk'
        obtain ⟨t, fr, eF, hh, hc⟩ := h1
        subst eF
        have hfb := hf.left.2 b (by simp)
        have hcl : VR1 w ok m s.n (.clo g.fn (lmap (lget 0 oa) g.js)) (cloVal g.fn g.js ba) := by
          refine ⟨_, rfl, ?_⟩
          have : ∀ js : List Nat, (∀ j ∈ js, j < oa.length) → All2 (PtrTo m s.n) (lmap (lget 0 oa) js) (js.map fun j => Value.pointer (some ⟨ba.getD j 0, 0, none⟩)) := by
            intro js
            induction js with
            | nil => intro _; exact .nil
            | cons j js ih =>
              intro hj
              have hl := hj j (by simp)
              have hg : oa[j]? = some (oa.getD j 0) := by simp [List.getD_eq_getElem?_getD, hl]
              obtain ⟨b', hb', h1, h2⟩ := hids.get hg
              refine .cons ?_ (ih fun j' hj' => hj j' (by simp [hj']))
              show PtrTo m s.n (lget 0 oa j) (Value.pointer (some ⟨ba.getD j 0, 0, none⟩))
              have : ba.getD j 0 = b' := by simp [List.getD_eq_getElem?_getD, hb']
              rw [this, lget_eq]
              exact ⟨h1, _, h2, rfl⟩
          exact this g.js (hjs g (by simp) hm)
        obtain ⟨R2, hp2⟩ := take_up R (o := o) (b := b) (cs := [.clo g.fn (lmap (lget 0 oa) g.js)]) hlt had (hdd (.inr hm)) hh hc (.cons hcl .nil) hfb
        refine next R2 (Nat.le_refl _) rfl rfl (fun _ _ => rfl) (fun o' ho' hn' => ?_) (fun b' hb' => ?_) hk'
        · rw [if_pos (.inr hm)] at hn'
          rw [St.obj_setObj, if_neg (fun e => hn' (by subst e; simp))]
        · exact (hp2 b' hb').imp id (fun h => by subst h; simp)
      · rename_i hm2 hm3
        subst h1
        split at hk'
        · rename_i e; exact absurd e hm2
        · rename_i e; exact absurd e hm3
        · exact next R (Nat.le_refl _) rfl rfl (fun _ _ => rfl) (fun _ _ _ => rfl) (fun _ h => .inl h) hk'

/-! #### what leads nowhere -/
theorem rdRow_noslice {okx : Nat → Prop} : ∀ {row : List CK} {y : Row row} {f : Nat → Option Value}, anySl row = false → CK.rdRow w ok row y f → CK.rdRow w okx row y f
  | [], _, _, _, h => h
  | [c], y, f, hs, h => by
    cases c with
    | slice r => simp [anySl, CK.isSl] at hs
    | _ => exact h
  | c :: c' :: cs, y, f, hs, h => by
    have hs' : anySl (c' :: cs) = false := by
      unfold anySl at hs
      split at hs
      · cases hs
      · exact hs
    obtain ⟨h1, h2⟩ := h
    refine ⟨?_, rdRow_noslice hs' h2⟩
    cases c with
    | slice r => simp [anySl, CK.isSl] at hs
    | _ => exact h1
theorem TR_noleads {okx : Nat → Prop} {c : CK} {own : Bool} {x : c.ty} {v : Value} {F : List Nat} (hl : leads [(c, own)] = false) (h : TR w ok c own x v F) : TR w okx c own x v F := by
  cases c with
  | slice row =>
    cases own with
    | false => simp [leads] at hl
    | true =>
      have hs : anySl row = false := by
        simp only [leads] at hl
        split at hl
        · cases hl
        · rename_i h; exact h
      obtain ⟨loc, e, ⟨h1, h2, h3, h4⟩, hf⟩ := h
      refine ⟨loc, e, ⟨h1, h2, h3, ?_⟩, hf⟩
      rcases ea : loc.addr with _ | ad
      · rw [ea] at h4; exact h4
      · rw [ea] at h4
        obtain ⟨h5, h6, h7⟩ := h4
        exact ⟨⟨h5.1, fun i y hy => rdRow_noslice hs (h5.2 i y hy)⟩, (fun h => by cases h), h7⟩
  | _ => cases own <;> exact h
theorem leads_cons {c : CK × Bool} {cs : List (CK × Bool)} (h : leads (c :: cs) = false) : leads [c] = false ∧ leads cs = false := by
  obtain ⟨c, own⟩ := c
  cases c with
  | slice row =>
    cases own with
    | false => simp [leads] at h
    | true =>
      simp only [leads] at h ⊢
      split at h
      · cases h
      · exact ⟨rfl, h⟩
  | _ => exact ⟨rfl, by simpa [leads] using h⟩
theorem TRs_noleads {okx : Nat → Prop} : ∀ {cells : List (CK × Bool)} {x : Row (kinds cells)} {vs : List Value} {F : List Nat}, leads cells = false → TRs w ok cells x vs F → TRs w okx cells x vs F
  | [], _, _, _, _, h => h
  | [(c, own)], x, vs, F, hl, h => by
    obtain ⟨v, e, h⟩ := h
    exact ⟨v, e, TR_noleads hl h⟩
  | (c, own) :: c' :: cs, x, vs, F, hl, h => by
    obtain ⟨v, vs', F1, F2, e, eF, h1, h2⟩ := h
    obtain ⟨hl1, hl2⟩ := leads_cons hl
    exact ⟨v, vs', F1, F2, e, eF, TR_noleads hl1 h1, TRs_noleads hl2 h2⟩
theorem ArgsR_noleads {okx : Nat → Prop} {gs : List Nat} : ∀ {outs : Args} (hm : ∀ g ∈ outs, g.mode ≤ 2) {x : outs.T} {vs : List Value} {F : List Nat}, outs.leads = false → ArgsR w ok gs outs x vs F → ArgsR w okx gs outs x vs F
  | [], _, _, _, _, _, h => h
  | g :: r, hm, x, vs, F, hl, h => by
    obtain ⟨v, vs', F1, F2, e, eF, h1, h2⟩ := h
    have hl' : leads g.cells = false ∧ Args.leads r = false := by
      have hl0 : (match Rig.leads g.cells with | true => true | false => Args.leads r) = false := hl
      split at hl0
      · cases hl0
      · rename_i h; exact ⟨h, hl0⟩
    refine ⟨v, vs', F1, F2, e, eF, ?_, ArgsR_noleads (fun g' hg' => hm g' (List.mem_cons_of_mem _ hg')) hl'.2 h2⟩
    have hg := hm g (by simp)
    unfold ArgR at h1 ⊢
    split at h1
    · obtain ⟨b, bs, t, fr, F', eu, hh, hc, ht, eF⟩ := h1
      exact ⟨b, bs, t, fr, F', eu, hh, hc, TRs_noleads hl'.1 ht, eF⟩
    · rename_i e; omega
    · rename_i e; omega
    · obtain ⟨cs, eu, ht⟩ := h1
      exact ⟨cs, eu, TRs_noleads hl'.1 ht⟩
    · exact TRs_noleads hl'.1 h1
theorem BackR_noleads {okx : Nat → Prop} {ba : List Nat} : ∀ {ptrs : Args} {y : ptrs.B} {bs F : List Nat}, ptrs.bleads = false → BackR w ok ba ptrs y bs F → BackR w okx ba ptrs y bs F
  | [], _, _, _, _, h => h
  | g :: r, y, bs, F, hl, h => by
    obtain ⟨b, bs', F1, F2, e, eF, h1, h2⟩ := h
    have hl' : leads g.bcells = false ∧ Args.bleads r = false := by
      have hl0 : (match Rig.leads g.bcells with | true => true | false => Args.bleads r) = false := hl
      split at hl0
      · cases hl0
      · rename_i h; exact ⟨h, hl0⟩
    refine ⟨b, bs', F1, F2, e, eF, ?_, BackR_noleads hl'.2 h2⟩
    split at h1
    · obtain ⟨vs, t, fr, F3, eF, hh, hc, ht⟩ := h1
      exact ⟨vs, t, fr, F3, eF, hh, hc, TRs_noleads hl'.1 ht⟩
    · exact h1
    · exact h1

/-! ### Contracts -/
def oneVal : List Value → Value
  | [v] => v
  | vs => .tuple vs.toArray
/-- function f does what sp says -/
def FnOk (P : Program) (f : Nat) (sp : FSpec) : Prop :=
  ∀ (w : World) (ok : Nat → Prop) (us : List Value) (x : sp.ins.T) (y : Args.R sp.outs sp.ins.ptrs) (F : List Nat),
    (∀ b, ok b → b < w.heap.size) → ArgsR w ok (ptrBlocks sp.ins us) sp.ins x us F → F.Nodup → (∀ b ∈ F, ¬ ok b ∧ b < w.heap.size) → sp.f x = some y →
    Calls P f us.toArray w fun e w' => ∃ vs ok' F1 F2, e = .returned (oneVal vs) ∧ Grew (· ∈ F) w w' ∧ (∀ b, ok b → ok' b) ∧ (∀ b, ok' b → (ok b ∨ b ∈ F ∨ w.heap.size ≤ b) ∧ b < w'.heap.size) ∧
      ArgsR w' ok' [] sp.outs (rfst sp.outs sp.ins.ptrs y) vs F1 ∧ BackR w' ok' (ptrBlocks sp.ins us) sp.ins.ptrs (rsnd sp.outs sp.ins.ptrs y) (ptrBlocks sp.ins us) F2 ∧
      (F1 ++ F2).Nodup ∧ ∀ b ∈ F1 ++ F2, ¬ ok' b ∧ (b ∈ F ∨ w.heap.size ≤ b)
def EnvOk (P : Program) (Γ : Env) : Prop := ∀ f sp, Γ.at f = some sp → FnOk P f sp ∧ ∃ fn, P.funcs[f]? = some fn ∧ fn.body.isSome = true ∧ fn.name ≠ "runtime.NumGoroutine"
end
end Rig
