/- Part of Rig, a reflective evaluator of this project's own: a function's code, run over typed data by Lean's kernel, gives its contract. No condition. -/
import Derived.Test.YtkmgomipeljdfaaRigOut
import Derived.BigCall
set_option linter.unusedVariables false
set_option linter.unusedSimpArgs false
namespace Rig
open Go
section
variable {P : Program} {w0 w w' : World} {F0 : Own} {s s' : St} {m m' : Nat → Loc} {ok ok' : Nat → Prop} {a : Act} {o : Oper} {next : Act → World → Prop} {Q : Exit → Act → World → Prop}
variable {Θ : Tab} {Γ : Env} {ρ : Type} {k : V → St → Option ρ} {r : ρ}

/-- what the variables hold that were handed over by their addresses -/
def BackR (w : World) (ok : Nat → Prop) : (ptrs : Args) → ptrs.T → List Nat → List Nat → Prop
  | [], _, bs, F => bs = [] ∧ F = []
  | g :: r, y, bs, F => ∃ b bs' vs t fr F1 F2, bs = b :: bs' ∧ F = (b :: F1) ++ F2 ∧ w.heap[b]? = some (.cells vs t fr) ∧ Clean vs fr ∧
      TRs w ok g.cells (afst g r y) vs.toList F1 ∧ BackR w ok r (asnd g r y) bs' F2

theorem All2.impm {α β : Type} {R S : α → β → Prop} {xs : List α} {ys : List β} (h : All2 R xs ys) : (∀ x ∈ xs, ∀ y, R x y → S x y) → All2 S xs ys := by
  induction h with
  | nil => intro _; exact .nil
  | cons h _ ih => intro hi; exact .cons (hi _ (by simp) _ h) (ih fun x hx => hi x (by simp [hx]))
/-- more is ok -/
theorem Rel.okmore (R : Rel w0 F0 s m ok a w) (hm : ∀ b, ok b → ok' b) (hp : ∀ b, ok' b → ¬ pool s m b) (hl : ∀ b, ok' b → b < w.heap.size) (hin : ∀ b, ok' b → F0.ok b ∨ F0 b ∨ w0.heap.size ≤ b) : Rel w0 F0 s m ok' a w where
  defers := R.defers
  size := R.size
  tmps := fun i hi => (R.tmps i hi).keep (fun _ _ => rfl) hm (Nat.le_refl _) (fun _ _ => rfl)
  objs := fun o => (R.objs o).keep (fun _ _ => rfl) hm (Nat.le_refl _) (fun _ _ => rfl) (fun _ _ => rfl)
  live := R.live
  apart := R.apart
  exok := fun o b h => ⟨fun hb => hp b hb ⟨o, h⟩, (R.exok o b h).2⟩
  okold := hl
  okin := hin
  okup := fun b hb => hm b (R.okup b hb)
  grew := R.grew

theorem backVals_ok : ∀ {ptrs : Args} {s : St} {m : Nat → Loc} (R : Rel w0 F0 s m ok a w) {y : ptrs.T} {os bs F : List Nat} (h : BackR w ok ptrs y bs F)
    (ho : All2 (fun o b => o < s.n ∧ (m o).addr = some ⟨b, 0, none⟩ ∧ s.obj o = .dead) os bs) (hnd : os.Nodup) (hf : FreeB w0 F0 s m ok F) {k : St → Option ρ} (hk : backVals ptrs os y s k = some r),
    ∃ s' m', Rel w0 F0 s' m' ok a w ∧ s.n ≤ s'.n ∧ s'.N = s.N ∧ s'.tmps = s.tmps ∧ (∀ o, o < s.n → m' o = m o) ∧ (∀ o, o < s.n → o ∉ os → s'.obj o = s.obj o) ∧ k s' = some r
  | [], s, m, R, y, os, bs, F, h, ho, hnd, hf, k, hk => ⟨s, m, R, Nat.le_refl _, rfl, rfl, fun _ _ => rfl, fun _ _ _ => rfl, hk⟩
  | g :: rest, s, m, R, y, os, bs, F, h, ho, hnd, hf, k, hk => by
    obtain ⟨b, bs', vs, t, fr, F1, F2, e, eF, hh, hc, ht, hrest⟩ := h
    subst e
    subst eF
    match os, ho, hnd, hk with
    | o :: os, .cons ho1 ho2, hnd, hk =>
      obtain ⟨hlt, had, hd⟩ := ho1
      have hf1 : FreeB w0 F0 s m ok F1 := ⟨(List.nodup_cons.1 hf.left.1).2, fun b' hb => hf.left.2 b' (List.mem_cons_of_mem _ hb)⟩
      obtain ⟨cs, s1, m1, R1, E1, hcs, hk1⟩ := outCells_ok R ht hf1 (show (outCells g.cells (afst g rest y) s fun vs s' => V.forces vs fun vs => backVals rest os (asnd g rest y) (s'.setObj o (.box vs)) k) = some r from hk)
      rw [V.forces_eq] at hk1
      have hfb := hf.left.2 b (by simp)
      have hpb : ∀ o', ¬ ex s1 m1 o' b := fun o' ho' => by
        rcases E1.pool b ⟨o', ho'⟩ with hp | hp
        · exact hfb.2.2 hp
        · exact (List.nodup_cons.1 hf.left.1).1 hp
      have hm1 : m1 o = m o := E1.loc o hlt
      have R2 : Rel w0 F0 (s1.setObj o (.box cs)) m1 ok a w := by
        refine R1.revive o (Nat.lt_of_lt_of_le hlt E1.n) (by rw [E1.obj o hlt]; exact hd) (.box cs) (m1 o) rfl ⟨b, vs, t, fr, by rw [hm1]; exact had, hh, hc, hcs⟩ (fun b' hb' _ => ?_)
        have : b = b' := by rw [hm1, had] at hb'; simpa using hb'
        subst this
        exact ⟨hfb.1, hfb.2.1, hpb⟩
      have hpool2 : ∀ b', pool (s1.setObj o (.box cs)) m1 b' → pool s1 m1 b' ∨ b' = b := fun b' ⟨j, h1, h2⟩ => by
        rw [St.obj_setObj] at h2
        by_cases hoj : o = j
        · subst hoj
          rw [hm1, had] at h1
          right; simpa using h1.symm
        · rw [if_neg hoj] at h2
          exact .inl ⟨j, h1, h2⟩
      have hf2 : FreeB w0 F0 (s1.setObj o (.box cs)) m1 ok F2 := ⟨(List.nodup_append.1 hf.1).2.1, fun b' hb' => by
        have h0 := hf.2 b' (List.mem_append_right _ hb')
        refine ⟨h0.1, h0.2.1, fun hp => ?_⟩
        rcases hpool2 b' hp with hp | hp
        · rcases E1.pool b' hp with hp | hp
          · exact h0.2.2 hp
          · exact (List.nodup_append.1 hf.1).2.2 b' (List.mem_cons_of_mem _ hp) b' hb' rfl
        · subst hp
          exact (List.nodup_append.1 hf.1).2.2 b' (by simp) b' hb' rfl⟩
      have ho2' : All2 (fun o b => o < (s1.setObj o (.box cs)).n ∧ (m1 o).addr = some ⟨b, 0, none⟩ ∧ s1.obj o = .dead) os bs' :=
        ho2.imp fun o' b' ⟨h1, h2, h3⟩ => ⟨Nat.lt_of_lt_of_le h1 E1.n, by rw [E1.loc o' h1]; exact h2, by rw [E1.obj o' h1]; exact h3⟩
      have ho3 : All2 (fun o' b => o' < (s1.setObj o (.box cs)).n ∧ (m1 o').addr = some ⟨b, 0, none⟩ ∧ (s1.setObj o (.box cs)).obj o' = .dead) os bs' := by
        have hn : o ∉ os := (List.nodup_cons.1 hnd).1
        exact ho2'.impm fun o' ho' b' ⟨h1, h2, h3⟩ => ⟨h1, h2, by
          rw [St.obj_setObj]
          by_cases he : o = o'
          · subst he; exact absurd ho' hn
          · rw [if_neg he]; exact h3⟩
      obtain ⟨s3, m3, R3, h1, h2, h3, h4, h6, h5⟩ := backVals_ok R2 hrest ho3 (List.nodup_cons.1 hnd).2 hf2 hk1
      exact ⟨s3, m3, R3, Nat.le_trans E1.n h1, h2.trans E1.N, h3.trans E1.tmps, fun o' ho' => (h4 o' (Nat.lt_of_lt_of_le ho' E1.n)).trans (E1.loc o' ho'), fun o' ho' hn' => by
        have hno : o ≠ o' := fun e => hn' (by subst e; simp)
        rw [h6 o' (Nat.lt_of_lt_of_le ho' E1.n) (fun hm => hn' (List.mem_cons_of_mem _ hm)), St.obj_setObj, if_neg hno]
        exact E1.obj o' ho', h5⟩

/-! #### what leads nowhere -/
theorem rdRow_noslice {okx : Nat → Prop} : ∀ {row : List CK} {y : Row row} {f : Nat → Option Value}, anySl row = false → CK.rdRow w ok row y f → CK.rdRow w okx row y f
  | [], _, _, _, h => h
  | [c], y, f, hs, h => by
    cases c with
    | slice r => simp [anySl, CK.isSl] at hs
    | _ => exact h
  | c :: c' :: cs, y, f, hs, h => by
    have hs' : anySl (c' :: cs) = false := by
      unfold anySl at hs
      split at hs
      · cases hs
      · exact hs
    obtain ⟨h1, h2⟩ := h
    refine ⟨?_, rdRow_noslice hs' h2⟩
    cases c with
    | slice r => simp [anySl, CK.isSl] at hs
    | _ => exact h1
theorem TR_noleads {okx : Nat → Prop} {c : CK} {own : Bool} {x : c.ty} {v : Value} {F : List Nat} (hl : leads [(c, own)] = false) (h : TR w ok c own x v F) : TR w okx c own x v F := by
  cases c with
  | slice row =>
    cases own with
    | false => simp [leads] at hl
    | true =>
      have hs : anySl row = false := by
        simp only [leads] at hl
        split at hl
        · cases hl
        · rename_i h; exact h
      obtain ⟨loc, e, ⟨h1, h2, h3, h4⟩, hf⟩ := h
      refine ⟨loc, e, ⟨h1, h2, h3, ?_⟩, hf⟩
      rcases ea : loc.addr with _ | ad
      · rw [ea] at h4; exact h4
      · rw [ea] at h4
        obtain ⟨h5, h6, h7⟩ := h4
        exact ⟨⟨h5.1, fun i y hy => rdRow_noslice hs (h5.2 i y hy)⟩, (fun h => by cases h), h7⟩
  | _ => cases own <;> exact h
theorem leads_cons {c : CK × Bool} {cs : List (CK × Bool)} (h : leads (c :: cs) = false) : leads [c] = false ∧ leads cs = false := by
  obtain ⟨c, own⟩ := c
  cases c with
  | slice row =>
    cases own with
    | false => simp [leads] at h
    | true =>
      simp only [leads] at h ⊢
      split at h
      · cases h
      · exact ⟨rfl, h⟩
  | _ => exact ⟨rfl, by simpa [leads] using h⟩
theorem TRs_noleads {okx : Nat → Prop} : ∀ {cells : List (CK × Bool)} {x : Row (kinds cells)} {vs : List Value} {F : List Nat}, leads cells = false → TRs w ok cells x vs F → TRs w okx cells x vs F
  | [], _, _, _, _, h => h
  | [(c, own)], x, vs, F, hl, h => by
    obtain ⟨v, e, h⟩ := h
    exact ⟨v, e, TR_noleads hl h⟩
  | (c, own) :: c' :: cs, x, vs, F, hl, h => by
    obtain ⟨v, vs', F1, F2, e, eF, h1, h2⟩ := h
    obtain ⟨hl1, hl2⟩ := leads_cons hl
    exact ⟨v, vs', F1, F2, e, eF, TR_noleads hl1 h1, TRs_noleads hl2 h2⟩
theorem ArgsR_noleads {okx : Nat → Prop} : ∀ {outs : Args} {x : outs.T} {vs : List Value} {F : List Nat}, outs.leads = false → ArgsR w ok outs x vs F → ArgsR w okx outs x vs F
  | [], _, _, _, _, h => h
  | g :: r, x, vs, F, hl, h => by
    obtain ⟨v, vs', F1, F2, e, eF, h1, h2⟩ := h
    have hl' : leads g.cells = false ∧ Args.leads r = false := by
      have hl0 : (match Rig.leads g.cells with | true => true | false => Args.leads r) = false := hl
      split at hl0
      · cases hl0
      · rename_i h; exact ⟨h, hl0⟩
    refine ⟨v, vs', F1, F2, e, eF, ?_, ArgsR_noleads hl'.2 h2⟩
    unfold ArgR at h1 ⊢
    split at h1
    · obtain ⟨b, bs, t, fr, F', eu, hh, hc, ht, eF⟩ := h1
      exact ⟨b, bs, t, fr, F', eu, hh, hc, TRs_noleads hl'.1 ht, eF⟩
    · obtain ⟨cs, eu, ht⟩ := h1
      exact ⟨cs, eu, TRs_noleads hl'.1 ht⟩
    · exact TRs_noleads hl'.1 h1

/-! ### Contracts -/
def oneVal : List Value → Value
  | [v] => v
  | vs => .tuple vs.toArray
/-- function f does what sp says -/
def FnOk (P : Program) (f : Nat) (sp : FSpec) : Prop :=
  ∀ (w : World) (ok : Nat → Prop) (us : List Value) (x : sp.ins.T) (y : Args.R sp.outs sp.ins.ptrs) (F : List Nat),
    (∀ b, ok b → b < w.heap.size) → ArgsR w ok sp.ins x us F → F.Nodup → (∀ b ∈ F, ¬ ok b ∧ b < w.heap.size) → sp.f x = some y →
    Calls P f us.toArray w fun e w' => ∃ vs ok' F1 F2, e = .returned (oneVal vs) ∧ Grew (· ∈ F) w w' ∧ (∀ b, ok b → ok' b) ∧ (∀ b, ok' b → (ok b ∨ b ∈ F ∨ w.heap.size ≤ b) ∧ b < w'.heap.size) ∧
      ArgsR w' ok' sp.outs (rfst sp.outs sp.ins.ptrs y) vs F1 ∧ BackR w' ok' sp.ins.ptrs (rsnd sp.outs sp.ins.ptrs y) (ptrBlocks sp.ins us) F2 ∧
      (F1 ++ F2).Nodup ∧ ∀ b ∈ F1 ++ F2, ¬ ok' b ∧ (b ∈ F ∨ w.heap.size ≤ b)
def EnvOk (P : Program) (Γ : Env) : Prop := ∀ f sp, Γ.at f = some sp → FnOk P f sp ∧ ∃ fn, P.funcs[f]? = some fn ∧ fn.body.isSome = true ∧ fn.name ≠ "runtime.NumGoroutine"
end
end Rig
