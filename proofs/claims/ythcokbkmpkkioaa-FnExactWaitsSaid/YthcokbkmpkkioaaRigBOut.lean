/- Part of Rig, a reflective evaluator of this project's own: a function's code, run over typed data by Lean's kernel, gives its contract. No condition. -/
import Derived.Test.YthcokbkmpkkioaaRigBTake6
set_option linter.unusedVariables false
set_option linter.unusedSimpArgs false
namespace Rig
open Go
section
variable {w0 w w' : World} {F0 : Own} {s s' : St} {m m' : Nat → Loc} {ok ok' : Nat → Prop} {a : Act} {ρ : Type} {r : ρ}

/-- new objects, over the blocks F -/
structure Ext (s : St) (m : Nat → Loc) (F : List Nat) (s' : St) (m' : Nat → Loc) : Prop where
  n : s.n ≤ s'.n
  N : s'.N = s.N
  tmps : s'.tmps = s.tmps
  loc : ∀ o, o < s.n → m' o = m o
  obj : ∀ o, o < s.n → s'.obj o = s.obj o
  pool : ∀ b, pool s' m' b → Rig.pool s m b ∨ b ∈ F
theorem Ext.refl (s : St) (m : Nat → Loc) (F : List Nat) : Ext s m F s m := ⟨Nat.le_refl _, rfl, rfl, fun _ _ => rfl, fun _ _ => rfl, fun _ h => .inl h⟩
theorem Ext.trans {s1 s2 : St} {m1 m2 : Nat → Loc} {F1 F2 : List Nat} (h : Ext s m F1 s1 m1) (k : Ext s1 m1 F2 s2 m2) : Ext s m (F1 ++ F2) s2 m2 :=
  ⟨Nat.le_trans h.n k.n, k.N.trans h.N, k.tmps.trans h.tmps, fun o ho => (k.loc o (Nat.lt_of_lt_of_le ho h.n)).trans (h.loc o ho), fun o ho => (k.obj o (Nat.lt_of_lt_of_le ho h.n)).trans (h.obj o ho),
   fun b hb => (k.pool b hb).elim (fun hb => (h.pool b hb).imp id (fun h => List.mem_append_left _ h)) (fun h => .inr (List.mem_append_right _ h))⟩
/-- blocks that are free for new objects -/
def FreeB (w0 : World) (F0 : Own) (s : St) (m : Nat → Loc) (ok : Nat → Prop) (F : List Nat) : Prop := F.Nodup ∧ ∀ b ∈ F, ¬ ok b ∧ (w0.heap.size ≤ b ∨ F0 b) ∧ ¬ pool s m b
theorem FreeB.left {F1 F2 : List Nat} (h : FreeB w0 F0 s m ok (F1 ++ F2)) : FreeB w0 F0 s m ok F1 := ⟨(List.nodup_append.1 h.1).1, fun b hb => h.2 b (List.mem_append_left _ hb)⟩
theorem FreeB.right {F1 F2 : List Nat} (h : FreeB w0 F0 s m ok (F1 ++ F2)) (e : Ext s m F1 s' m') : FreeB w0 F0 s' m' ok F2 :=
  ⟨(List.nodup_append.1 h.1).2.1, fun b hb => ⟨(h.2 b (List.mem_append_right _ hb)).1, (h.2 b (List.mem_append_right _ hb)).2.1, fun hp => by
    rcases e.pool b hp with hp | hp
    · exact (h.2 b (List.mem_append_right _ hb)).2.2 hp
    · exact (List.nodup_append.1 h.1).2.2 b hp b hb rfl⟩⟩
theorem VR1.ext {F : List Nat} (e : Ext s m F s' m') {v : V} {u : Value} (h : VR1 w ok m s.n v u) : VR1 w ok m' s'.n v u := h.keep (fun _ _ => rfl) (fun _ h => h) e.n e.loc
theorem VRa.ext {F : List Nat} (e : Ext s m F s' m') {v : V} {u : Value} (h : VRa w ok m s.n v u) : VRa w ok m' s'.n v u := h.keep (fun _ _ => rfl) (fun _ h => h) e.n e.loc
theorem VR.ext {F : List Nat} (e : Ext s m F s' m') {v : V} {u : Value} (h : VR w ok m s.n v u) : VR w ok m' s'.n v u := h.keep (fun _ _ => rfl) (fun _ h => h) e.n e.loc

theorem put1_ok (R : Rel w0 F0 s m ok a w) {c : CK} {own : Bool} {x : c.ty} {u : Value} {F : List Nat} (h : TR w ok c own x u F) (hf : FreeB w0 F0 s m ok F) {k : V → St → Option ρ} (hk : s.put1 c own x k = some r) :
    ∃ v s' m', Rel w0 F0 s' m' ok a w ∧ Ext s m F s' m' ∧ VR1 w ok m' s'.n v u ∧ k v s' = some r := by
  have plain : c.rd w ok x u → s.put1 c own x k = k (V.of c x) s → ∃ v s' m', Rel w0 F0 s' m' ok a w ∧ Ext s m F s' m' ∧ VR1 w ok m' s'.n v u ∧ k v s' = some r :=
    fun hr e => ⟨V.of c x, s, m, R, Ext.refl _ _ _, VR1_of c x u hr, by rw [← e]; exact hk⟩
  cases own with
  | false => cases c <;> exact plain h.1 rfl
  | true =>
    cases c with
    | slice row =>
      obtain ⟨loc, e, ho, hF⟩ := h
      have hk' : k (.own s.n) (s.new (.arr row x false)) = some r := hk
      refine ⟨.own s.n, s.new (.arr row x false), upd m s.n loc, R.new _ loc ?_ (fun b hb _ => ?_), ⟨Nat.le_succ _, rfl, rfl, fun o ho => upd_ne m loc (by omega), fun o ho => by rw [St.obj_new, if_neg (by omega)], fun b hb => ?_⟩, ⟨Nat.lt_succ_self _, by rw [upd_same]; exact e⟩, hk'⟩
      · exact ho
      · have hbF : b ∈ F := by rw [hF, hb]; simp
        exact ⟨(hf.2 b hbF).1, (hf.2 b hbF).2.1, fun o' ho' => (hf.2 b hbF).2.2 ⟨o', ho'⟩⟩
      · obtain ⟨o, h1, h2⟩ := hb
        rw [St.obj_new] at h2
        by_cases hso : s.n = o
        · subst hso
          rw [upd_same] at h1
          right
          rw [hF, h1]; simp
        · rw [if_neg hso] at h2
          rw [upd_ne m loc hso] at h1
          exact .inl ⟨o, h1, h2⟩
    | map =>
      obtain ⟨b, es, clk, e, hh, hM, hF⟩ := h
      have hk' : k (.map s.n) (s.new (.map x)) = some r := hk
      refine ⟨.map s.n, s.new (.map x), upd m s.n ⟨some ⟨b, 0, none⟩, 0, 0, 0⟩, R.new _ _ ⟨b, es, clk, rfl, hh, hM⟩ (fun b' hb _ => ?_), ⟨Nat.le_succ _, rfl, rfl, fun o ho => upd_ne m _ (by omega), fun o ho => by rw [St.obj_new, if_neg (by omega)], fun b' hb => ?_⟩, ⟨Nat.lt_succ_self _, b, by rw [upd_same], e⟩, hk'⟩
      · have hbF : b' ∈ F := by
          have : b = b' := by simpa using hb
          rw [hF, this]; simp
        exact ⟨(hf.2 b' hbF).1, (hf.2 b' hbF).2.1, fun o' ho' => (hf.2 b' hbF).2.2 ⟨o', ho'⟩⟩
      · obtain ⟨o, h1, h2⟩ := hb
        rw [St.obj_new] at h2
        by_cases hso : s.n = o
        · subst hso
          rw [upd_same] at h1
          right
          have : b = b' := by simpa using h1
          rw [hF, this]; simp
        · rw [if_neg hso] at h2
          rw [upd_ne m _ hso] at h1
          exact .inl ⟨o, h1, h2⟩
    | _ => exact plain h.1 rfl
theorem outCells_ok : ∀ {cells : List (CK × Bool)} {s : St} {m : Nat → Loc} (R : Rel w0 F0 s m ok a w) {x : Row (kinds cells)} {us : List Value} {F : List Nat} (h : TRs w ok cells x us F) (hf : FreeB w0 F0 s m ok F) {k : List V → St → Option ρ} (hk : outCells cells x s k = some r),
    ∃ vs s' m', Rel w0 F0 s' m' ok a w ∧ Ext s m F s' m' ∧ All2 (VR1 w ok m' s'.n) vs us ∧ k vs s' = some r
  | [], s, m, R, x, us, F, h, hf, k, hk => by
    obtain ⟨e, eF⟩ := h
    subst e
    exact ⟨[], s, m, R, Ext.refl _ _ _, .nil, hk⟩
  | [(c, own)], s, m, R, x, us, F, h, hf, k, hk => by
    obtain ⟨u, e, h⟩ := h
    subst e
    obtain ⟨v, s', m', R', E, hv, hk'⟩ := put1_ok R h hf (show s.put1 c own x (fun v s' => k [v] s') = some r from hk)
    exact ⟨[v], s', m', R', E, .cons hv .nil, hk'⟩
  | (c, own) :: c' :: cs, s, m, R, x, us, F, h, hf, k, hk => by
    obtain ⟨u, us', F1, F2, e, eF, h1, h2⟩ := h
    subst e
    subst eF
    obtain ⟨v, s1, m1, R1, E1, hv, hk1⟩ := put1_ok R h1 hf.left (show s.put1 c own x.1 (fun v s' => outCells (c' :: cs) x.2 s' fun vs s'' => k (v :: vs) s'') = some r from hk)
    obtain ⟨vs, s2, m2, R2, E2, hvs, hk2⟩ := outCells_ok R1 h2 (hf.right E1) hk1
    exact ⟨v :: vs, s2, m2, R2, E1.trans E2, .cons (hv.ext E2) hvs, hk2⟩

theorem VR_mkV0 {n : Nat} {vs : List V} {u : Value} (h : All2 (VR1 w ok m n) vs [u]) : VRa w ok m n (mkV false vs) u := by
  cases h with
  | cons h ht => cases ht with
    | nil => exact VRa_of_1 h

/-- a variable of its own comes as an object -/
theorem new_box (R : Rel w0 F0 s m ok a w) {vs : List V} {b : Nat} {us : Array Value} {t : TypeId} {fr : Nat × Nat} (hh : w.heap[b]? = some (.cells us t fr)) (hc : Clean us fr) (ha : All2 (VR1 w ok m s.n) vs us.toList)
    (hf : FreeB w0 F0 s m ok [b]) : Rel w0 F0 (s.new (.box vs)) (upd m s.n ⟨some ⟨b, 0, none⟩, 0, 0, 0⟩) ok a w ∧ Ext s m [b] (s.new (.box vs)) (upd m s.n ⟨some ⟨b, 0, none⟩, 0, 0, 0⟩) := by
  refine ⟨R.new _ _ ⟨b, us, t, fr, rfl, hh, hc, ha.imp fun _ _ h => h.keep (fun _ _ => rfl) (fun _ h => h) (Nat.le_succ _) (fun o ho => upd_ne m _ (by omega))⟩ (fun b' hb _ => ?_), ⟨Nat.le_succ _, rfl, rfl, fun o ho => upd_ne m _ (by omega), fun o ho => by rw [St.obj_new, if_neg (by omega)], fun b' hb => ?_⟩⟩
  · have : b = b' := by simpa using hb
    subst this
    exact ⟨(hf.2 b (by simp)).1, (hf.2 b (by simp)).2.1, fun o' ho' => (hf.2 b (by simp)).2.2 ⟨o', ho'⟩⟩
  · obtain ⟨o, h1, h2⟩ := hb
    rw [St.obj_new] at h2
    by_cases hso : s.n = o
    · subst hso
      rw [upd_same] at h1
      have : b = b' := by simpa using h1
      subst this
      exact .inr (by simp)
    · rw [if_neg hso] at h2
      rw [upd_ne m _ hso] at h1
      exact .inl ⟨o, h1, h2⟩

theorem outCells_none : ∀ (cells : List (CK × Bool)) (x : Row (kinds cells)) (s : St), outCells cells x s (fun _ _ => (none : Option ρ)) = none := by
  intro cells
  induction cells with
  | nil => intro x s; rfl
  | cons d ds ih =>
    obtain ⟨c, own⟩ := d
    intro x s
    have hp : ∀ (x : c.ty) (k : V → St → Option ρ), (∀ v s, k v s = none) → s.put1 c own x k = none := fun x k hk => by
      cases own <;> cases c <;> exact hk _ _
    cases ds with
    | nil => exact hp _ _ fun _ _ => rfl
    | cons d2 ds => exact hp _ _ fun v s => ih _ _
theorem outVals_ok : ∀ {outs : Args} {s : St} {m : Nat → Loc} (R : Rel w0 F0 s m ok a w) {x : outs.T} {us : List Value} {F : List Nat} {gs : List Nat} (h : ArgsR w ok gs outs x us F) (hf : FreeB w0 F0 s m ok F) {k : List V → St → Option ρ} (hk : outVals outs x s k = some r),
    ∃ vs s' m', Rel w0 F0 s' m' ok a w ∧ Ext s m F s' m' ∧ All2 (VRa w ok m' s'.n) vs us ∧ k vs s' = some r
  | [], s, m, R, x, us, F, gs, h, hf, k, hk => by
    obtain ⟨e, eF⟩ := h
    subst e
    exact ⟨[], s, m, R, Ext.refl _ _ _, .nil, hk⟩
  | g :: rest, s, m, R, x, us, F, gs, h, hf, k, hk => by
    obtain ⟨u, us', F1, F2, e, eF, h1, h2⟩ := h
    subst e
    subst eF
    have hk' : (outCells g.cells (afst g rest x) s fun vs s' => match g.mode with
      | 2 => outVals rest (asnd g rest x) (s'.new (.box vs)) fun ws s'' => k (.ptr s'.n 0 :: ws) s''
      | 1 => outVals rest (asnd g rest x) s' fun ws s'' => k (.agg vs :: ws) s''
      | 0 => outVals rest (asnd g rest x) s' fun ws s'' => k (mkV false vs :: ws) s''
      | _ => none) = some r := hk
    unfold ArgR at h1
    split at h1
    · rename_i hm
      obtain ⟨b, bs, t, fr, F', eu, hh, hc, ht, eF⟩ := h1
      subst eF
      have hf1 : FreeB w0 F0 s m ok F' := ⟨(List.nodup_cons.1 hf.left.1).2, fun b' hb => hf.left.2 b' (List.mem_cons_of_mem _ hb)⟩
      obtain ⟨vs, s1, m1, R1, E1, hvs, hk1⟩ := outCells_ok R ht hf1 hk'
      rw [hm] at hk1
      have hfb : FreeB w0 F0 s1 m1 ok [b] := ⟨List.nodup_cons.2 ⟨by simp, List.nodup_nil⟩, fun b' hb => by
        have : b' = b := by simpa using hb
        subst this
        have h0 := hf.left.2 b' (by simp)
        refine ⟨h0.1, h0.2.1, fun hp => ?_⟩
        rcases E1.pool b' hp with hp | hp
        · exact h0.2.2 hp
        · exact (List.nodup_cons.1 hf.left.1).1 hp⟩
      obtain ⟨R2, E2⟩ := new_box R1 hh hc hvs hfb
      have E12 : Ext s m (b :: F') (s1.new (.box vs)) (upd m1 s1.n ⟨some ⟨b, 0, none⟩, 0, 0, 0⟩) := by
        have := E1.trans E2
        exact ⟨this.n, this.N, this.tmps, this.loc, this.obj, fun b' hb => (this.pool b' hb).imp id (fun h => by simp at h ⊢; exact h.symm)⟩
      obtain ⟨ws, s3, m3, R3, E3, hws, hk3⟩ := outVals_ok R2 h2 (hf.right E12) hk1
      refine ⟨_, s3, m3, R3, E12.trans E3, .cons ?_ hws, hk3⟩
      have hv : VRa w ok (upd m1 s1.n ⟨some ⟨b, 0, none⟩, 0, 0, 0⟩) (s1.new (.box vs)).n (.ptr s1.n 0) u := by
        refine ⟨Nat.lt_succ_self _, ⟨b, 0, none⟩, by rw [upd_same], eu⟩
      exact hv.ext E3
    · rename_i hm
      exfalso
      rw [hm] at hk'
      exact absurd ((outCells_none _ _ _).symm.trans hk') nofun
    · rename_i hm
      exfalso
      rw [hm] at hk'
      exact absurd ((outCells_none _ _ _).symm.trans hk') nofun
    · rename_i hm
      obtain ⟨cs, eu, ht⟩ := h1
      obtain ⟨vs, s1, m1, R1, E1, hvs, hk1⟩ := outCells_ok R ht hf.left hk'
      rw [hm] at hk1
      obtain ⟨ws, s3, m3, R3, E3, hws, hk3⟩ := outVals_ok R1 h2 (hf.right E1) hk1
      have hv : VRa w ok m1 s1.n (.agg vs) u := ⟨cs, eu, hvs⟩
      exact ⟨_, s3, m3, R3, E1.trans E3, .cons (hv.ext E3) hws, hk3⟩
    · rename_i hm2 hm3 hm4 hm1
      obtain ⟨vs, s1, m1, R1, E1, hvs, hk1⟩ := outCells_ok R h1 hf.left hk'
      split at hk1
      · rename_i e; exact absurd e hm2
      · rename_i e; exact absurd e hm1
      · obtain ⟨ws, s3, m3, R3, E3, hws, hk3⟩ := outVals_ok R1 h2 (hf.right E1) hk1
        exact ⟨_, s3, m3, R3, E1.trans E3, .cons ((VR_mkV0 hvs).ext E3) hws, hk3⟩
      · cases hk1
theorem outVals_modes {outs : Args} {x : outs.T} {k : List V → St → Option ρ} (hk : outVals outs x s k = some r) : ∀ g ∈ outs, g.mode ≤ 2 := by
  have any : ∀ (cells : List (CK × Bool)) (x : Row (kinds cells)) (s : St) (k : List V → St → Option ρ), outCells cells x s k = some r → ∃ vs s', k vs s' = some r := by
    intro cells
    induction cells with
    | nil => intro x s k h; exact ⟨_, _, h⟩
    | cons d ds ih =>
      obtain ⟨c, own⟩ := d
      intro x s k h
      have hp : ∀ (x : c.ty) (k : V → St → Option ρ), s.put1 c own x k = some r → ∃ v s', k v s' = some r := fun x k hk => by
        cases own <;> cases c <;> exact ⟨_, _, hk⟩
      cases ds with
      | nil => obtain ⟨v, s', h⟩ := hp _ _ h; exact ⟨_, _, h⟩
      | cons d2 ds => obtain ⟨v, s', h⟩ := hp _ _ h; obtain ⟨vs, s2, h⟩ := ih _ _ _ h; exact ⟨_, _, h⟩
  have anyv : ∀ (outs : Args) (x : outs.T) (s : St) (k : List V → St → Option ρ), outVals outs x s k = some r → ∀ g ∈ outs, g.mode ≤ 2 := by
    intro outs
    induction outs with
    | nil => intro x s k _; exact nofun
    | cons g rest ih =>
      intro x s k h g' hg'
      have h' : (outCells g.cells (afst g rest x) s fun vs s' => match g.mode with
        | 2 => outVals rest (asnd g rest x) (s'.new (.box vs)) fun ws s'' => k (.ptr s'.n 0 :: ws) s''
        | 1 => outVals rest (asnd g rest x) s' fun ws s'' => k (.agg vs :: ws) s''
        | 0 => outVals rest (asnd g rest x) s' fun ws s'' => k (mkV false vs :: ws) s''
        | _ => none) = some r := h
      obtain ⟨vs, s', h2⟩ := any _ _ _ _ h'
      split at h2
      · rename_i e
        rcases List.mem_cons.1 hg' with rfl | hg'
        · omega
        · exact ih _ _ _ h2 g' hg'
      · rename_i e
        rcases List.mem_cons.1 hg' with rfl | hg'
        · omega
        · exact ih _ _ _ h2 g' hg'
      · rename_i e
        rcases List.mem_cons.1 hg' with rfl | hg'
        · omega
        · exact ih _ _ _ h2 g' hg'
      · cases h2
  exact anyv _ _ _ _ hk
end
end Rig
