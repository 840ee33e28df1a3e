/- Part of Rig, a reflective evaluator of this project's own: a function's code, run over typed data by Lean's kernel, gives its contract. No condition. -/
import Derived.Test.YthcokbkmpkkioaaRigBBody
set_option linter.unusedVariables false
set_option linter.unusedSimpArgs false
namespace Rig
open Go
section
variable {P : Program} {w0 w w' : World} {F0 : Own} {s s' : St} {m m' : Nat → Loc} {ok ok' : Nat → Prop} {a : Act} {Q : Exit → Act → World → Prop}
variable {Θ : Tab} {Γ : Env} {ρ : Type} {r : ρ}

/-- the variables' blocks, by their numbers -/
def BaseOf (base : Nat → Loc) : Nat → List Nat → Prop
  | _, [] => True
  | o, b :: bs => (base o).addr = some ⟨b, 0, none⟩ ∧ BaseOf base (o + 1) bs
/-- the closures' variables are variables that were handed over -/
def JsOk (kp : Nat) (ins : Args) : Prop := ∀ g ∈ ins, g.mode ≤ 4 ∧ (g.mode = 3 → ∀ j ∈ g.js, j < kp)
theorem JsOk.cons3 {kp : Nat} {g : Arg} {r : Args} (h : JsOk kp r) (hm : g.mode = 3) (hj : ∀ j ∈ g.js, j < kp) : JsOk kp (g :: r) := fun g' hg' => by
  rcases List.mem_cons.1 hg' with rfl | hg'
  · exact ⟨by omega, fun _ => hj⟩
  · exact h g' hg'
theorem JsOk.cons {kp : Nat} {g : Arg} {r : Args} (h : JsOk kp r) (hj : g.mode ≤ 4 ∧ g.mode ≠ 3) : JsOk kp (g :: r) := fun g' hg' => by
  rcases List.mem_cons.1 hg' with rfl | hg'
  · exact ⟨hj.1, fun e => absurd e hj.2⟩
  · exact h g' hg'
theorem JsOk.ptrs {kp : Nat} : ∀ {ins : Args}, JsOk kp ins → JsOk kp ins.ptrs
  | [], h => h
  | g :: r, h => by
    have hr : JsOk kp (Args.ptrs r) := JsOk.ptrs (ins := r) fun g' hg' => h g' (List.mem_cons_of_mem _ hg')
    rw [ptrs_cons]
    split
    · intro g' hg'
      rcases List.mem_cons.1 hg' with rfl | hg'
      · exact h g' (by simp)
      · exact hr g' hg'
    · exact hr
theorem initArgs_ok {base : Nat → Loc} {kp : Nat} {pb : List Nat} (hpb : ∀ j, j < kp → (base j).addr = some ⟨pb.getD j 0, 0, none⟩) {k : St → Option ρ} : ∀ {ins : Args} {i o : Nat} {s : St} {m : Nat → Loc} (R : Rel w0 F0 s m ok a w) {x : ins.T} {us : List Value} {F : List Nat}, ArgsR w ok pb ins x us F →
    (∀ j u, us[j]? = some u → a.tmps.getD (i + j) undef = u) → BaseOf base o (ptrBlocks ins us) → o + ins.ptrs.length ≤ kp →
    FreeB w0 F0 s m ok F → Pars kp base s m → DeadOrBox kp s → initArgs kp ins x i o s k = some r → ∃ s' m', Rel w0 F0 s' m' ok a w ∧ s'.N = s.N ∧ Pars kp base s' m' ∧ k s' = some r ∧ JsOk kp ins
  | [], i, o, s, m, R, x, us, F, h, hus, hbs, hkp, hf, hp, hd, hk => ⟨s, m, R, rfl, hp, hk, nofun⟩
  | g :: rest, i, o, s, m, R, x, us, F, h, hus, hbs, hkp, hf, hp, hd, hk => by
    obtain ⟨u, us', F1, F2, e, eF, h1, h2⟩ := h
    subst e
    subst eF
    have hu : a.tmps.getD i undef = u := hus 0 u rfl
    have hus' : ∀ j u, us'[j]? = some u → a.tmps.getD (i + 1 + j) undef = u := fun j u hj => by
      have := hus (j + 1) u (by simpa using hj)
      rw [← this]; congr 1; omega
    have hk' : (match g.mode with
      | 2 => outCells g.cells (afst g rest x) s fun vs s' => V.forces vs fun vs => initArgs kp rest (asnd g rest x) (i + 1) (o + 1) ((s'.setObj o (.box vs)).setTmp i (.ptr o 0)) k
      | 3 => match lall (fun j => Nat.blt j kp) g.js with
        | true => initArgs kp rest (asnd g rest x) (i + 1) (o + 1) ((s.setObj o (.box [.clo g.fn g.js])).setTmp i (.ptr o 0)) k
        | false => none
      | 4 => initArgs kp rest (asnd g rest x) (i + 1) (o + 1) ((s.setObj o (.fbox (kinds g.cells) (afst g rest x))).setTmp i (.ptr o 0)) k
      | 1 => outCells g.cells (afst g rest x) s fun vs s' => V.forces vs fun vs => initArgs kp rest (asnd g rest x) (i + 1) o (s'.setTmp i (.agg vs)) k
      | 0 => outCells g.cells (afst g rest x) s fun vs s' => V.forces vs fun vs => initArgs kp rest (asnd g rest x) (i + 1) o (s'.setTmp i (mkV false vs)) k
      | _ => none) = some r := hk
    have dob : ∀ {s1 : St} {j : Nat} {ob : Obj}, (ob = .dead ∨ (∃ cs, ob = .box cs) ∨ ∃ row x, ob = .fbox row x) → (∀ j', j' < kp → s1.obj j' = s.obj j') → ∀ v, DeadOrBox kp ((s1.setObj j ob).setTmp i v) := fun {s1 j ob} hob hs v j' hj' => by
      rw [show ((s1.setObj j ob).setTmp i v).obj j' = (s1.setObj j ob).obj j' from rfl, St.obj_setObj]
      by_cases hjj : j = j'
      · rw [if_pos hjj]; exact hob
      · rw [if_neg hjj, hs j' hj']; exact hd j' hj'
    by_cases hm : 2 ≤ g.mode
    · have hpl : (Args.ptrs (g :: rest)).length = (Args.ptrs rest).length + 1 := by rw [ptrs_cons, if_pos hm]; rfl
      rw [hpl] at hkp
      have ho : o < kp := by omega
      have hon : o < s.n := Nat.lt_of_lt_of_le ho hp.1
      have hpt : ptrBlocks (g :: rest) (u :: us') = blk u ++ ptrBlocks rest us' := by simp [ptrBlocks, hm]
      rw [hpt] at hbs
      unfold ArgR at h1
      split at h1
      · rename_i hm2
        obtain ⟨b, bs, t, fr, F', eu, hh, hc, ht, eF⟩ := h1
        subst eF
        rw [eu] at hbs
        obtain ⟨hb0, hbs⟩ := hbs
        rw [hm2] at hk'
        obtain ⟨vs, s1, m1, R1, E1, hvs, hk1⟩ := outCells_ok R ht hf.sub1.1 hk'
        rw [V.forces_eq] at hk1
        have hb := hf.one E1
        have hm1 : m1 o = base o := (E1.loc o hon).trans (hp.2 o ho)
        have hdead : s1.obj o = .dead := by
          rw [E1.obj o hon]
          exact slot_dead R hon (hd o ho) (by rw [hp.2 o ho]; exact hb0) ⟨hb.1, fun hpp => hb.2.2 (by
            obtain ⟨j, h1, h2⟩ := hpp
            have hjn := obj_lt R (o := j) (fun e => by rw [e] at h2; exact h2)
            exact ⟨j, by rw [E1.loc j hjn]; exact h1, by rw [E1.obj j hjn]; exact h2⟩)⟩
        obtain ⟨R2, hpool⟩ := par_box R1 (Nat.lt_of_lt_of_le hon E1.n) hdead (by rw [hm1]; exact hb0) hh hc hvs hb
        have R3 : Rel w0 F0 ((s1.setObj o (.box vs)).setTmp i (.ptr o 0)) m1 ok a w := R2.retmp i (v := .ptr o 0) ⟨Nat.lt_of_lt_of_le hon E1.n, ⟨b, 0, none⟩, by rw [hm1]; exact hb0, by rw [hu, eu]⟩
        obtain ⟨s3, m3, R4, hN, hp3, hk3, hj3⟩ := initArgs_ok hpb R3 h2 hus' hbs (by omega) (hf.after E1 (s2 := (s1.setObj o (.box vs)).setTmp i (.ptr o 0)) hpool)
          ⟨Nat.le_trans hp.1 E1.n, fun j hj => (E1.loc j (Nat.lt_of_lt_of_le hj hp.1)).trans (hp.2 j hj)⟩
          (dob (.inr (.inl ⟨vs, rfl⟩)) (fun j' hj' => E1.obj j' (Nat.lt_of_lt_of_le hj' hp.1)) _) hk1
        exact ⟨s3, m3, R4, hN.trans E1.N, hp3, hk3, hj3.cons ⟨by omega, by omega⟩⟩
      · rename_i hm3
        obtain ⟨b, t, fr, eu, hh, hc, eF⟩ := h1
        subst eF
        rw [eu] at hbs
        obtain ⟨hb0, hbs⟩ := hbs
        rw [hm3] at hk'
        simp only at hk'
        split at hk'
        case h_2 => cases hk'
        rename_i hjs
        have hjs := lall_blt hjs
        have hb := hf.left.2 b (by simp)
        have hdead : s.obj o = .dead := slot_dead R hon (hd o ho) (by rw [hp.2 o ho]; exact hb0) ⟨hb.1, hb.2.2⟩
        have hcl : VR1 w ok m s.n (.clo g.fn g.js) (cloVal g.fn g.js pb) := ⟨g.js.map fun j => Value.pointer (some ⟨pb.getD j 0, 0, none⟩), rfl, by
          have : ∀ js : List Nat, (∀ j ∈ js, j < kp) → All2 (PtrTo m s.n) js (js.map fun j => Value.pointer (some ⟨pb.getD j 0, 0, none⟩)) := fun js => by
            induction js with
            | nil => intro _; exact .nil
            | cons j js ih => intro hj; exact .cons ⟨Nat.lt_of_lt_of_le (hj j (by simp)) hp.1, ⟨pb.getD j 0, 0, none⟩, by rw [hp.2 j (hj j (by simp))]; exact hpb j (hj j (by simp)), rfl⟩ (ih fun j' hj' => hj j' (by simp [hj']))
          exact this g.js hjs⟩
        obtain ⟨R2, hpool⟩ := par_box R hon hdead (by rw [hp.2 o ho]; exact hb0) hh hc (.cons hcl .nil) hb
        have R3 : Rel w0 F0 ((s.setObj o (.box [.clo g.fn g.js])).setTmp i (.ptr o 0)) m ok a w := R2.retmp i (v := .ptr o 0) ⟨hon, ⟨b, 0, none⟩, by rw [hp.2 o ho]; exact hb0, by rw [hu, eu]⟩
        obtain ⟨s3, m3, R4, hN, hp3, hk3, hj3⟩ := initArgs_ok hpb R3 h2 hus' hbs (by omega) ⟨(List.nodup_append.1 hf.1).2.1, fun b' hb' => by
            have h0 := hf.2 b' (List.mem_append_right _ hb')
            refine ⟨h0.1, h0.2.1, fun hpp => ?_⟩
            rcases hpool b' hpp with hpp | hpp
            · exact h0.2.2 hpp
            · subst hpp; exact (List.nodup_append.1 hf.1).2.2 b' (by simp) b' hb' rfl⟩ hp
          (dob (.inr (.inl ⟨_, rfl⟩)) (fun j' hj' => rfl) _) hk'
        exact ⟨s3, m3, R4, hN, hp3, hk3, hj3.cons3 hm3 hjs⟩
      · rename_i hm4
        obtain ⟨b, eu, hokb, hlt, hra, eF⟩ := h1
        subst eF
        rw [eu] at hbs
        obtain ⟨hb0, hbs⟩ := hbs
        rw [hm4] at hk'
        simp only at hk'
        have R2 : Rel w0 F0 (s.setObj o (.fbox (kinds g.cells) (afst g rest x))) m ok a w := R.setObj o _ (fun h => by omega) ⟨b, by rw [hp.2 o ho]; exact hb0, hokb, hlt, hra⟩ (fun b' h => by
          have := h.2
          rw [St.obj_setObj, if_pos rfl] at this
          exact this.elim)
        have hpool : ∀ b', pool (s.setObj o (.fbox (kinds g.cells) (afst g rest x))) m b' → pool s m b' := fun b' ⟨j, h1, h2⟩ => by
          rw [St.obj_setObj] at h2
          by_cases hjo : o = j
          · rw [if_pos hjo] at h2; exact h2.elim
          · rw [if_neg hjo] at h2; exact ⟨j, h1, h2⟩
        have R3 := R2.retmp i (v := .ptr o 0) ⟨hon, ⟨b, 0, none⟩, by rw [hp.2 o ho]; exact hb0, by rw [hu, eu]⟩
        have hf' : FreeB w0 F0 s m ok F2 := by simpa using hf
        obtain ⟨s3, m3, R4, hN, hp3, hk3, hj3⟩ := initArgs_ok hpb R3 h2 hus' hbs (by omega) ⟨hf'.1, fun b' hb' => ⟨(hf'.2 b' hb').1, (hf'.2 b' hb').2.1, fun hpp => (hf'.2 b' hb').2.2 (hpool b' hpp)⟩⟩ hp
          (dob (.inr (.inr ⟨_, _, rfl⟩)) (fun j' hj' => rfl) _) hk'
        exact ⟨s3, m3, R4, hN, hp3, hk3, hj3.cons ⟨by omega, by omega⟩⟩
      · rename_i hm1; omega
      · rename_i n1 n2 n3 n4
        split at hk'
        · rename_i e; exact absurd e n1
        · rename_i e; exact absurd e n2
        · rename_i e; exact absurd e n3
        · rename_i e; exact absurd e n4
        · rename_i e; omega
        · cases hk'
    · have hpl : Args.ptrs (g :: rest) = Args.ptrs rest := by rw [ptrs_cons, if_neg hm]
      rw [hpl] at hkp
      have hpt : ptrBlocks (g :: rest) (u :: us') = ptrBlocks rest us' := by simp [ptrBlocks, hm]
      rw [hpt] at hbs
      unfold ArgR at h1
      split at h1
      · rename_i e; omega
      · rename_i e; omega
      · rename_i e; omega
      · rename_i hm1
        obtain ⟨cs, eu, ht⟩ := h1
        rw [hm1] at hk'
        obtain ⟨vs, s1, m1, R1, E1, hvs, hk1⟩ := outCells_ok R ht hf.left hk'
        rw [V.forces_eq] at hk1
        have hf2 : FreeB w0 F0 s1 m1 ok F2 := hf.right E1
        have R2 : Rel w0 F0 (s1.setTmp i (.agg vs)) m1 ok a w := R1.retmp i (v := .agg vs) ⟨cs, by rw [hu, eu], hvs⟩
        obtain ⟨s3, m3, R3, hN, hp3, hk3, hj3⟩ := initArgs_ok hpb R2 h2 hus' hbs hkp hf2 ⟨Nat.le_trans hp.1 E1.n, fun j hj => (E1.loc j (Nat.lt_of_lt_of_le hj hp.1)).trans (hp.2 j hj)⟩
          (fun j hj => by rw [show (s1.setTmp i (.agg vs)).obj j = s.obj j from E1.obj j (Nat.lt_of_lt_of_le hj hp.1)]; exact hd j hj) hk1
        exact ⟨s3, m3, R3, hN.trans E1.N, hp3, hk3, hj3.cons ⟨by omega, by omega⟩⟩
      · rename_i n1 n2 n3 n4
        split at hk'
        · rename_i e; exact absurd e n1
        · rename_i e; exact absurd e n2
        · rename_i e; exact absurd e n3
        · rename_i e; exact absurd e n4
        case h_6 => cases hk'
        obtain ⟨vs, s1, m1, R1, E1, hvs, hk1⟩ := outCells_ok R h1 hf.left hk'
        rw [V.forces_eq] at hk1
        have hf2 : FreeB w0 F0 s1 m1 ok F2 := hf.right E1
        have R2 : Rel w0 F0 (s1.setTmp i (mkV false vs)) m1 ok a w := R1.retmp i (v := mkV false vs) (by rw [hu]; exact VR_of_a (VR_mkV0 hvs))
        obtain ⟨s3, m3, R3, hN, hp3, hk3, hj3⟩ := initArgs_ok hpb R2 h2 hus' hbs hkp hf2 ⟨Nat.le_trans hp.1 E1.n, fun j hj => (E1.loc j (Nat.lt_of_lt_of_le hj hp.1)).trans (hp.2 j hj)⟩
          (fun j hj => by rw [show (s1.setTmp i (mkV false vs)).obj j = s.obj j from E1.obj j (Nat.lt_of_lt_of_le hj hp.1)]; exact hd j hj) hk1
        exact ⟨s3, m3, R3, hN.trans E1.N, hp3, hk3, hj3.cons ⟨by omega, by omega⟩⟩

/-! #### the end -/
def readRes (P : Program) (tmps : Array Value) (rv : ResultVar) : Sem Value := match rv with
  | .tmp t => pure (tmps.getD t undef)
  | .cell a t => do loadVar t (← asAddr (tmps.getD a undef))
theorem resVals_ok (hΘ : TabOk P Θ) (R : Rel w0 F0 s m ok a w) : ∀ {rs : List ResultVar} {vs : List V}, resVals Θ s rs = some vs →
    ∃ us, (rs.mapM (readRes P a.tmps)).run P w = .ok us w ∧ All2 (VR w ok m s.n) vs us
  | [], vs, h => by
    have := Option.some.inj (show some [] = some vs from h)
    subst this
    exact ⟨[], rfl, .nil⟩
  | rv :: rs, vs, h => by
    unfold resVals at h
    split at h
    case h_2 => cases h
    rename_i v hv
    split at h
    case h_2 => cases h
    rename_i vs' hvs
    cases h
    obtain ⟨us, hr, hA⟩ := resVals_ok hΘ R hvs
    have one : ∃ u, (readRes P a.tmps rv).run P w = .ok u w ∧ VR w ok m s.n v u := by
      unfold resVal at hv
      split at hv
      · rename_i t
        cases hv
        exact ⟨_, rfl, VR_tmp R t⟩
      · rename_i t ty
        split at hv
        case h_2 => cases hv
        rename_i ti ob hti htp
        split at hv
        case h_2 => cases hv
        rename_i cs hob
        split at hv
        case h_2 => cases hv
        rename_i hf
        cases hv
        have ht := hΘ ty ti hti
        have hp := VR_tmp R t
        rw [htp] at hp
        obtain ⟨_, ad, had, hu⟩ := hp
        have hor := R.objs ob
        rw [hob] at hor
        obtain ⟨b, bs, ty', fr, he, hh, _, ha⟩ := hor
        rw [had] at he
        cases he
        obtain ⟨u, hru, hV⟩ := run_load_cut (w := w) (ok := ok) (m := m) ht s.n b 0 0 cs bs.toList (fun j u hu => by
          simp only [World.cell?, hh]
          simpa using hu) ha (by rw [← llen_eq]; exact hf)
        refine ⟨u, ?_, hV⟩
        have hu' : a.tmps.getD t undef = .pointer (some ⟨b, 0, none⟩) := hu
        simp only [readRes, hu']
        simpa [asAddr] using hru
    obtain ⟨u, hu, hV⟩ := one
    exact ⟨u :: us, by simp [List.mapM_cons, hu, hr], .cons hV hA⟩

theorem run_results {fn : Func} {tmps : Array Value} {us : List Value} (h : (fn.results.toList.mapM (readRes P tmps)).run P w = .ok us w) : (results fn tmps).run P w = .ok (oneVal us) w := by
  have e : fn.results.mapM (readRes P tmps) = List.toArray <$> fn.results.toList.mapM (readRes P tmps) := Array.mapM_eq_mapM_toList
  have h2 : (fn.results.mapM (readRes P tmps)).run P w = .ok us.toArray w := by rw [e]; simp [h]
  have h3 : results fn tmps = (do let vs ← fn.results.mapM (readRes P tmps); pure (if h : vs.size = 1 then vs[0] else .tuple vs)) := by
    unfold results
    congr 1
  rw [h3, Sem.run_bind, h2]
  match us with
  | [] => rfl
  | [u] => rfl
  | u :: v :: us => simp [oneVal]
theorem bcells_ne {g : Arg} (h : g.mode ≠ 2) : g.bcells = [] := by
  unfold Arg.bcells
  split
  · rename_i e; exact absurd e h
  · rfl
theorem clo_cells {kp : Nat} {base : Nat → Loc} {pb : List Nat} {n : Nat} (hb : ∀ j, j < kp → m j = base j) (hpb : ∀ j, j < kp → (base j).addr = some ⟨pb.getD j 0, 0, none⟩) : ∀ {js : List Nat} {cs : List Value}, (∀ j ∈ js, j < kp) → All2 (PtrTo m n) js cs → cs = js.map fun j => Value.pointer (some ⟨pb.getD j 0, 0, none⟩)
  | [], _, _, .nil => rfl
  | j :: js, c :: cs, hj, .cons ⟨_, ad, had, e⟩ h2 => by
    rw [List.map_cons, ← clo_cells hb hpb (fun j' hj' => hj j' (by simp [hj'])) h2]
    rw [hb j (hj j (by simp)), hpb j (hj j (by simp))] at had
    cases had
    rw [e]
theorem takeBack_ok {base : Nat → Loc} {kp : Nat} {pb : List Nat} (hpb : ∀ j, j < kp → (base j).addr = some ⟨pb.getD j 0, 0, none⟩) : ∀ {ptrs : Args} {o : Nat} {s s' : St} {ok : Nat → Prop} {y : ptrs.B} {bs : List Nat} (R : Rel w0 F0 s m ok a w), (∀ j, j < kp → m j = base j) → o + ptrs.length ≤ kp → JsOk kp ptrs → BaseOf base o bs → bs.length = ptrs.length →
    takeBack s ptrs o = some (y, s') → ∃ ok' F, Rel w0 F0 s' m ok' a w ∧ Took s m ok F s' ok' ∧ BackR w ok' pb ptrs y bs F
  | [], o, s, s', ok, y, bs, R, hb, hkp, hj, hbs, hl, h => by
    have e : s = s' := congrArg Prod.snd (Option.some.inj (show some ((), s) = some (y, s') from h))
    subst e
    have : bs = [] := List.length_eq_zero_iff.1 (by simpa using hl)
    exact ⟨ok, [], R, Took.refl _ _ _, this, rfl⟩
  | g :: r, o, s, s', ok, y, bs, R, hb, hkp, hj, hbs, hl, h => by
    match bs, hbs, hl with
    | b :: bs, hbs, hl =>
    obtain ⟨hb0, hbs⟩ := hbs
    have h' : (match g.mode with
      | 2 => match s.obj o with
        | .box cs => match takeCells (s.setObj o .dead) 1 g.bcells cs with
          | some (x, s) => match takeBack s r (o + 1) with
            | some (y, s) => some (bjoin g r x y, s)
            | none => none
          | none => none
        | _ => none
      | 3 => match s.obj o, takeCells s 1 g.bcells [] with
        | .box [.clo f os], some (x, _) => match Nat.beq f g.fn, natsEq os g.js with
          | true, true => match takeBack (s.setObj o .dead) r (o + 1) with
            | some (y, s) => some (bjoin g r x y, s)
            | none => none
          | _, _ => none
        | _, _ => none
      | _ => match takeCells s 1 g.bcells [] with
        | some (x, _) => match takeBack s r (o + 1) with
          | some (y, s) => some (bjoin g r x y, s)
          | none => none
        | none => none : Option (Args.B (g :: r) × St)) = some (y, s') := h
    simp only [List.length_cons] at hkp hl
    have hj' : JsOk kp r := fun g' hg' => hj g' (by simp [hg'])
    split at h'
    · rename_i hm
      split at h'
      case h_2 => cases h'
      rename_i cs hob
      split at h'
      case h_2 => cases h'
      rename_i x1 s1 h1
      split at h'
      case h_2 => cases h'
      rename_i x2 s2 h2
      have e1 : bjoin g r x1 x2 = y := congrArg Prod.fst (Option.some.inj h')
      have e2 : s2 = s' := congrArg Prod.snd (Option.some.inj h')
      subst e1
      subst e2
      obtain ⟨b', vs, t, fr, ok1, F1, had, hh, hc, hT1, R1, T1⟩ := take_box_one R hob h1
      have : b' = b := by
        rw [hb o (by omega), hb0] at had
        injection had with e; injection e with e; exact e.symm
      subst this
      obtain ⟨ok2, F2, R2, T2, hT2⟩ := takeBack_ok hpb R1 hb (by omega) hj' hbs (by omega) h2
      refine ⟨ok2, (b' :: F1) ++ F2, R2, T1.trans T2, b', bs, b' :: F1, F2, rfl, rfl, ?_, ?_⟩
      · rw [hm]
        refine ⟨vs, t, fr, F1, rfl, hh, hc, ?_⟩
        rw [bfst_join]; exact hT1.keep (fun _ _ => rfl) T2.okm (fun _ _ => rfl)
      · rw [bsnd_join]; exact hT2
    · rename_i hm
      split at h'
      case h_2 => cases h'
      rename_i f os x1 s1 hob htc
      split at h'
      case h_2 => cases h'
      rename_i e1 e2
      have e1 := Nat.eq_of_beq_eq_true e1
      have e2 := natsEq_eq e2
      split at h'
      case h_2 => cases h'
      rename_i x2 s2 h2
      have ey : bjoin g r x1 x2 = y := congrArg Prod.fst (Option.some.inj h')
      have es : s2 = s' := congrArg Prod.snd (Option.some.inj h')
      subst ey
      subst es
      have hor := R.objs o
      rw [hob] at hor
      obtain ⟨b', vs, t, fr, had, hh, hc, ha⟩ := hor
      have : b' = b := by
        rw [hb o (by omega), hb0] at had
        injection had with e; injection e with e; exact e.symm
      subst this
      obtain ⟨R1, T1⟩ := give_obj R (o := o) (b := b') ⟨by rw [had]; rfl, by rw [hob]; trivial⟩
      have hcl : vs = #[cloVal g.fn g.js pb] := by
        have hvs : vs = vs.toList.toArray := by simp
        rw [hvs]
        generalize vs.toList = l at ha
        match l, ha with
        | [c], .cons ⟨cs, ec, hcs⟩ .nil =>
          rw [ec, e1, clo_cells hb hpb (fun j hjj => (hj g (by simp)).2 hm j (by rw [← e2]; exact hjj)) hcs, e2]
          rfl
      subst hcl
      obtain ⟨ok2, F2, R2, T2, hT2⟩ := takeBack_ok hpb R1 hb (by omega) hj' hbs (by omega) h2
      refine ⟨ok2, [b'] ++ F2, R2, T1.trans T2, b', bs, [b'], F2, rfl, rfl, ?_, ?_⟩
      · rw [hm]
        exact ⟨t, fr, rfl, hh, hc⟩
      · rw [bsnd_join]; exact hT2
    · rename_i n2 n3
      split at h'
      case h_2 => cases h'
      rename_i x1 s1 htc
      split at h'
      case h_2 => cases h'
      rename_i x2 s2 h2
      have ey : bjoin g r x1 x2 = y := congrArg Prod.fst (Option.some.inj h')
      have es : s2 = s' := congrArg Prod.snd (Option.some.inj h')
      subst ey
      subst es
      obtain ⟨ok2, F2, R2, T2, hT2⟩ := takeBack_ok hpb R hb (by omega) hj' hbs (by omega) h2
      refine ⟨ok2, F2, R2, T2, b, bs, [], F2, rfl, rfl, ?_, ?_⟩
      · split
        · rename_i e; exact absurd e n2
        · rename_i e; exact absurd e n3
        · rfl
      · rw [bsnd_join]; exact hT2

theorem ptrBlocks_len {pb : List Nat} : ∀ {ins : Args} {x : ins.T} {us : List Value} {F : List Nat}, (∀ g ∈ ins, g.mode ≤ 4) → ArgsR w ok pb ins x us F → (ptrBlocks ins us).length = ins.ptrs.length
  | [], x, us, F, hm4, h => by
    obtain ⟨e, _⟩ := h
    subst e
    rfl
  | g :: rest, x, us, F, hm4, h => by
    obtain ⟨u, us', F1, F2, e, eF, h1, h2⟩ := h
    subst e
    have ih := ptrBlocks_len (fun g' hg' => hm4 g' (by simp [hg'])) h2
    have h4 := hm4 g (by simp)
    rw [ptrs_cons]
    by_cases hm : 2 ≤ g.mode
    · have hu : ∃ b, u = .pointer (some ⟨b, 0, none⟩) := by
        unfold ArgR at h1
        split at h1
        · obtain ⟨b, bs, t, fr, F', eu, _⟩ := h1; exact ⟨b, eu⟩
        · obtain ⟨b, t, fr, eu, _⟩ := h1; exact ⟨b, eu⟩
        · obtain ⟨b, eu, _⟩ := h1; exact ⟨b, eu⟩
        · rename_i e; omega
        · rename_i n1 n2 n3 n4
          have m1 : ¬ g.mode = 2 := n1
          have m2 : ¬ g.mode = 3 := n2
          have m3 : ¬ g.mode = 4 := n3
          omega
      obtain ⟨b, eu⟩ := hu
      simp [ptrBlocks, hm, eu, blk, ih]
    · simp [ptrBlocks, hm, ih]
theorem ArgsR.length {pb : List Nat} : ∀ {ins : Args} {x : ins.T} {us : List Value} {F : List Nat}, ArgsR w ok pb ins x us F → us.length = ins.length
  | [], x, us, F, h => by
    obtain ⟨e, _⟩ := h
    subst e; rfl
  | g :: rest, x, us, F, h => by
    obtain ⟨u, us', F1, F2, e, eF, h1, h2⟩ := h
    subst e
    simp [ArgsR.length h2]
theorem base_of (pb : List Nat) : BaseOf (fun j => ⟨some ⟨pb.getD j 0, 0, none⟩, 0, 0, 0⟩) 0 pb := by
  suffices h : ∀ (bs : List Nat) (o : Nat) (base : Nat → Loc), (∀ i (hi : i < bs.length), (base (o + i)).addr = some ⟨bs[i], 0, none⟩) → BaseOf base o bs by
    refine h pb 0 _ fun i hi => ?_
    simp [hi]
  intro bs
  induction bs with
  | nil => intro o base h; trivial
  | cons b bs ih =>
    intro o base h
    refine ⟨h 0 (by simp), ih (o + 1) base fun i hi => ?_⟩
    have := h (i + 1) (by simpa using hi)
    rw [show o + (i + 1) = o + 1 + i by omega] at this
    simpa using this

/-- what a function does -/
theorem fnOk_of {f : Nat} {fn : Func} {c : Code} {sp : FSpec} (hf : P.funcs[f]? = some fn) (hb : fn.body = some c) (hN : sp.ins.length ≤ fn.ntmps) (hΘ : TabOk P Θ) (hΓ : EnvOk P Γ) (hm : P.follows .mixedOrders = true)
    {Φ : LFams (Args.R sp.outs sp.ins.ptrs)} (hO : Obl fn.ntmps (llen sp.ins.ptrs) Θ Γ Φ c (fun _ => ret Θ fn sp.ins sp.outs) (fun _ _ _ => none) (fun _ => ret Θ fn sp.ins sp.outs))
    (hr : ∀ x y, sp.f x = some y → ∃ n, run Θ Γ fn c sp.ins sp.outs (Φ.at n) x = some y) : FnOk P f sp := by
  intro w ok us x y F hok hA hnd hF hxy
  obtain ⟨n, hrun⟩ := hr x y hxy
  refine calls_of_wp hf hb ?_
  have hul := ArgsR.length hA
  let pb := ptrBlocks sp.ins us
  let a : Act := { tmps := us.toArray ++ Array.replicate (fn.ntmps - us.toArray.size) undef, defers := [] }
  let base : Nat → Loc := fun j => ⟨some ⟨pb.getD j 0, 0, none⟩, 0, 0, 0⟩
  have hpb : ∀ j, j < llen sp.ins.ptrs → (base j).addr = some ⟨pb.getD j 0, 0, none⟩ := fun _ _ => rfl
  have hbase : BaseOf base 0 pb := base_of _
  have hsize : a.tmps.size = fn.ntmps := by simp [a]; omega
  have R0 : Rel w ⟨(· ∈ F), ok⟩ { N := fn.ntmps, n := llen sp.ins.ptrs, tmps := [], objs := [] } base ok a w :=
    { defers := rfl, size := hsize, tmps := fun _ _ => trivial, objs := fun _ => trivial, live := fun _ _ => rfl, apart := fun _ _ _ h => h.2.elim, exok := fun _ _ h => h.2.elim, okold := hok, okin := fun _ h => .inl h, okup := fun _ h => h, grew := Grew.refl _ _ }
  have hfree : FreeB w ⟨(· ∈ F), ok⟩ { N := fn.ntmps, n := llen sp.ins.ptrs, tmps := [], objs := [] } base ok F := ⟨hnd, fun b hb => ⟨(hF b hb).1, .inr hb, fun ⟨o, h⟩ => h.2.elim⟩⟩
  obtain ⟨s1, m1, R1, hN1, hp1, hk1, hj1⟩ := initArgs_ok (base := base) (kp := llen sp.ins.ptrs) (i := 0) (o := 0) hpb R0 hA (fun j u hj => by
      have hlt := (List.getElem?_eq_some_iff.1 hj).1
      have hv := (List.getElem?_eq_some_iff.1 hj).2
      simp [a, Array.getElem?_append, hlt, hv]) hbase (by rw [llen_eq]; omega) hfree ⟨Nat.le_refl _, fun _ _ => rfl⟩ (fun _ _ => .inl rfl) hrun
  have hbl : pb.length = sp.ins.ptrs.length := ptrBlocks_len (fun g hg => (hj1 g hg).1) hA
  refine wp_mono (evC_ok hΘ hΓ hm c (fun _ => ret Θ fn sp.ins sp.outs) (fun _ _ _ => none) (fun _ => ret Θ fn sp.ins sp.outs) hO n ⟨R1, hN1, hp1⟩ hk1) fun e a' w' hp => ?_
  have fin : ∀ (n : Nat) (s : St) (m : Nat → Loc) (ok' : Nat → Prop), Here w ⟨(· ∈ F), ok⟩ fn.ntmps (llen sp.ins.ptrs) base s m ok' a' w' → ret Θ fn sp.ins sp.outs s = some y → a'.defers = [] ∧ ∃ v, (results fn a'.tmps).run P w' = .ok v w' ∧ ∃ vs ok' F1 F2, Ending.returned v = .returned (oneVal vs) ∧ Grew (· ∈ F) w w' ∧ (∀ b, ok b → ok' b) ∧ (∀ b, ok' b → (ok b ∨ b ∈ F ∨ w.heap.size ≤ b) ∧ b < w'.heap.size) ∧
      ArgsR w' ok' [] sp.outs (rfst sp.outs sp.ins.ptrs y) vs F1 ∧ BackR w' ok' (ptrBlocks sp.ins us) sp.ins.ptrs (rsnd sp.outs sp.ins.ptrs y) (ptrBlocks sp.ins us) F2 ∧
      (F1 ++ F2).Nodup ∧ ∀ b ∈ F1 ++ F2, ¬ ok' b ∧ (b ∈ F ∨ w.heap.size ≤ b) := fun n s m ok1 H h => by
    have R := H.rel
    unfold ret at h
    split at h
    case h_2 => cases h
    rename_i vs hvs
    split at h
    case h_2 => cases h
    rename_i x1 os1 s2 h1
    split at h
    case h_2 => cases h
    rename_i x2 s3 h2
    have e : rjoin sp.outs sp.ins.ptrs x1 x2 = y := Option.some.inj h
    subst e
    obtain ⟨us', hrr, hAv⟩ := resVals_ok hΘ R hvs
    obtain ⟨ok2, F1, R2, T1, hA1, _⟩ := takeArgs_one (gs := []) R h1 hAv
    obtain ⟨ok3, F2, R3, T2, hB⟩ := takeBack_ok hpb R2 H.pars.2 (by rw [llen_eq]; omega) hj1.ptrs hbase hbl h2
    refine ⟨R.defers, _, run_results hrr, us', ok3, F1, F2, rfl, R3.grew, R3.okup, fun b hb => ⟨R3.okin b hb, R3.okold b hb⟩, ?_, ?_, (T1.trans T2).nd, fun b hb => ⟨((T1.trans T2).Fn b hb).1, ?_⟩⟩
    · rw [rfst_join]; exact hA1.keep (Nat.le_refl _) (fun _ _ => rfl) T2.okm (fun _ _ => rfl)
    · rw [rsnd_join]; exact hB
    · obtain ⟨o, ho⟩ := (T1.trans T2).Fp b hb
      exact (R.exok o b ho).2.symm
  cases e with
  | normal => obtain ⟨n1, _, s2, m2, ok2, H, h⟩ := hp; exact fin n1 s2 m2 ok2 H h
  | ret => obtain ⟨n1, _, s2, m2, ok2, H, h⟩ := hp; exact fin n1 s2 m2 ok2 H h
  | exit id => obtain ⟨n1, _, s2, m2, ok2, H, h⟩ := hp; cases h
  | _ => exact hp.elim
end
end Rig
