/- Part of Rig, a reflective evaluator of this project's own: a function's code, run over typed data by Lean's kernel, gives its contract. No condition. -/
import Derived.Test.YthcokbkmpkkioaaRigBCall
set_option linter.unusedVariables false
set_option linter.unusedSimpArgs false
namespace Rig
open Go
section
variable {P : Program} {w0 w w' : World} {F0 : Own} {s s' : St} {m m' : Nat → Loc} {ok ok' : Nat → Prop} {a : Act} {o : Oper} {next : Act → World → Prop} {Q : Exit → Act → World → Prop}
variable {Θ : Tab} {Γ : Env} {ρ : Type} {k : V → St → Option ρ} {r : ρ}

theorem takeArg_os {s s' : St} {md : Nat} {g : Arg} {v : V} {x : Row (kinds g.cells)} {os : List Nat} (h : takeArg s md g v = some (x, os, s')) : os = [] ∨ ∃ o, os = [o] ∧ s.obj o ≠ .dead := by
  unfold takeArg at h
  split at h
  · split at h
    case h_2 => cases h
    rename_i o _ cs hob
    split at h
    case h_2 => cases h
    have e2 : [_] = os := congrArg (·.2.1) (Option.some.inj h)
    exact .inr ⟨_, e2.symm, by rw [hob]; exact nofun⟩
  · split at h
    case h_2 => cases h
    exact .inl (congrArg (·.2.1) (Option.some.inj h)).symm
  · split at h
    case h_2 => cases h
    exact .inl (congrArg (·.2.1) (Option.some.inj h)).symm
  · cases h
theorem takeArgs_nodup : ∀ {ins : Args} {s s' : St} {ok : Nat → Prop} (R : Rel w0 F0 s m ok a w) {vs : List V} {x : ins.T} {os : List Nat} {us : List Value},
    takeArgs s 1 ins vs = some (x, os, s') → All2 (VR w ok m s.n) vs us → os.Nodup ∧ ∀ o ∈ os, s.obj o ≠ .dead
  | [], s, s', ok, R, vs, x, os, us, h, hv => by
    cases vs with
    | nil =>
      have e2 : [] = os := congrArg (·.2.1) (Option.some.inj (show some ((), ([] : List Nat), s) = some (x, os, s') from h))
      subst e2
      exact ⟨List.nodup_nil, nofun⟩
    | cons v vs => exact absurd (show none = some (x, os, s') from h) nofun
  | g :: r, s, s', ok, R, vs, x, os, us, h, hv => by
    match vs, us, hv with
    | [], _, _ => exact absurd (show none = some (x, os, s') from h) nofun
    | v :: vs, u :: us, .cons hv1 hv2 =>
      have h' : (match takeArg s 1 g v with
        | some (x, os, s) => match takeArgs s 1 r vs with
          | some (y, os', s) => some (ajoin g r x y, lapp os os', s)
          | none => none
        | none => none : Option (Args.T (g :: r) × List Nat × St)) = some (x, os, s') := h
      split at h'
      case h_2 => cases h'
      rename_i x1 os1 s1 h1
      split at h'
      case h_2 => cases h'
      rename_i y os2 s2 h2
      have e2 : lapp os1 os2 = os := congrArg (·.2.1) (Option.some.inj h')
      subst e2
      obtain ⟨ok1, F1, R1, T1, hA1, _, hp1, hn1⟩ := takeArg_one (bs := []) R h1 hv1
      obtain ⟨hn, hd⟩ := takeArgs_nodup R1 h2 (T1.keepVRxs hv2)
      rw [lapp_eq]
      rcases takeArg_os h1 with e | ⟨o, e, ho⟩
      · subst e
        exact ⟨hn, fun o ho hdd => hd o ho (T1.dead o hdd)⟩
      · subst e
        refine ⟨List.nodup_cons.2 ⟨fun hm => ?_, hn⟩, fun o' ho' hdd => ?_⟩
        · by_cases hg : g.mode = 2
          · obtain ⟨o2, b, e, _, _, _, hdd, _⟩ := hp1 hg
            cases e
            exact hd o hm hdd
          · cases hn1 hg
        · rcases List.mem_cons.1 ho' with rfl | ho'
          · exact ho hdd
          · exact hd o' ho' (T1.dead o' hdd)

theorem dbind_some {α β : Type} {x : Option α} {f : α → Option β} {y : β} (h : dbind x f = some y) : ∃ a, x = some a ∧ f a = some y := by
  cases x with
  | none => cases h
  | some a => exact ⟨a, rfl, h⟩
theorem VR_oneOf {n : Nat} {vs : List V} {us : List Value} (h : All2 (VRa w ok m n) vs us) : VR w ok m n (oneOf vs) (oneVal us) := by
  cases h with
  | nil => exact ⟨[], rfl, .nil⟩
  | cons h ht => cases ht with
    | nil => exact VR_of_a h
    | cons h2 ht => exact ⟨_, rfl, .cons h (.cons h2 ht)⟩
theorem evals (R : Rel w0 F0 s m ok a w) : ∀ (xs : List Operand), All2 (VR w ok m s.n) (lmap (eval s) xs) (xs.map a.eval)
  | [] => .nil
  | x :: xs => .cons (R.eval x) (evals R xs)

theorem run_callFunc_go {f : Nat} {fn : Func} (hf : P.funcs[f]? = some fn) (hb : fn.body.isSome = true) (hn : fn.name ≠ "runtime.NumGoroutine") (us : Array Value) : (callFunc f us).run P w = .ok (.enter f us) w := by
  have hb' : ¬ fn.body = none := by cases h : fn.body <;> simp_all
  simp [callFunc, hf, hn, hb']

/-! #### variables stay variables -/
theorem after_box {s s' : St} {md : Nat} {v : V} (h : V.after s md v = some s') {o : Nat} {cs : List V} (ho : s.obj o = .box cs) : s'.obj o = .box cs := by
  unfold V.after at h
  split at h
  · rename_i ob
    split at h
    case h_2 => cases h
    rename_i row l fr hob
    have hne : ob ≠ o := fun e => by subst e; rw [ho] at hob; cases hob
    split at h
    · cases h; exact ho
    · cases h; rw [St.obj_setObj, if_neg hne]; exact ho
    · cases h; rw [St.obj_setObj, if_neg hne]; exact ho
    · cases h
  · split at h
    · cases h; exact ho
    · cases h; exact ho
    · cases h
  · rename_i ob
    split at h
    · rename_i g hob
      have hne : ob ≠ o := fun e => by subst e; rw [ho] at hob; cases hob
      cases h
      rw [St.obj_setObj, if_neg hne]; exact ho
    · cases h
  · cases h; exact ho
theorem take_box {s s' : St} {md : Nat} {c : CK} {v : V} {x : c.ty} (h : V.take s md c v = some (x, s')) {o : Nat} {cs : List V} (ho : s.obj o = .box cs) : s'.obj o = .box cs := by
  unfold V.take at h
  split at h
  · cases h
  · split at h
    · rename_i s2 h2
      have e : s2 = s' := congrArg Prod.snd (Option.some.inj h)
      subst e
      exact after_box h2 ho
    · cases h
theorem takeCells_box {md : Nat} : ∀ {cells : List (CK × Bool)} {s s' : St} {vs : List V} {x : Row (kinds cells)}, takeCells s md cells vs = some (x, s') → ∀ {o : Nat} {cs : List V}, s.obj o = .box cs → s'.obj o = .box cs
  | [], s, s', vs, x, h, o, cs, ho => by
    cases vs with
    | nil =>
      have e : s = s' := congrArg Prod.snd (Option.some.inj (show some ((), s) = some (x, s') from h))
      subst e; exact ho
    | cons _ _ => exact absurd (show none = some (x, s') from h) nofun
  | [(c, own)], s, s', vs, x, h, o, cs, ho => by
    match vs with
    | [] => exact absurd (show none = some (x, s') from h) nofun
    | [v] => exact take_box (show V.take s (sel own 2 md) c v = some (x, s') from h) ho
    | _ :: _ :: _ => exact absurd (show none = some (x, s') from h) nofun
  | (c, own) :: c' :: cells, s, s', vs, x, h, o, cs, ho => by
    match vs with
    | [] => exact absurd (show none = some (x, s') from h) nofun
    | v :: vs =>
      have h' : (match V.take s (sel own 2 md) c v with
        | some (x, s) => match takeCells s md (c' :: cells) vs with
          | some (y, s) => some ((x, y), s)
          | none => none
        | none => none : Option (Row (kinds ((c, own) :: c' :: cells)) × St)) = some (x, s') := h
      split at h'
      case h_2 => cases h'
      rename_i x1 s1 h1
      split at h'
      case h_2 => cases h'
      rename_i x2 s2 h2
      have e : s2 = s' := congrArg Prod.snd (Option.some.inj h')
      subst e
      exact takeCells_box h2 (take_box h1 ho)
theorem takeArg_box {s s' : St} {md : Nat} {g : Arg} (hg : g.mode ≠ 2) {v : V} {x : Row (kinds g.cells)} {os : List Nat} (h : takeArg s md g v = some (x, os, s')) {o : Nat} {cs : List V} (ho : s.obj o = .box cs) : s'.obj o = .box cs := by
  unfold takeArg at h
  split at h
  · rename_i e; exact absurd e hg
  · split at h
    · rename_i s2 h2
      have e : s2 = s' := congrArg (·.2.2) (Option.some.inj h)
      subst e
      exact takeCells_box h2 ho
    · cases h
  · split at h
    · rename_i s2 h2
      have e : s2 = s' := congrArg (·.2.2) (Option.some.inj h)
      subst e
      exact takeCells_box h2 ho
    · cases h
  · cases h
theorem takeArgs_box {md : Nat} : ∀ {ins : Args} (hi : ins.ptrs = []) {s s' : St} {vs : List V} {x : ins.T} {os : List Nat}, takeArgs s md ins vs = some (x, os, s') → ∀ {o : Nat} {cs : List V}, s.obj o = .box cs → s'.obj o = .box cs
  | [], hi, s, s', vs, x, os, h, o, cs, ho => by
    cases vs with
    | nil =>
      have e : s = s' := congrArg (·.2.2) (Option.some.inj (show some ((), ([] : List Nat), s) = some (x, os, s') from h))
      subst e; exact ho
    | cons _ _ => exact absurd (show none = some (x, os, s') from h) nofun
  | g :: r, hi, s, s', vs, x, os, h, o, cs, ho => by
    rw [ptrs_cons] at hi
    have hg : ¬ 2 ≤ g.mode := fun h => by rw [if_pos h] at hi; cases hi
    have hi' : Args.ptrs r = [] := by rw [if_neg hg] at hi; exact hi
    have hm : g.mode ≠ 2 := fun e => hg (by omega)
    match vs with
    | [] => exact absurd (show none = some (x, os, s') from h) nofun
    | v :: vs =>
      have h' : (match takeArg s md g v with
        | some (x, os, s) => match takeArgs s md r vs with
          | some (y, os', s) => some (ajoin g r x y, lapp os os', s)
          | none => none
        | none => none : Option (Args.T (g :: r) × List Nat × St)) = some (x, os, s') := h
      split at h'
      case h_2 => cases h'
      rename_i x1 os1 s1 h1
      split at h'
      case h_2 => cases h'
      rename_i x2 os2 s2 h2
      have e : s2 = s' := congrArg (·.2.2) (Option.some.inj h')
      subst e
      exact takeArgs_box hi' h2 (takeArg_box hm h1 ho)

/-! #### what is given away is no variable -/
theorem giveCells_box : ∀ {cells : List (CK × Bool)} {s s' : St} {vs : List V}, giveCells s cells vs = some s' → ∀ {o : Nat} {cs : List V}, s.obj o = .box cs → s'.obj o = .box cs
  | [], s, s', vs, h, o, cs, ho => by
    cases vs with
    | nil =>
      have e : s = s' := Option.some.inj (show some s = some s' from h)
      subst e; exact ho
    | cons _ _ => exact absurd (show none = some s' from h) nofun
  | (c, own) :: cells, s, s', vs, h, o, cs, ho => by
    match vs with
    | [] => exact absurd (show none = some s' from h) nofun
    | v :: vs =>
      cases own with
      | false => exact giveCells_box (show giveCells s cells vs = some s' from h) ho
      | true =>
        have h' : (match V.get s c v, V.after s 2 v with | some _, some s => giveCells s cells vs | _, _ => none) = some s' := h
        split at h'
        case h_2 => cases h'
        rename_i ha
        exact giveCells_box h' (after_box ha ho)
theorem giveArgs_box {gs : List Nat} : ∀ {ins : Args} (hi : ins.ptrs = []) {s s' : St} {vs : List V}, giveArgs s gs ins vs = some s' → ∀ {o : Nat} {cs : List V}, s.obj o = .box cs → s'.obj o = .box cs
  | [], hi, s, s', vs, h, o, cs, ho => by
    cases vs with
    | nil =>
      have e : s = s' := Option.some.inj (show some s = some s' from h)
      subst e; exact ho
    | cons _ _ => exact absurd (show none = some s' from h) nofun
  | g :: r, hi, s, s', vs, h, o, cs, ho => by
    rw [ptrs_cons] at hi
    have hg : ¬ 2 ≤ g.mode := fun h => by rw [if_pos h] at hi; cases hi
    have hi' : Args.ptrs r = [] := by rw [if_neg hg] at hi; exact hi
    match vs with
    | [] => exact absurd (show none = some s' from h) nofun
    | v :: vs =>
      have h' : (match giveArg s gs g v with | some s => giveArgs s gs r vs | none => none) = some s' := h
      split at h'
      case h_2 => cases h'
      rename_i s2 h2
      refine giveArgs_box hi' h' ?_
      unfold giveArg at h2
      split at h2
      · rename_i e; rw [e] at hg; omega
      · rename_i e; rw [e] at hg; omega
      · rename_i e; rw [e] at hg; omega
      · exact giveCells_box h2 ho
      · exact giveCells_box h2 ho
      · cases h2
theorem giveArgs_js {gs : List Nat} : ∀ {ins : Args} {s s' : St} {vs : List V}, giveArgs s gs ins vs = some s' → ∀ g ∈ ins.ptrs, g.mode = 3 → ∀ j ∈ g.js, j < gs.length
  | [], _, _, _, _ => nofun
  | g :: r, s, s', vs, h => by
    match vs with
    | [] => exact absurd (show none = some s' from h) nofun
    | v :: vs =>
      have h' : (match giveArg s gs g v with | some s => giveArgs s gs r vs | none => none) = some s' := h
      split at h'
      case h_2 => cases h'
      rename_i s2 h2
      have ih := giveArgs_js h'
      rw [ptrs_cons]
      split
      · intro g' hg' hm j hj
        rcases List.mem_cons.1 hg' with rfl | hg'
        · unfold giveArg at h2
          split at h2
          · rename_i e; rw [e] at hm; omega
          · split at h2
            case h_2 => cases h2
            split at h2
            case h_2 => cases h2
            rename_i e3
            have : ∀ js : List Nat, lall (fun j => Nat.blt j (llen gs)) js = true → ∀ j ∈ js, j < gs.length := by
              intro js
              induction js with
              | nil => intro _ j hj; cases hj
              | cons i js ih =>
                intro h j hj
                have h' : (match Nat.blt i (llen gs) with | true => lall (fun j => Nat.blt j (llen gs)) js | false => false) = true := h
                split at h'
                case h_2 => cases h'
                rename_i hi
                rcases List.mem_cons.1 hj with rfl | hj
                · rw [← llen_eq]; exact Nat.blt_eq.mp hi
                · exact ih h' j hj
            exact this _ e3 j hj
          · rename_i e; rw [e] at hm; omega
          · rename_i e; rw [e] at hm; omega
          · rename_i e; rw [e] at hm; omega
          · cases h2
        · exact ih g' hg' hm j hj
      · exact ih
theorem giveCells_fewer : ∀ {cells : List (CK × Bool)} {s s' : St} {vs : List V}, giveCells s cells vs = some s' → Fewer s s'
  | [], s, s', vs, h => by
    cases vs with
    | nil =>
      have e : s = s' := Option.some.inj (show some s = some s' from h)
      subst e; exact Fewer.refl _
    | cons _ _ => exact absurd (show none = some s' from h) nofun
  | (c, own) :: cells, s, s', vs, h => by
    match vs with
    | [] => exact absurd (show none = some s' from h) nofun
    | v :: vs =>
      cases own with
      | false => exact giveCells_fewer (show giveCells s cells vs = some s' from h)
      | true =>
        have h' : (match V.get s c v, V.after s 2 v with | some _, some s => giveCells s cells vs | _, _ => none) = some s' := h
        split at h'
        case h_2 => cases h'
        rename_i ha
        exact (after_fewer ha).trans (giveCells_fewer h')
theorem giveArgs_fewer {gs : List Nat} : ∀ {ins : Args} {s s' : St} {vs : List V}, giveArgs s gs ins vs = some s' → Fewer s s'
  | [], s, s', vs, h => by
    cases vs with
    | nil =>
      have e : s = s' := Option.some.inj (show some s = some s' from h)
      subst e; exact Fewer.refl _
    | cons _ _ => exact absurd (show none = some s' from h) nofun
  | g :: r, s, s', vs, h => by
    match vs with
    | [] => exact absurd (show none = some s' from h) nofun
    | v :: vs =>
      have h' : (match giveArg s gs g v with | some s => giveArgs s gs r vs | none => none) = some s' := h
      split at h'
      case h_2 => cases h'
      rename_i s2 h2
      refine Fewer.trans ?_ (giveArgs_fewer h')
      unfold giveArg at h2
      split at h2
      · split at h2
        case h_2 => cases h2
        exact (Fewer.kill _ _).trans (giveCells_fewer h2)
      · split at h2
        case h_2 => cases h2
        split at h2
        case h_2 => cases h2
        cases h2; exact Fewer.kill _ _
      · cases h2; exact Fewer.refl _
      · exact giveCells_fewer h2
      · exact giveCells_fewer h2
      · cases h2
theorem mem_ptrs : ∀ {ins : Args} {g : Arg}, g ∈ ins.ptrs → g ∈ ins
  | [], _, h => h
  | g :: r, g', h => by
    rw [ptrs_cons] at h
    split at h
    · rcases List.mem_cons.1 h with rfl | h
      · simp
      · exact List.mem_cons_of_mem _ (mem_ptrs h)
    · exact List.mem_cons_of_mem _ (mem_ptrs h)
theorem backIds_nodup : ∀ {ptrs : Args} {os : List Nat}, os.Nodup → (backIds ptrs os).Nodup
  | [], os, _ => by cases os <;> exact List.nodup_nil
  | _ :: _, [], _ => List.nodup_nil
  | g :: r, o :: os, h => by
    have ih := backIds_nodup (ptrs := r) (List.nodup_cons.1 h).2
    unfold backIds
    split
    · exact List.nodup_cons.2 ⟨fun hm => (List.nodup_cons.1 h).1 (backIds_sub hm), ih⟩
    · exact ih

/-- behind a call -/
theorem callFn_ok (R : Rel w0 F0 s m ok a w) (hΓ : EnvOk P Γ) {f : Nat} {vs : List V} {us : List Value} (h : callFn Γ f vs s k = some r) (hv : All2 (VR w ok m s.n) vs us)
    {nx : Value → World → Prop} {q : Bool} (hq : q = true → ∀ sp, Γ.at f = some sp → sp.ins.ptrs = []) (L : Leads w0 F0 s m ok a w q k r nx) :
    (∃ fn, P.funcs[f]? = some fn ∧ fn.body.isSome = true ∧ fn.name ≠ "runtime.NumGoroutine") ∧ Calls P f us.toArray w fun e w' => ∃ v, e = .returned v ∧ nx v w' := by
  unfold callFn at h
  split at h
  case h_2 => cases h
  rename_i sp hsp
  obtain ⟨hF, hfn⟩ := hΓ f sp hsp
  refine ⟨hfn, ?_⟩
  split at h
  · -- nothing that comes back leads to what is read
    rename_i hl1 hl2
    split at h
    case h_2 => cases h
    rename_i s' hg
    split at h
    case h_2 => cases h
    rename_i x hx
    obtain ⟨y, hy, hk⟩ := dbind_some h
    have W := giveArgs_fewer hg
    have hids := ids_ok R (Fewer.refl _) W hg hx hv
    obtain ⟨F, R', T, _, k1, nd, dd⟩ := giveArgs_ok R (Fewer.refl _) hids hg hv
    have hA := k1 R' T.n (Fewer.refl _) hx
    refine (hF w (fun b => ok b ∨ pool s' m b) us x y F ?_ hA T.nd (fun b hb => ⟨fun h => h.elim (T.Fn b hb).1 (T.Fn b hb).2, let ⟨o, h⟩ := T.Fp b hb; R.exlt h⟩) hy).mono fun e w' ⟨vs', ok', F1, F2, he, hG, hok1, hok2, hA', hB, hnd, hfr⟩ => ⟨_, he, ?_⟩
    · rintro b (hb | ⟨o, hb⟩)
      · exact R.okold b hb
      · exact R'.exlt hb
    have hF0 : ∀ b ∈ F, w0.heap.size ≤ b ∨ F0 b := fun b hb => by
      obtain ⟨o, h⟩ := T.Fp b hb
      exact (R.exok o b h).2
    have R1' : Rel w0 F0 s' m ok a w' := by
      refine R'.world (fun b hb => hG.block b (R'.okold b hb) (fun h => (T.Fn b h).1 hb)) (fun j b hd hb => ?_) (R.grew.trans hG (fun b hb h => (hF0 b h).resolve_left (by omega))) hG.size
      refine hG.block b ((R'.objs j).lt hd hb) (fun h => ?_)
      rcases OR.block_cases R' hd hb with hx | hx
      · exact (T.Fn b h).2 ⟨j, hx⟩
      · exact (T.Fn b h).1 hx
    have hfree : FreeB w0 F0 s' m ok (F1 ++ F2) := ⟨hnd, fun b hb => by
      obtain ⟨h1, h2⟩ := hfr b hb
      refine ⟨fun ho => h1 (hok1 b (.inl ho)), ?_, fun ⟨j, hx⟩ => ?_⟩
      · rcases h2 with h2 | h2
        · exact hF0 b h2
        · exact .inl (Nat.le_trans R.grew.size h2)
      · rcases h2 with h2 | h2
        · exact (T.Fn b h2).2 ⟨j, hx⟩
        · have := R'.exlt hx; omega⟩
    obtain ⟨vs2, s2, m2, R2, E2, hvs2, hk2⟩ := outVals_ok R1' (ArgsR_noleads (okx := ok) (outVals_modes hk) hl1 hA') hfree.left hk
    have lies : All2 (Lies m2 s2.n) (ptrIds sp.ins vs) (ptrBlocks sp.ins us) := hids.imp fun o b ⟨h1, h2⟩ => by
      have hlt : o < s'.n := by rw [T.n]; exact h1
      exact ⟨Nat.lt_of_lt_of_le hlt E2.n, by rw [E2.loc o hlt]; exact h2⟩
    have idlt : ∀ o ∈ ptrIds sp.ins vs, o < s.n := fun o ho => by
      obtain ⟨i, hi, e⟩ := List.mem_iff_getElem.1 ho
      obtain ⟨b', _, h1, _⟩ := hids.get (List.getElem?_eq_getElem hi)
      rw [← e]; exact h1
    obtain ⟨s3, m3, R4, h1, h2, h3, h4, h6, h5⟩ := backVals_ok R2 lies (giveArgs_js hg) (BackR_noleads (okx := ok) hl2 hB) lies (fun o ho => by
      rw [E2.obj o (by rw [T.n]; exact idlt o (backIds_sub ho))]; exact (dd o ho).2.1) nd (hfree.right E2) hk2
    have hvs3 := hvs2.imp fun _ _ h => h.keep (w' := w') (ok' := ok) (m' := m3) (n' := s3.n) (fun _ _ => rfl) (fun _ h => h) h1 h4
    refine L _ _ s3 m3 ok w' R4 (h2.trans (E2.N.trans T.N)) (h3.trans (E2.tmps.trans T.tmps)) (Nat.le_trans (Nat.le_of_eq T.n.symm) (Nat.le_trans E2.n h1)) (fun _ h => h) (fun o ho => ?_) (fun hqt => ?_) (VR_oneOf hvs3) h5
    · have ho' : o < s'.n := by rw [T.n]; exact ho
      exact (h4 o (Nat.lt_of_lt_of_le ho' E2.n)).trans (E2.loc o ho')
    · have hbox : ∀ {o : Nat} {cs : List V}, s.obj o = .box cs → s'.obj o = .box cs := giveArgs_box (hq hqt sp hsp) hg
      refine ⟨⟨fun b hb => hG.block b (R.okold b hb) (fun h => (T.Fn b h).1 hb), fun o b cs ho hb => hG.block b ((R.objs o).lt (by rw [ho]; exact nofun) hb) (fun h => ?_)⟩, fun o cs ho => ?_⟩
      · exact (T.Fn b h).2 ⟨o, hb, by rw [hbox ho]; trivial⟩
      · have hb' := hbox ho
        have ho' := obj_lt R' (o := o) (by rw [hb']; exact nofun)
        rw [h6 o (Nat.lt_of_lt_of_le ho' E2.n) (fun hm => by rw [(dd o hm).2.1] at hb'; cases hb'), E2.obj o ho', hb']
  · -- what is read is frozen
    split at h
    case h_2 => cases h
    rename_i x os s' ht
    obtain ⟨y, hy, hk⟩ := dbind_some h
    obtain ⟨ok1, F, R1, T, hA, hmodes, hos⟩ := takeArgs_one (gs := ptrBlocks sp.ins us) R ht hv
    obtain ⟨hnd0, _⟩ := takeArgs_nodup R ht hv
    refine (hF w ok1 us x y F R1.okold hA T.nd (fun b hb => ⟨(T.Fn b hb).1, let ⟨o, h⟩ := T.Fp b hb; R.exlt h⟩) hy).mono fun e w' ⟨vs', ok', F1, F2, he, hG, hok1, hok2, hA', hB, hnd, hfr⟩ => ⟨_, he, ?_⟩
    have hF0 : ∀ b ∈ F, w0.heap.size ≤ b ∨ F0 b := fun b hb => by
      obtain ⟨o, h⟩ := T.Fp b hb
      exact (R.exok o b h).2
    have R1' : Rel w0 F0 s' m ok1 a w' := by
      refine R1.world (fun b hb => hG.block b (R1.okold b hb) (fun h => (T.Fn b h).1 hb)) (fun j b hd hb => ?_) (R.grew.trans hG (fun b hb h => (hF0 b h).resolve_left (by omega))) hG.size
      refine hG.block b ((R1.objs j).lt hd hb) (fun h => ?_)
      rcases OR.block_cases R1 hd hb with hx | hx
      · exact (T.Fn b h).2 ⟨j, hx⟩
      · exact (T.Fn b h).1 hx
    have R2 : Rel w0 F0 s' m ok' a w' := R1'.okmore hok1 (fun b hb ⟨j, hx⟩ => by
      rcases (hok2 b hb).1 with h | h | h
      · exact (R1.exok j b hx).1 h
      · exact (T.Fn b h).2 ⟨j, hx⟩
      · have := R1.exlt hx; omega) (fun b hb => (hok2 b hb).2) (fun b hb => by
      rcases (hok2 b hb).1 with h | h | h
      · exact R1.okin b h
      · exact .inr (hF0 b h).symm
      · exact .inr (.inr (Nat.le_trans R.grew.size h)))
    have hfree : FreeB w0 F0 s' m ok' (F1 ++ F2) := ⟨hnd, fun b hb => by
      obtain ⟨h1, h2⟩ := hfr b hb
      refine ⟨h1, ?_, fun ⟨j, hx⟩ => ?_⟩
      · rcases h2 with h2 | h2
        · exact hF0 b h2
        · exact .inl (Nat.le_trans R.grew.size h2)
      · rcases h2 with h2 | h2
        · exact (T.Fn b h2).2 ⟨j, hx⟩
        · have := R1.exlt hx; omega⟩
    obtain ⟨vs2, s2, m2, R3, E2, hvs2, hk2⟩ := outVals_ok R2 hA' hfree.left hk
    have lies : All2 (Lies m2 s2.n) os (ptrBlocks sp.ins us) := hos.imp fun o b ⟨h1, h2, h3, _⟩ => by
      have hlt : o < s'.n := by rw [T.n]; exact h1
      exact ⟨Nat.lt_of_lt_of_le hlt E2.n, by rw [E2.loc o hlt]; exact h2⟩
    have hdead : ∀ o ∈ os, o < s.n ∧ s'.obj o = .dead := fun o ho => by
      obtain ⟨i, hi, e⟩ := List.mem_iff_getElem.1 ho
      obtain ⟨b', _, h1, _, h3, _⟩ := hos.get (List.getElem?_eq_getElem hi)
      rw [← e]; exact ⟨h1, h3⟩
    obtain ⟨s3, m3, R4, h1, h2, h3, h4, h6, h5⟩ := backVals_ok R3 lies (fun g hg hm => by
      have := hmodes g (mem_ptrs hg)
      omega) hB lies (fun o ho => by
      obtain ⟨h1, h2⟩ := hdead o (backIds_sub ho)
      rw [E2.obj o (by rw [T.n]; exact h1)]; exact h2) (backIds_nodup hnd0) (hfree.right E2) hk2
    have hvs3 := hvs2.imp fun _ _ h => h.keep (w' := w') (ok' := ok') (m' := m3) (n' := s3.n) (fun _ _ => rfl) (fun _ h => h) h1 h4
    refine L _ _ s3 m3 ok' w' R4 (h2.trans (E2.N.trans T.N)) (h3.trans (E2.tmps.trans T.tmps)) (Nat.le_trans (Nat.le_of_eq T.n.symm) (Nat.le_trans E2.n h1)) (fun b hb => hok1 b (T.okm b hb)) (fun o ho => ?_) (fun hqt => ?_) (VR_oneOf hvs3) h5
    · have ho' : o < s'.n := by rw [T.n]; exact ho
      exact (h4 o (Nat.lt_of_lt_of_le ho' E2.n)).trans (E2.loc o ho')
    · have hbox : ∀ {o : Nat} {cs : List V}, s.obj o = .box cs → s'.obj o = .box cs := takeArgs_box (hq hqt sp hsp) ht
      refine ⟨⟨fun b hb => hG.block b (R.okold b hb) (fun h => (T.Fn b h).1 (T.okm b hb)), fun o b cs ho hb => hG.block b ((R.objs o).lt (by rw [ho]; exact nofun) hb) (fun h => ?_)⟩, fun o cs ho => ?_⟩
      · exact (T.Fn b h).2 ⟨o, hb, by rw [hbox ho]; trivial⟩
      · have hb' := hbox ho
        have ho' := obj_lt R1 (o := o) (by rw [hb']; exact nofun)
        rw [h6 o (Nat.lt_of_lt_of_le ho' E2.n) (fun hm => by rw [(hdead o (backIds_sub hm)).2] at hb'; cases hb'), E2.obj o ho', hb']

theorem ev_call {q : Bool} {f : Nat} {args : Array Operand} {ats : Array TypeId} (hΓ : EnvOk P Γ) (ho : o.op = .call { callee := .value (.func f), args := args, argTypes := ats }) (R : Rel w0 F0 s m ok a w)
    (h : evOp Θ Γ (.call { callee := .value (.func f), args := args, argTypes := ats }) s k = some r)
    (hq : q = true → ∀ sp, Γ.at f = some sp → sp.ins.ptrs = []) (L : Leads w0 F0 s m ok a w q k r (fun v w' => next (a.put o.dst v) w')) : o.wp P a w next Q := by
  simp only [evOp] at h
  obtain ⟨⟨fn, hf, hb, hn⟩, hc⟩ := callFn_ok R hΓ h (evals R args.toList) hq L
  unfold Oper.wp
  have hrun : (Go.execOp a.eval o).run P w = .ok (.enter f (args.toList.map a.eval).toArray) w := by
    have e : (args.toList.map a.eval).toArray = #[] ++ args.map a.eval ++ #[] := Array.toList_inj.1 (by simp)
    rw [e]
    obtain ⟨dst, op, type, pos, after, guard⟩ := o
    simp only at ho
    subst ho
    rw [execOp_call_go]
    exact run_callFunc_go hf hb hn _
  rw [hrun, Oper.upon_enter]
  refine hc.mono fun e w' ⟨v, he, hnx⟩ => ?_
  subst he
  exact hnx
end
end Rig
