/- Part of Rig, a reflective evaluator of this project's own: a function's code, run over typed data by Lean's kernel, gives its contract. No condition. -/
import Derived.Test.YtkmgomipeljdfaaRigCall
set_option linter.unusedVariables false
set_option linter.unusedSimpArgs false
namespace Rig
open Go
section
variable {P : Program} {w0 w w' : World} {F0 : Own} {s s' : St} {m m' : Nat → Loc} {ok ok' : Nat → Prop} {a : Act} {o : Oper} {next : Act → World → Prop} {Q : Exit → Act → World → Prop}
variable {Θ : Tab} {Γ : Env} {ρ : Type} {k : V → St → Option ρ} {r : ρ}

theorem takeArg_os {s s' : St} {md : Nat} {g : Arg} {v : V} {x : Row (kinds g.cells)} {os : List Nat} (h : takeArg s md g v = some (x, os, s')) : os = [] ∨ ∃ o, os = [o] ∧ s.obj o ≠ .dead := by
  unfold takeArg at h
  split at h
  · split at h
    case h_2 => cases h
    rename_i o _ cs hob
    split at h
    case h_2 => cases h
    have e2 : [_] = os := congrArg (·.2.1) (Option.some.inj h)
    exact .inr ⟨_, e2.symm, by rw [hob]; exact nofun⟩
  · split at h
    case h_2 => cases h
    exact .inl (congrArg (·.2.1) (Option.some.inj h)).symm
  · split at h
    case h_2 => cases h
    exact .inl (congrArg (·.2.1) (Option.some.inj h)).symm
  · cases h
theorem takeArgs_nodup : ∀ {ins : Args} {s s' : St} {ok : Nat → Prop} (R : Rel w0 F0 s m ok a w) {vs : List V} {x : ins.T} {os : List Nat} {us : List Value},
    takeArgs s 1 ins vs = some (x, os, s') → All2 (VR w ok m s.n) vs us → os.Nodup ∧ ∀ o ∈ os, s.obj o ≠ .dead
  | [], s, s', ok, R, vs, x, os, us, h, hv => by
    cases vs with
    | nil =>
      have e2 : [] = os := congrArg (·.2.1) (Option.some.inj (show some ((), ([] : List Nat), s) = some (x, os, s') from h))
      subst e2
      exact ⟨List.nodup_nil, nofun⟩
    | cons v vs => exact absurd (show none = some (x, os, s') from h) nofun
  | g :: r, s, s', ok, R, vs, x, os, us, h, hv => by
    match vs, us, hv with
    | [], _, _ => exact absurd (show none = some (x, os, s') from h) nofun
    | v :: vs, u :: us, .cons hv1 hv2 =>
      have h' : (match takeArg s 1 g v with
        | some (x, os, s) => match takeArgs s 1 r vs with
          | some (y, os', s) => some (ajoin g r x y, lapp os os', s)
          | none => none
        | none => none : Option (Args.T (g :: r) × List Nat × St)) = some (x, os, s') := h
      split at h'
      case h_2 => cases h'
      rename_i x1 os1 s1 h1
      split at h'
      case h_2 => cases h'
      rename_i y os2 s2 h2
      have e2 : lapp os1 os2 = os := congrArg (·.2.1) (Option.some.inj h')
      subst e2
      obtain ⟨ok1, F1, R1, T1, hA1, hp1, hn1⟩ := takeArg_one R h1 hv1
      obtain ⟨hn, hd⟩ := takeArgs_nodup R1 h2 (T1.keepVRxs hv2)
      rw [lapp_eq]
      rcases takeArg_os h1 with e | ⟨o, e, ho⟩
      · subst e
        exact ⟨hn, fun o ho hdd => hd o ho (T1.dead o hdd)⟩
      · subst e
        refine ⟨List.nodup_cons.2 ⟨fun hm => ?_, hn⟩, fun o' ho' hdd => ?_⟩
        · by_cases hg : g.mode = 2
          · obtain ⟨o2, b, e, _, _, _, hdd, _⟩ := hp1 hg
            cases e
            exact hd o hm hdd
          · cases hn1 hg
        · rcases List.mem_cons.1 ho' with rfl | ho'
          · exact ho hdd
          · exact hd o' ho' (T1.dead o' hdd)

theorem backVals_nil {ptrs : Args} {y : ptrs.T} {k : St → Option ρ} (h : backVals ptrs [] y s k = some r) : k s = some r := by
  cases ptrs with
  | nil => exact h
  | cons g rest => exact absurd (show (none : Option ρ) = some r from h) nofun

theorem dbind_some {α β : Type} {x : Option α} {f : α → Option β} {y : β} (h : dbind x f = some y) : ∃ a, x = some a ∧ f a = some y := by
  cases x with
  | none => cases h
  | some a => exact ⟨a, rfl, h⟩
theorem VR_oneOf {n : Nat} {vs : List V} {us : List Value} (h : All2 (VRa w ok m n) vs us) : VR w ok m n (oneOf vs) (oneVal us) := by
  cases h with
  | nil => exact ⟨[], rfl, .nil⟩
  | cons h ht => cases ht with
    | nil => exact VR_of_a h
    | cons h2 ht => exact ⟨_, rfl, .cons h (.cons h2 ht)⟩
theorem evals (R : Rel w0 F0 s m ok a w) : ∀ (xs : List Operand), All2 (VR w ok m s.n) (lmap (eval s) xs) (xs.map a.eval)
  | [] => .nil
  | x :: xs => .cons (R.eval x) (evals R xs)

theorem run_callFunc_go {f : Nat} {fn : Func} (hf : P.funcs[f]? = some fn) (hb : fn.body.isSome = true) (hn : fn.name ≠ "runtime.NumGoroutine") (us : Array Value) : (callFunc f us).run P w = .ok (.enter f us) w := by
  have hb' : ¬ fn.body = none := by cases h : fn.body <;> simp_all
  simp [callFunc, hf, hn, hb']

/-! #### variables stay variables -/
theorem after_box {s s' : St} {md : Nat} {v : V} (h : V.after s md v = some s') {o : Nat} {cs : List V} (ho : s.obj o = .box cs) : s'.obj o = .box cs := by
  unfold V.after at h
  split at h
  · rename_i ob
    split at h
    case h_2 => cases h
    rename_i row l fr hob
    have hne : ob ≠ o := fun e => by subst e; rw [ho] at hob; cases hob
    split at h
    · cases h; exact ho
    · cases h; rw [St.obj_setObj, if_neg hne]; exact ho
    · cases h; rw [St.obj_setObj, if_neg hne]; exact ho
    · cases h
  · split at h
    · cases h; exact ho
    · cases h; exact ho
    · cases h
  · cases h; exact ho
theorem take_box {s s' : St} {md : Nat} {c : CK} {v : V} {x : c.ty} (h : V.take s md c v = some (x, s')) {o : Nat} {cs : List V} (ho : s.obj o = .box cs) : s'.obj o = .box cs := by
  unfold V.take at h
  split at h
  · cases h
  · split at h
    · rename_i s2 h2
      have e : s2 = s' := congrArg Prod.snd (Option.some.inj h)
      subst e
      exact after_box h2 ho
    · cases h
theorem takeCells_box {md : Nat} : ∀ {cells : List (CK × Bool)} {s s' : St} {vs : List V} {x : Row (kinds cells)}, takeCells s md cells vs = some (x, s') → ∀ {o : Nat} {cs : List V}, s.obj o = .box cs → s'.obj o = .box cs
  | [], s, s', vs, x, h, o, cs, ho => by
    cases vs with
    | nil =>
      have e : s = s' := congrArg Prod.snd (Option.some.inj (show some ((), s) = some (x, s') from h))
      subst e; exact ho
    | cons _ _ => exact absurd (show none = some (x, s') from h) nofun
  | [(c, own)], s, s', vs, x, h, o, cs, ho => by
    match vs with
    | [] => exact absurd (show none = some (x, s') from h) nofun
    | [v] => exact take_box (show V.take s (sel own 2 md) c v = some (x, s') from h) ho
    | _ :: _ :: _ => exact absurd (show none = some (x, s') from h) nofun
  | (c, own) :: c' :: cells, s, s', vs, x, h, o, cs, ho => by
    match vs with
    | [] => exact absurd (show none = some (x, s') from h) nofun
    | v :: vs =>
      have h' : (match V.take s (sel own 2 md) c v with
        | some (x, s) => match takeCells s md (c' :: cells) vs with
          | some (y, s) => some ((x, y), s)
          | none => none
        | none => none : Option (Row (kinds ((c, own) :: c' :: cells)) × St)) = some (x, s') := h
      split at h'
      case h_2 => cases h'
      rename_i x1 s1 h1
      split at h'
      case h_2 => cases h'
      rename_i x2 s2 h2
      have e : s2 = s' := congrArg Prod.snd (Option.some.inj h')
      subst e
      exact takeCells_box h2 (take_box h1 ho)
theorem takeArg_box {s s' : St} {md : Nat} {g : Arg} (hg : g.mode ≠ 2) {v : V} {x : Row (kinds g.cells)} {os : List Nat} (h : takeArg s md g v = some (x, os, s')) {o : Nat} {cs : List V} (ho : s.obj o = .box cs) : s'.obj o = .box cs := by
  unfold takeArg at h
  split at h
  · rename_i e; exact absurd e hg
  · split at h
    · rename_i s2 h2
      have e : s2 = s' := congrArg (·.2.2) (Option.some.inj h)
      subst e
      exact takeCells_box h2 ho
    · cases h
  · split at h
    · rename_i s2 h2
      have e : s2 = s' := congrArg (·.2.2) (Option.some.inj h)
      subst e
      exact takeCells_box h2 ho
    · cases h
  · cases h
theorem takeArgs_box {md : Nat} : ∀ {ins : Args} (hi : ins.ptrs = []) {s s' : St} {vs : List V} {x : ins.T} {os : List Nat}, takeArgs s md ins vs = some (x, os, s') → ∀ {o : Nat} {cs : List V}, s.obj o = .box cs → s'.obj o = .box cs
  | [], hi, s, s', vs, x, os, h, o, cs, ho => by
    cases vs with
    | nil =>
      have e : s = s' := congrArg (·.2.2) (Option.some.inj (show some ((), ([] : List Nat), s) = some (x, os, s') from h))
      subst e; exact ho
    | cons _ _ => exact absurd (show none = some (x, os, s') from h) nofun
  | g :: r, hi, s, s', vs, x, os, h, o, cs, ho => by
    have hi' : sel (Nat.beq g.mode 2) (g :: Args.ptrs r) (Args.ptrs r) = [] := hi
    have hg : Nat.beq g.mode 2 = false := by
      cases e : Nat.beq g.mode 2 with
      | false => rfl
      | true => rw [e] at hi'; cases hi'
    rw [hg] at hi'
    have hm : g.mode ≠ 2 := fun e => by rw [e] at hg; cases hg
    match vs with
    | [] => exact absurd (show none = some (x, os, s') from h) nofun
    | v :: vs =>
      have h' : (match takeArg s md g v with
        | some (x, os, s) => match takeArgs s md r vs with
          | some (y, os', s) => some (ajoin g r x y, lapp os os', s)
          | none => none
        | none => none : Option (Args.T (g :: r) × List Nat × St)) = some (x, os, s') := h
      split at h'
      case h_2 => cases h'
      rename_i x1 os1 s1 h1
      split at h'
      case h_2 => cases h'
      rename_i x2 os2 s2 h2
      have e : s2 = s' := congrArg (·.2.2) (Option.some.inj h')
      subst e
      exact takeArgs_box hi' h2 (takeArg_box hm h1 ho)

/-- behind a call -/
theorem after_call (R : Rel w0 F0 s m ok a w) {f : Nat} {sp : FSpec} (hF : FnOk P f sp) {x : sp.ins.T} {os : List Nat} {us : List Value} {md : Nat} (hmd : md = (match sp.outs.leads, sp.ins.gives with | false, false => 0 | _, _ => 1))
    {vs : List V} (ht : takeArgs s md sp.ins vs = some (x, os, s')) (hv : All2 (VR w ok m s.n) vs us) {y : Args.R sp.outs sp.ins.ptrs} (hy : sp.f x = some y)
    (hk : (outVals sp.outs (rfst sp.outs sp.ins.ptrs y) s' fun vs s' => backVals sp.ins.ptrs os (rsnd sp.outs sp.ins.ptrs y) s' fun s'' => k (oneOf vs) s'') = some r)
    {nx : Value → World → Prop} {q : Bool} (hq : q = true → sp.ins.ptrs = []) (L : Leads w0 F0 s m ok a w q k r nx) :
    Calls P f us.toArray w fun e w' => ∃ v, e = .returned v ∧ nx v w' := by
  by_cases h0 : sp.outs.leads = false ∧ sp.ins.gives = false
  · rw [h0.1, h0.2] at hmd
    subst hmd
    obtain ⟨e, e', hA⟩ := takeArgs_zero s ok R s' sp.ins h0.2 ht hv
    subst e
    subst e'
    refine (hF w (fun b => ok b ∨ pool s' m b) us x y [] ?_ hA List.nodup_nil nofun hy).mono fun e w' ⟨vs', ok', F1, F2, he, hG, hok1, hok2, hA', hB, hnd, hfr⟩ => ⟨_, he, ?_⟩
    · rintro b (hb | ⟨o, hb⟩)
      · exact R.okold b hb
      · exact R.exlt hb
    have hG' : Grew (fun _ => False) w w' := ⟨hG.os, hG.tape, hG.output, hG.size, fun k hk hn => hG.block k hk nofun⟩
    have R1 := R.grow hG'
    have hfree : FreeB w0 F0 s' m ok F1 := ⟨(List.nodup_append.1 hnd).1, fun b hb => by
      have := (hfr b (List.mem_append_left _ hb)).2.resolve_left nofun
      exact ⟨fun h => by have := R.okold b h; omega, .inl (Nat.le_trans R.grew.size this), fun ⟨o, h⟩ => by have := R.exlt h; omega⟩⟩
    obtain ⟨vs2, s2, m2, R2, E2, hvs2, hk2⟩ := outVals_ok R1 (ArgsR_noleads (okx := ok) h0.1 hA') hfree hk
    exact L _ _ s2 m2 ok w' R2 E2.N E2.tmps E2.n (fun _ h => h) E2.loc (fun _ => ⟨R.stay hG', fun o cs ho => by rw [E2.obj o (obj_lt R (by rw [ho]; exact nofun))]; exact ho⟩) (VR_oneOf hvs2) (backVals_nil hk2)
  · have hmd1 : md = 1 := by
      rw [hmd]
      cases e1 : sp.outs.leads <;> cases e2 : sp.ins.gives <;> simp_all
    rw [hmd1] at ht
    obtain ⟨ok1, F, R1, T, hA, hos⟩ := takeArgs_one R ht hv
    obtain ⟨hnd0, _⟩ := takeArgs_nodup R ht hv
    refine (hF w ok1 us x y F R1.okold hA T.nd (fun b hb => ⟨(T.Fn b hb).1, let ⟨o, h⟩ := T.Fp b hb; R.exlt h⟩) hy).mono fun e w' ⟨vs', ok', F1, F2, he, hG, hok1, hok2, hA', hB, hnd, hfr⟩ => ⟨_, he, ?_⟩
    have hF0 : ∀ b ∈ F, w0.heap.size ≤ b ∨ F0 b := fun b hb => by
      obtain ⟨o, h⟩ := T.Fp b hb
      exact (R.exok o b h).2
    have R1' : Rel w0 F0 s' m ok1 a w' := by
      refine R1.world (fun b hb => hG.block b (R1.okold b hb) (fun h => (T.Fn b h).1 hb)) (fun j b hd hb => ?_) (R.grew.trans hG (fun b hb h => (hF0 b h).resolve_left (by omega))) hG.size
      refine hG.block b ((R1.objs j).lt hd hb) (fun h => ?_)
      rcases OR.block_cases R1 hd hb with hx | hx
      · exact (T.Fn b h).2 ⟨j, hx⟩
      · exact (T.Fn b h).1 hx
    have R2 : Rel w0 F0 s' m ok' a w' := R1'.okmore hok1 (fun b hb ⟨j, hx⟩ => by
      rcases (hok2 b hb).1 with h | h | h
      · exact (R1.exok j b hx).1 h
      · exact (T.Fn b h).2 ⟨j, hx⟩
      · have := R1.exlt hx; omega) (fun b hb => (hok2 b hb).2) (fun b hb => by
      rcases (hok2 b hb).1 with h | h | h
      · exact R1.okin b h
      · exact .inr (hF0 b h).symm
      · exact .inr (.inr (Nat.le_trans R.grew.size h)))
    have hfree : FreeB w0 F0 s' m ok' (F1 ++ F2) := ⟨hnd, fun b hb => by
      obtain ⟨h1, h2⟩ := hfr b hb
      refine ⟨h1, ?_, fun ⟨j, hx⟩ => ?_⟩
      · rcases h2 with h2 | h2
        · exact hF0 b h2
        · exact .inl (Nat.le_trans R.grew.size h2)
      · rcases h2 with h2 | h2
        · exact (T.Fn b h2).2 ⟨j, hx⟩
        · have := R1.exlt hx; omega⟩
    obtain ⟨vs2, s2, m2, R3, E2, hvs2, hk2⟩ := outVals_ok R2 hA' hfree.left hk
    obtain ⟨s3, m3, R4, h1, h2, h3, h4, h6, h5⟩ := backVals_ok R3 hB (hos.imp fun o b ⟨h1, h2, h3, _⟩ => by
      have hlt : o < s'.n := by rw [T.n]; exact h1
      exact ⟨Nat.lt_of_lt_of_le hlt E2.n, by rw [E2.loc o hlt]; exact h2, by rw [E2.obj o hlt]; exact h3⟩) hnd0 (hfree.right E2) hk2
    have hvs3 := hvs2.imp fun _ _ h => h.keep (w' := w') (ok' := ok') (m' := m3) (n' := s3.n) (fun _ _ => rfl) (fun _ h => h) h1 h4
    refine L _ _ s3 m3 ok' w' R4 (h2.trans (E2.N.trans T.N)) (h3.trans (E2.tmps.trans T.tmps)) (Nat.le_trans (Nat.le_of_eq T.n.symm) (Nat.le_trans E2.n h1)) (fun b hb => hok1 b (T.okm b hb)) (fun o ho => ?_) (fun hqt => ?_) (VR_oneOf hvs3) h5
    · have ho' : o < s'.n := by rw [T.n]; exact ho
      exact (h4 o (Nat.lt_of_lt_of_le ho' E2.n)).trans (E2.loc o ho')
    · refine ⟨⟨fun b hb => hG.block b (R.okold b hb) (fun h => (T.Fn b h).1 (T.okm b hb)), fun o b cs ho hb => hG.block b ((R.objs o).lt (by rw [ho]; exact nofun) hb) (fun h => ?_)⟩, fun o cs ho => ?_⟩
      · exact (T.Fn b h).2 ⟨o, hb, by rw [takeArgs_box (hq hqt) ht ho]; trivial⟩
      · have hb' := takeArgs_box (hq hqt) ht ho
        have ho' := obj_lt R1 (o := o) (by rw [hb']; exact nofun)
        have hno : o ∉ os := fun hm => by
          obtain ⟨j, hj, e⟩ := List.mem_iff_getElem.1 hm
          obtain ⟨b, _, _, _, hd, _⟩ := hos.get (List.getElem?_eq_getElem hj)
          rw [e, hb'] at hd
          cases hd
        rw [h6 o (Nat.lt_of_lt_of_le ho' E2.n) hno, E2.obj o ho', hb']

theorem ev_call {q : Bool} {f : Nat} {args : Array Operand} {ats : Array TypeId} (hΓ : EnvOk P Γ) (ho : o.op = .call { callee := .value (.func f), args := args, argTypes := ats }) (R : Rel w0 F0 s m ok a w)
    (h : evOp Θ Γ (.call { callee := .value (.func f), args := args, argTypes := ats }) s k = some r)
    (hq : q = true → ∀ sp, Γ.at f = some sp → sp.ins.ptrs = []) (L : Leads w0 F0 s m ok a w q k r (fun v w' => next (a.put o.dst v) w')) : o.wp P a w next Q := by
  simp only [evOp] at h
  split at h
  case h_2 => cases h
  rename_i sp hsp
  split at h
  case h_2 => cases h
  rename_i x os s1 ht
  obtain ⟨y, hy, hk⟩ := dbind_some h
  obtain ⟨hF, fn, hf, hb, hn⟩ := hΓ f sp hsp
  have hc := after_call R hF rfl ht (evals R args.toList) hy hk (fun h => hq h sp hsp) L
  unfold Oper.wp
  have hrun : (Go.execOp a.eval o).run P w = .ok (.enter f (args.toList.map a.eval).toArray) w := by
    have e : (args.toList.map a.eval).toArray = #[] ++ args.map a.eval ++ #[] := Array.toList_inj.1 (by simp)
    rw [e]
    obtain ⟨dst, op, type, pos, after, guard⟩ := o
    simp only at ho
    subst ho
    rw [execOp_call_go]
    exact run_callFunc_go hf hb hn _
  rw [hrun, Oper.upon_enter]
  refine hc.mono fun e w' ⟨v, he, hnx⟩ => ?_
  subst he
  exact hnx
end
end Rig
