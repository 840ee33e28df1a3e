/- Part of Rig, a reflective evaluator of this project's own: a function's code, run over typed data by Lean's kernel, gives its contract. No condition. -/
import Derived.Test.YthcokbkmpkkioaaRigBOps8
import Derived.MapKept
import Derived.Carry
set_option linter.unusedVariables false
set_option linter.unusedSimpArgs false
namespace Rig
open Go Go.MapKept
/-! ### maps from int to int -/
section
theorem mapIs_empty : MapIs #[] mnil := ⟨nofun, fun _ => rfl⟩
theorem find_spec (k : Int) : ∀ (l : List MapEntry) (i : Nat), (∀ e ∈ l, ∃ k v, e.key = .int .i64 k ∧ e.val = .int .i64 v) →
    (Instr.findNow (.int .i64) (.int .i64 k) l i = some none ∧ lookE l k = 0 ∧ ∀ e ∈ l, e.key ≠ .int .i64 k) ∨
    (∃ j v, Instr.findNow (.int .i64) (.int .i64 k) l i = some (some (i + j, .int .i64 v)) ∧ lookE l k = v ∧ (∃ e, l[j]? = some e ∧ e.key = .int .i64 k) ∧
      ∀ y x, lookE (l.modify j fun e => { e with key := .int .i64 k, val := .int .i64 y }) x = if x = k then y else lookE l x)
  | [], i, h => .inl ⟨rfl, rfl, nofun⟩
  | e :: es, i, h => by
    obtain ⟨k', v', hk', hv'⟩ := h e (by simp)
    have hs : Instr.sameNow (.int .i64) (.int .i64 k) e.key = some (k == k') := by simp [Instr.sameNow, hk']
    have hl : ∀ x, lookE (e :: es) x = if x = k' then v' else lookE es x := fun x => by simp [lookE, hk', hv']
    by_cases hkk : k = k'
    · right
      subst hkk
      have hs' : Instr.sameNow (.int .i64) (.int .i64 k) e.key = some true := by rw [hs]; simp
      refine ⟨0, v', by simp [Instr.findNow, hs', hv'], by rw [hl, if_pos rfl], ⟨e, rfl, hk'⟩, fun y x => ?_⟩
      rw [List.modify_zero_cons]
      simp only [lookE, hk', hv']
      by_cases hx : x = k <;> simp [hx]
    · have hs' : Instr.sameNow (.int .i64) (.int .i64 k) e.key = some false := by rw [hs]; simp [hkk]
      have hf : Instr.findNow (.int .i64) (.int .i64 k) (e :: es) i = Instr.findNow (.int .i64) (.int .i64 k) es (i + 1) := by simp [Instr.findNow, hs']
      rcases find_spec k es (i + 1) (fun e he => h e (by simp [he])) with ⟨h1, h2, h3⟩ | ⟨j, v, h1, h2, ⟨e2, h3, h3'⟩, h4⟩
      · left
        refine ⟨by rw [hf, h1], by rw [hl, if_neg hkk, h2], fun e' he' => ?_⟩
        rcases List.mem_cons.1 he' with rfl | he'
        · rw [hk']; intro e; injection e with _ e; exact hkk e.symm
        · exact h3 e' he'
      · right
        refine ⟨j + 1, v, by rw [hf, h1]; simp; omega, by rw [hl, if_neg hkk, h2], ⟨e2, by simpa using h3, h3'⟩, fun y x => ?_⟩
        rw [List.modify_succ_cons]
        have hl2 : ∀ l', lookE (e :: l') x = if x = k' then v' else lookE l' x := fun l' => by simp [lookE, hk', hv']
        rw [hl2, h4 y x, hl]
        by_cases hx : x = k'
        · subst hx
          have : ¬ x = k := fun e => hkk e.symm
          simp [this]
        · simp [hx]
theorem look_push (k y : Int) (clk : Nat) : ∀ (l : List MapEntry), (∀ e ∈ l, ∃ k v, e.key = .int .i64 k ∧ e.val = .int .i64 v) → (∀ e ∈ l, e.key ≠ .int .i64 k) → ∀ x, lookE (l ++ [{ key := .int .i64 k, val := .int .i64 y, born := clk }]) x = if x = k then y else lookE l x
  | [], _, _, x => by simp [lookE]
  | e :: es, h, hn, x => by
    obtain ⟨k', v', hk', hv'⟩ := h e (by simp)
    have ih := look_push k y clk es (fun e he => h e (by simp [he])) (fun e he => hn e (by simp [he])) x
    have hne : ¬ k' = k := fun e2 => hn e (by simp) (by rw [hk', e2])
    simp only [List.cons_append, lookE, hk', hv', ih]
    by_cases hx : x = k'
    · subst hx; simp [hne]
    · simp [hx]
end
section
variable {P : Program} {w0 w : World} {F0 : Own} {s : St} {m : Nat → Loc} {ok : Nat → Prop} {a : Act} {o : Oper} {next : Act → World → Prop} {Q : Exit → Act → World → Prop}
variable {Θ : Tab} {Γ : Env} {ρ : Type} {k : V → St → Option ρ} {r : ρ}

theorem isTy_map (hΘ : TabOk P Θ) {t : Nat} (h : isTy Θ t .map = true) : ∃ kt et i, P.underlying t = some (.map kt et) ∧ P.underlying kt = some (.int .i64) ∧ P.underlying et = some (.int .i64) ∧ P.info? et = some i ∧ i.zero = some (.int .i64 0) := by
  obtain ⟨ti, h1, h2, h3⟩ := isTy_at h
  exact (hΘ t ti h1).maps h3 h2 (isTy_elem h h1)
/-- what object i has for itself turns into something else -/
theorem Rel.turn (R : Rel w0 F0 s m ok a w) (i b : Nat) (hx : ex s m i b) {w' : World} (hG : Grew (fun j => j = b) w w') : Rel w0 F0 (s.setObj i .dead) m ok a w' := by
  have R1 : Rel w0 F0 (s.setObj i .dead) m ok a w := R.setObj i .dead (fun _ => rfl) trivial (fun b' h => by
    have := h.2
    rw [St.obj_setObj, if_pos rfl] at this
    exact this.elim)
  have hok := (R.exok i b hx).1
  refine R1.world (fun b' hb' => hG.block b' (R.okold b' hb') (fun e => hok (e ▸ hb'))) (fun j b' hd hb' => ?_) ?_ hG.size
  · rw [St.obj_setObj] at hd
    by_cases hij : i = j
    · rw [if_pos hij] at hd; exact absurd rfl hd
    · rw [if_neg hij] at hd
      refine hG.block b' ((R.objs j).lt hd hb') (fun e => ?_)
      subst e
      rcases OR.block_cases R hd hb' with h | h
      · exact hij (R.apart i j b' hx h)
      · exact hok h
  · exact R.grew.trans hG (fun j hj hjb => by
      subst hjb
      rcases (R.exok i j hx).2 with h | h
      · omega
      · exact h)

theorem ev_nilCheck {x : Operand} (ho : o.op = .nilCheck x) (R : Rel w0 F0 s m ok a w) (h : evOp Θ Γ (.nilCheck x) s k = some r) : Quiet P s m ok w o a k r := by
  have hx := R.eval x
  simp only [evOp] at h
  split at h
  · rename_i ob c e
    rw [e] at hx
    obtain ⟨hlt, ad, had, hv⟩ := hx
    exact ⟨_, .ptr ob c, fun w' _ => by simp [Go.execOp, ho, hv], ⟨hlt, ad, had, rfl⟩, h⟩
  · rename_i row l i c e
    rw [e] at hx
    have hx' := hx
    obtain ⟨ad, _, _, _, _, hv⟩ := hx
    refine ⟨_, .rp row l i c, fun w' _ => by simp only [Go.execOp, ho, hv]; rfl, ?_, h⟩
    rw [← hv]; exact hx'
  · rename_i ob i c e
    rw [e] at hx
    have hx' := hx
    obtain ⟨_, ad, _, _, _, hv⟩ := hx
    refine ⟨_, .op ob i c, fun w' _ => by simp only [Go.execOp, ho, hv]; rfl, ?_, h⟩
    rw [← hv]; exact hx'
  · rename_i f os e
    rw [e] at hx
    have hx' := hx
    obtain ⟨cs, hv, _⟩ := hx
    refine ⟨_, .clo f os, fun w' _ => by simp only [Go.execOp, ho, hv]; rfl, ?_, h⟩
    rw [← hv]; exact hx'
  · cases h
theorem ptrs_VR : ∀ {vs : List V} {os : List Nat} {us : List Value}, allPtrs vs = some os → All2 (VR w ok m s.n) vs us → All2 (PtrTo m s.n) os us
  | [], os, us, h, hv => by
    cases hv
    have e : [] = os := Option.some.inj (show some [] = some os from h)
    subst e; exact .nil
  | v :: vs, os, us, h, hv => by
    unfold allPtrs at h
    split at h
    · rename_i e; cases e
    · rename_i o' r' e
      cases e
      split at h
      case h_2 => cases h
      rename_i os' h'
      cases h
      match us, hv with
      | u :: us, .cons ⟨h1, ad, h2, h3⟩ hv2 => exact .cons ⟨h1, ad, h2, h3⟩ (ptrs_VR h' hv2)
    · cases h
theorem ev_makeFunc {f : Fn} {first caps : Array Operand} (ho : o.op = .makeFunc f first caps) (R : Rel w0 F0 s m ok a w) (h : evOp Θ Γ (.makeFunc f first caps) s k = some r) : Quiet P s m ok w o a k r := by
  cases f <;> first | exact absurd (show (none : Option ρ) = some r from h) nofun | skip
  rename_i f
  simp only [evOp] at h
  split at h
  case h_2 => cases h
  rename_i hf
  split at h
  case h_2 => cases h
  rename_i os hos
  have hp := ptrs_VR hos (evals R caps.toList)
  have hfirst : first = #[] := Array.toList_inj.1 hf
  refine ⟨.func (.func f) #[] (caps.toList.map a.eval).toArray, .clo f os, fun w' _ => ?_, ⟨_, rfl, hp⟩, h⟩
  have e : Array.map a.eval caps = (List.map a.eval caps.toList).toArray := Array.toList_inj.1 (by simp)
  simp [Go.execOp, ho, Instr.makeFunc, hfirst, e]
theorem ev_callTmp {q : Bool} {t : Nat} {args : Array Operand} {ats : Array TypeId} (hΓ : EnvOk P Γ) (ho : o.op = .call { callee := .value (.tmp t), args := args, argTypes := ats }) (R : Rel w0 F0 s m ok a w)
    (h : evOp Θ Γ (.call { callee := .value (.tmp t), args := args, argTypes := ats }) s k = some r) (hq : q = false) (L : Leads w0 F0 s m ok a w q k r (fun v w' => next (a.put o.dst v) w')) : o.wp P a w next Q := by
  simp only [evOp] at h
  split at h
  case h_2 => cases h
  rename_i f os e
  have hv : VR w ok m s.n (s.tmp t) (a.eval (.tmp t)) := R.eval (.tmp t)
  rw [e] at hv
  obtain ⟨cs, hv, hcs⟩ := hv
  rw [lapp_eq, lmap_eq (fun o => V.ptr o 0)] at h
  have hcaps : All2 (VR w ok m s.n) (os.map fun o => V.ptr o 0) cs := by
    clear h e hv
    induction hcs with
    | nil => exact .nil
    | cons h1 _ ih => obtain ⟨hlt, ad, had, hu⟩ := h1; exact .cons ⟨hlt, ad, had, hu⟩ ih
  obtain ⟨⟨fn, hf, hb, hn⟩, hc⟩ := callFn_ok R hΓ h ((evals R args.toList).append hcaps) (fun h => by rw [hq] at h; cases h) L
  unfold Oper.wp
  have hrun : (Go.execOp a.eval o).run P w = .ok (.enter f (args.toList.map a.eval ++ cs).toArray) w := by
    have hev : a.eval (.tmp t) = .func (.func f) #[] cs.toArray := hv
    have e : (args.toList.map a.eval ++ cs).toArray = #[] ++ args.map a.eval ++ cs.toArray := Array.toList_inj.1 (by simp)
    rw [e]
    simp only [Go.execOp, ho, resolve, Deferred.ofValue, hev, Sem.run_bind, Sem.run_pure, Result.andThen_ok, invoke]
    exact run_callFunc_go hf hb hn _
  rw [hrun, Oper.upon_enter]
  refine hc.mono fun e w' ⟨v, he, hnx⟩ => ?_
  subst he
  exact hnx
/-- a map's object turns -/
theorem leads_map (R : Rel w0 F0 s m ok a w) {ob : Nat} {g g' : Int → Int} (hob : s.obj ob = .map g) {b : Nat} (had : (m ob).addr = some ⟨b, 0, none⟩) {es : Array MapEntry} {clk : Nat} {es0 : Array MapEntry} {clk0 : Nat} (hh : w.heap[b]? = some (.map es0 clk0)) (hM : MapIs es g')
    (h : k .undef (s.setObj ob (.map g')) = some r) {nx : Value → World → Prop} {q : Bool} (L : Leads w0 F0 s m ok a w q k r nx) : nx undef { w with heap := w.heap.setIfInBounds b (.map es clk) } := by
  have hex : ex s m ob b := ⟨by rw [had]; rfl, by rw [hob]; trivial⟩
  have hlt := obj_lt R (o := ob) (by rw [hob]; exact nofun)
  obtain ⟨h1, h2⟩ := heap_set (w := w) (r := b) (o' := .map es clk) hh
  have hG : Grew (fun j => j = b) w { w with heap := w.heap.setIfInBounds b (.map es clk) } := ⟨rfl, rfl, rfl, by simp, fun j hj hn => h2 j hn⟩
  have R1 := R.turn ob b hex hG
  have R2 : Rel w0 F0 ((s.setObj ob .dead).setObj ob (.map g')) m ok a { w with heap := w.heap.setIfInBounds b (.map es clk) } :=
    R1.revive ob hlt (by rw [St.obj_setObj, if_pos rfl]) (.map g') (m ob) rfl ⟨b, es, clk, had, h1, hM⟩ (fun b' hb' _ => by
      have : b = b' := by rw [had] at hb'; simpa using hb'
      subst this
      exact ⟨(R.exok ob b hex).1, (R.exok ob b hex).2, R.nex hex #[]⟩)
  have R3 : Rel w0 F0 (s.setObj ob (.map g')) m ok a { w with heap := w.heap.setIfInBounds b (.map es clk) } := R2.same rfl rfl rfl (fun j => by
    rw [St.obj_setObj, St.obj_setObj]
    by_cases hj : ob = j
    · rw [if_pos hj, if_pos hj]
    · rw [if_neg hj, if_neg hj, St.obj_setObj, if_neg hj])
  refine L undef .undef (s.setObj ob (.map g')) m ok _ R3 rfl rfl (Nat.le_refl _) (fun _ h => h) (fun _ _ => rfl) (fun _ => ⟨⟨fun b' hb' => hG.block b' (R.okold b' hb') (fun e => (R.exok ob b hex).1 (e ▸ hb')), fun o' b' cs ho' hb' => hG.block b' ((R.objs o').lt (by rw [ho']; exact nofun) hb') (fun e => ?_)⟩, fun o' cs ho' => ?_⟩) trivial h
  · subst e
    have : ob = o' := R.apart ob o' b' hex ⟨hb', by rw [ho']; trivial⟩
    subst this
    rw [hob] at ho'; cases ho'
  · rw [St.obj_setObj, if_neg (fun e => by subst e; rw [hob] at ho'; cases ho')]; exact ho'
theorem run_update {t kt et : TypeId} (ht : P.underlying t = some (.map kt et)) (hk : P.underlying kt = some (.int .i64)) {b : Nat} {es : Array MapEntry} {clk : Nat} (hh : w.heap[b]? = some (.map es clk)) {g : Int → Int} (hM : MapIs es g) (n y : Int) :
    ∃ es' clk', (Instr.mapUpdate t (.map (some b)) (.int .i64 n) (.int .i64 y)).run P w = .ok () { w with heap := w.heap.setIfInBounds b (.map es' clk') } ∧ MapIs es' (mput g n y) := by
  have hkey : IsKey (.int .i64) (.int .i64 n) := rfl
  rcases find_spec n es.toList 0 hM.1 with ⟨h1, h2, h3⟩ | ⟨j, v, h1, h2, ⟨e, h3, h3'⟩, h4⟩
  · refine ⟨es.push { key := .int .i64 n, val := .int .i64 y, born := clk }, clk + 1, ?_, ?_, fun x => ?_⟩
    · unfold Instr.mapUpdate
      simp only [Sem.run_bind, run_underlying ht, Result.andThen_ok, run_getObj_map hh, run_checkKey hk hkey, run_findKey hk h1, run_setObj_map _ hh]
    · intro e he
      rw [Array.toList_push] at he
      rcases List.mem_append.1 he with he | he
      · exact hM.1 e he
      · have : e = { key := .int .i64 n, val := .int .i64 y, born := clk } := by simpa using he
        subst this; exact ⟨n, y, rfl, rfl⟩
    · rw [Array.toList_push, look_push n y clk _ hM.1 h3, hM.2]; rfl
  · rw [Nat.zero_add] at h1
    refine ⟨es.modify j fun e => { e with key := .int .i64 n, val := .int .i64 y }, clk, ?_, ?_, fun x => ?_⟩
    · unfold Instr.mapUpdate
      simp only [Sem.run_bind, run_underlying ht, Result.andThen_ok, run_getObj_map hh, run_checkKey hk hkey, run_findKey hk h1]
      have hkeep : (Instr.keyThatStays (((es[j]?).map (·.key)).getD (.int .i64 n)) (.int .i64 n)).run P w = .ok (.int .i64 n) w := by
        have h3b : es[j]? = some e := by rw [← Array.getElem?_toList]; exact h3
        rw [h3b]
        simp only [Option.map_some, Option.getD_some, h3', Instr.keyThatStays]
        have : Instr.sameBits 10000 (.int .i64 n) (.int .i64 n) = true := by simp [Instr.sameBits]
        rw [if_pos this]
        rfl
      simp only [hkeep, Result.andThen_ok, run_setObj_map _ hh]
    · intro e' he'
      rw [Array.toList_modify] at he'
      obtain ⟨i, hi, e2⟩ := List.mem_iff_getElem.1 he'
      rw [List.getElem_modify] at e2
      split at e2
      · subst e2; exact ⟨n, y, rfl, rfl⟩
      · subst e2; exact hM.1 _ (List.getElem_mem _)
    · rw [Array.toList_modify, h4 y x, hM.2]; rfl
theorem ev_update {t : Nat} {x i v : Operand} (hΘ : TabOk P Θ) (ho : o.op = .mapUpdate t x i v ∨ o.op = .insert t x i v) (R : Rel w0 F0 s m ok a w) (h : evOp Θ Γ (.mapUpdate t x i v) s k = some r)
    {q : Bool} (L : Leads w0 F0 s m ok a w q k r (fun v w' => next (a.put o.dst v) w')) : o.wp P a w next Q := by
  have hx := R.eval x
  have hi := R.eval i
  have hv := R.eval v
  simp only [evOp] at h
  split at h
  case h_2 => cases h
  rename_i ob hty e1
  split at h
  case h_2 => cases h
  rename_i n y e2 e3
  split at h
  case h_2 => cases h
  rename_i g hob
  rw [e1] at hx
  rw [e2] at hi
  rw [e3] at hv
  obtain ⟨hlt, b, had, hxv⟩ := hx
  have hi' : a.eval i = .int .i64 n := hi
  have hv' : a.eval v = .int .i64 y := hv
  have hor := R.objs ob
  rw [hob] at hor
  obtain ⟨b', es, clk, had', hh, hM⟩ := hor
  rw [had] at had'
  cases had'
  obtain ⟨kt, et, _, hu1, hu2, _, _, _⟩ := isTy_map hΘ hty
  obtain ⟨es', clk', hrun, hM'⟩ := run_update hu1 hu2 hh hM n y
  have hrun' : (Go.execOp a.eval o).run P w = .ok .skip { w with heap := w.heap.setIfInBounds b (.map es' clk') } := by
    rcases ho with ho | ho <;> simp [Go.execOp, ho, hxv, hi', hv', hrun]
  exact wp_none hrun' (leads_map R hob had hh hM' h L)
theorem ev_makeMap {t : Nat} {rs : Option Operand} (hΘ : TabOk P Θ) (ho : o.op = .makeMap t rs) (R : Rel w0 F0 s m ok a w) (h : evOp Θ Γ (.makeMap t rs) s k = some r)
    {q : Bool} (L : Leads w0 F0 s m ok a w q k r (fun v w' => next (a.put o.dst v) w')) : o.wp P a w next Q := by
  simp only [evOp] at h
  split at h
  case h_2 => cases h
  rename_i hty
  obtain ⟨kt, et, _, hu1, _⟩ := isTy_map hΘ hty
  have main : k (.map s.n) (s.new (.map mnil)) = some r ∧ (Go.execOp a.eval o).run P w = .ok (.value (.map (some w.heap.size))) (w.alloc (.map #[] 0)) := by
    cases rs with
    | none => exact ⟨h, by simp only [Go.execOp, ho]; rfl⟩
    | some x =>
      simp only at h
      split at h
      case h_2 => cases h
      rename_i kx n e
      have hx := R.eval x
      rw [e] at hx
      have hx' : a.eval x = .int kx n := hx
      refine ⟨h, ?_⟩
      simp only [Go.execOp, ho, Option.map_some, Instr.makeMap, Sem.run_bind, run_underlying hu1, Result.andThen_ok, hx', asInt]
      rfl
  obtain ⟨hk, hrun⟩ := main
  have hg : Grew (fun _ => False) w (w.alloc (.map #[] 0)) := ⟨rfl, rfl, rfl, by show w.heap.size ≤ (w.heap.push _).size; simp, fun j hj _ => by show (w.heap.push _)[j]? = w.heap[j]?; rw [Array.getElem?_push, if_neg (Nat.ne_of_lt hj)]⟩
  have hnew : (w.alloc (.map #[] 0)).heap[w.heap.size]? = some (.map #[] 0) := by show (w.heap.push _)[w.heap.size]? = _; simp
  have R1 := R.grow hg
  have R2 : Rel w0 F0 (s.new (.map mnil)) (upd m s.n ⟨some ⟨w.heap.size, 0, none⟩, 0, 0, 0⟩) ok a (w.alloc (.map #[] 0)) :=
    R1.new (.map mnil) _ ⟨w.heap.size, #[], 0, rfl, hnew, mapIs_empty⟩ (fun b hb _ => by
      have : w.heap.size = b := by simpa using hb
      subst this
      exact ⟨fun h => by have := R.okold _ h; omega, .inl R.grew.size, fun o' h => by have := R.exlt h; omega⟩)
  refine wp_val hrun (L _ (.map s.n) _ _ ok _ R2 rfl rfl (Nat.le_succ _) (fun _ h => h) (fun o' ho' => upd_ne m _ (by omega)) (fun _ => ⟨R.stay hg, fun o' cs ho' => new_keep R ho'⟩) ⟨Nat.lt_succ_self _, w.heap.size, by rw [upd_same], rfl⟩ hk)
theorem ev_lookup {t : Nat} {x i : Operand} {b : Bool} (hΘ : TabOk P Θ) (ho : o.op = .lookup t x i b) (R : Rel w0 F0 s m ok a w) (h : evOp Θ Γ (.lookup t x i b) s k = some r)
    {q : Bool} (L : Leads w0 F0 s m ok a w q k r (fun v w' => next (a.put o.dst v) w')) : o.wp P a w next Q := by
  cases b with
  | true => exact absurd (show (none : Option ρ) = some r from h) nofun
  | false =>
    have hx := R.eval x
    have hi := R.eval i
    simp only [evOp] at h
    split at h
    case h_2 => cases h
    rename_i ob n hty e1 e2
    split at h
    case h_2 => cases h
    rename_i g hob
    rw [e1] at hx
    rw [e2] at hi
    obtain ⟨hlt, b, had, hxv⟩ := hx
    have hi' : a.eval i = .int .i64 n := hi
    have hor := R.objs ob
    rw [hob] at hor
    obtain ⟨b', es, clk, had', hh, hM⟩ := hor
    rw [had] at had'
    cases had'
    obtain ⟨kt, et, ie, hu1, hu2, _, hie, hz⟩ := isTy_map hΘ hty
    have hkey : IsKey (.int .i64) (.int .i64 n) := rfl
    refine wp_val (v := .int .i64 (mget g n)) (w' := w) ?_ (L.stay R (V := .int .i64 (mget g n)) (v := .int .i64 (mget g n)) rfl h)
    have hzr : (zeroValue et).run P w = .ok (.int .i64 0) w := by simp [zeroValue, typeInfo, hie, hz]
    simp only [Go.execOp, ho, hxv, hi', Instr.lookup, Sem.run_bind, run_underlying hu1, Result.andThen_ok, run_getObj_map hh, run_checkKey hu2 hkey, Sem.run_pure]
    rcases find_spec n es.toList 0 hM.1 with ⟨h1, h2, _⟩ | ⟨j, v, h1, h2, _, _⟩
    · simp only [run_findKey hu2 h1, Result.andThen_ok, Sem.run_bind, hzr, Sem.run_pure]
      have : mget g n = 0 := by show g n = 0; rw [← hM.2, h2]
      rw [this]; rfl
    · simp only [run_findKey hu2 h1, Result.andThen_ok, Sem.run_bind, Sem.run_pure]
      have : mget g n = v := by show g n = v; rw [← hM.2, h2]
      rw [this]; rfl
end
end Rig
