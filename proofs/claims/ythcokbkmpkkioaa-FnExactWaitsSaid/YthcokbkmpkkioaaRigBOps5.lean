/- Part of Rig, a reflective evaluator of this project's own: a function's code, run over typed data by Lean's kernel, gives its contract. No condition. -/
import Derived.Test.YthcokbkmpkkioaaRigBOps4
import Derived.Laws.MakeOwn
set_option linter.unusedVariables false
set_option linter.unusedSimpArgs false
namespace Rig
open Go
section
variable {P : Program} {w0 w w' : World} {F0 : Own} {s s' : St} {m m' : Nat → Loc} {ok ok' : Nat → Prop} {a : Act} {o : Oper} {next : Act → World → Prop} {Q : Exit → Act → World → Prop}
variable {Θ : Tab} {Γ : Env} {ρ : Type} {k : V → St → Option ρ} {r : ρ}

theorem dlen_eq {α : Type} (l : List α) : dlen l = (l.length : Int) := rfl

theorem ev_indexAddr {t : TypeId} {x i : Operand} (hΘ : TabOk P Θ) (ho : o.op = .indexAddr t x i) (R : Rel w0 F0 s m ok a w) (h : evOp Θ Γ (.indexAddr t x i) s k = some r)
    : Quiet P s m ok w o a k r := by
  have hx := R.eval x
  have hi := R.eval i
  simp only [evOp] at h
  split at h
  case h_2 => cases h
  rename_i ei hei
  obtain ⟨ti, hti, ht, he⟩ := elemOf_at hΘ hei
  have key : ∀ (w : World) (b off len cap : Nat) (kn : IntKind) (n : Int), a.eval x = .slice (some ⟨b, off, none⟩) len cap → a.eval i = .int kn n → 0 ≤ n → n < (len : Int) →
      (Go.execOp a.eval o).run P w = .ok (.value (.pointer (some ⟨b, off + n.toNat * ei.cells.length, none⟩))) w := fun w b off len cap kn n e1 e2 h0 h1 => by
    simp [Go.execOp, ho, e1, e2, Instr.indexAt, run_underlying ht, asIntOf, h0, h1, run_size he w, add_none]
  split at h
  · rename_i row l kn n e1 e2
    rw [e1] at hx
    rw [e2] at hi
    have hi := VR_int hi
    split at h
    case h_2 => cases h
    rename_i hrow
    have hrow := CK.eqs_of_beqs hrow
    obtain ⟨h0, h⟩ := dif_none_right h
    obtain ⟨h1, h⟩ := dif_none_right h
    have h0 := ile_true h0
    have h1 := ilt_true h1
    obtain ⟨A, c, ev, hc, hz⟩ := hx
    rcases hz with hz | ⟨ad, eA, hs, hok, hrd⟩
    · exfalso
      have : dlen l = ((List.length (α := CK.rowTy row) l : Nat) : Int) := rfl
      omega
    · subst eA
      obtain ⟨b, off, sp⟩ := ad
      simp only at hs
      subst hs
      refine ⟨_, .rp row l n 0, fun w' _ => (key w' b off _ c kn n ev hi h0 h1), ⟨⟨b, off, none⟩, ⟨rfl, hrd⟩, hok, h0, h1, by rw [hrow]; simp⟩, h⟩
  · rename_i ob kn n e1 e2
    rw [e1] at hx
    rw [e2] at hi
    have hi := VR_int hi
    obtain ⟨hlt, ev⟩ := hx
    split at h
    case h_2 => cases h
    rename_i row l fz hob
    split at h
    case h_2 => cases h
    rename_i hrow
    have hrow := CK.eqs_of_beqs hrow
    obtain ⟨h0, h⟩ := dif_none_right h
    obtain ⟨h1, h⟩ := dif_none_right h
    have h0 := ile_true h0
    have h1 := ilt_true h1
    have hor := R.objs ob
    rw [hob] at hor
    obtain ⟨hlen, hcap, hsz, hor⟩ := hor
    rw [dlen_eq] at h1
    have h1' : n < ((m ob).len : Int) := by rw [hlen]; exact h1
    rcases ea : (m ob).addr with _ | ad
    · rw [ea] at hor
      exfalso
      have : (m ob).cap = 0 := hor
      omega
    · rw [ea] at hor ev
      obtain ⟨⟨hs, _⟩, _⟩ := hor
      obtain ⟨b, off, sp⟩ := ad
      simp only at hs
      subst hs
      refine ⟨_, .op ob n 0, fun w' _ => (key w' b off _ _ kn n ev hi h0 h1'), ⟨hlt, ⟨b, off, none⟩, ea, h0, h1', by rw [hsz, hrow]; simp⟩, h⟩
  · cases h

theorem run_builtin {b : Builtin} {args : Array Operand} {ats : Array TypeId} (ho : o.op = .call { callee := .builtin b, args := args, argTypes := ats }) {v : Value}
    (h : ∀ cs, (builtin b ats o.type cs (args.map a.eval)).run P w = .ok (.value v) w') : (Go.execOp a.eval o).run P w = .ok (.value v) w' := by
  simp only [Go.execOp, ho, resolve]
  rw [Sem.run_bind]
  simp only [Sem.run_pure, Result.andThen_ok, invoke]
  exact h _
theorem toArray_args (args : Array Operand) : args.map a.eval = (args.toList.map a.eval).toArray := Array.toList_inj.1 (by simp)

theorem VR_len {n : Nat} {row : List CK} {l : List (Row row)} {u : Value} (h : VR w ok m n (.ro row l) u) : ∃ A c, u = .slice A l.length c := by
  obtain ⟨A, c, e, _⟩ := h
  exact ⟨A, c, e⟩

theorem All2.one_inv {α β : Type} {R : α → β → Prop} {x : α} {ys : List β} (h : All2 R [x] ys) : ∃ y, ys = [y] ∧ R x y := by
  cases h with
  | cons h ht => cases ht with
    | nil => exact ⟨_, rfl, h⟩
theorem All2.two_inv {α β : Type} {R : α → β → Prop} {x x' : α} {ys : List β} (h : All2 R [x, x'] ys) : ∃ y y', ys = [y, y'] ∧ R x y ∧ R x' y' := by
  cases h with
  | cons h ht => cases ht with
    | cons h' ht => cases ht with
      | nil => exact ⟨_, _, rfl, h, h'⟩

theorem ev_len {args : Array Operand} {ats : Array TypeId} (hΘ : TabOk P Θ) (ho : o.op = .call { callee := .builtin .len, args := args, argTypes := ats }) (R : Rel w0 F0 s m ok a w)
    (h : evBuiltin Θ .len (lmap (eval s) args.toList) ats.toList s k = some r) : Quiet P s m ok w o a k r := by
  have hA := evals R args.toList
  have hargs := toArray_args (a := a) args
  generalize args.toList.map a.eval = us at hA hargs
  simp only [evBuiltin] at h
  split at h
  · rename_i x t e1 e2
    have e2 : ats = #[t] := Array.toList_inj.1 e2
    subst e2
    rw [e1] at hA
    obtain ⟨u, eu, hx⟩ := hA.one_inv
    subst eu
    have hx := VR_str hx
    subst hx
    split at h
    case h_2 => cases h
    rename_i ht
    have ht := isTy_str hΘ ht
    refine ⟨_, _, fun w' _ => (run_builtin ho fun cs => ?_), (VRi (kd := .i64) (x := dsize x)), h⟩
    rw [hargs]
    simp [builtin, Builtin.len_, run_underlying ht, dsize, goInt]
  · rename_i x t e1 e2 e3
    have e3 : ats = #[t] := Array.toList_inj.1 e3
    subst e3
    rw [e2] at hA
    obtain ⟨u, eu, hx⟩ := hA.one_inv
    subst eu
    split at h
    case h_2 => cases h
    rename_i ei hei
    obtain ⟨ti, hti, ht, he⟩ := elemOf_at hΘ hei
    have key : ∀ (w : World) (A : Option Addr) (n c : Nat), u = .slice A n c → (Go.execOp a.eval o).run P w = .ok (.value (.int .i64 (n : Int))) w := fun w A n c eu => by
      refine run_builtin ho fun cs => ?_
      rw [hargs, eu]
      simp [builtin, Builtin.len_, run_underlying ht, goInt]
    split at h
    · rename_i row l
      obtain ⟨A, c, eu⟩ := VR_len hx
      exact ⟨_, _, fun w' _ => (key w' _ _ _ eu), (VRi (kd := .i64) (x := dlen l)), h⟩
    · exact ⟨_, _, fun w' _ => (key w' none 0 0 hx), (VRi (kd := .i64) (x := 0)), h⟩
    · rename_i ob
      obtain ⟨hlt, eu⟩ := hx
      split at h
      case h_2 => cases h
      rename_i row l fz hob
      have hor := R.objs ob
      rw [hob] at hor
      obtain ⟨hlen, _⟩ := hor
      have e : ((m ob).len : Int) = dlen l := by rw [hlen]; rfl
      exact ⟨_, _, fun w' _ => (key w' _ _ _ eu), (by rw [e]; exact VRi), h⟩
    · cases h
  · cases h

theorem run_mins {f : Int → Int → Int} {g : Value → Value → Sem Value} (hfg : ∀ kd x y (w : World), (g (.int kd x) (.int kd y)).run P w = .ok (.int kd (f x y)) w) {kd : IntKind} {n : Nat} :
    ∀ {vs : List V} {us : List Value} {x z : Int}, All2 (VR w ok m n) vs us → fold2 f kd x vs = some z → (us.foldlM g (.int kd x)).run P w' = .ok (.int kd z) w'
  | [], us, x, z, hA, h => by
    cases hA
    have := Option.some.inj (show some x = some z from h)
    subst this
    rfl
  | v :: vs, us, x, z, hA, h => by
    cases hA with
    | cons hv ht =>
      unfold fold2 at h
      split at h
      · rename_i k' b e
        cases e
      · rename_i k' b rr e
        cases e
        split at h
        · rename_i hk
          have := ikb_eq hk
          subst this
          have hv := VR_int hv
          subst hv
          rw [List.foldlM_cons, Sem.run_bind, hfg]
          exact run_mins hfg ht h
        · cases h
      · cases h

theorem ev_minmax {b : Builtin} {args : Array Operand} {ats : Array TypeId} (hb : b = .min ∨ b = .max) (ho : o.op = .call { callee := .builtin b, args := args, argTypes := ats }) (R : Rel w0 F0 s m ok a w)
    (h : evBuiltin Θ b (lmap (eval s) args.toList) ats.toList s k = some r) : Quiet P s m ok w o a k r := by
  have hA := evals R args.toList
  have hargs := toArray_args (a := a) args
  generalize args.toList.map a.eval = us at hA hargs
  rcases hb with hb | hb <;> subst hb
  · simp only [evBuiltin] at h
    split at h
    case h_2 => cases h
    rename_i kx x rr e1
    split at h
    case h_2 => cases h
    rename_i z hz
    rw [e1] at hA
    cases hA with
    | cons hv ht =>
      have hv := VR_int hv
      subst hv
      refine ⟨_, _, fun w' _ => (run_builtin ho fun cs => ?_), (VRi (kd := kx) (x := z)), h⟩
      rw [hargs]
      have := run_mins (P := P) (g := Builtin.min2) (f := imin) (w' := w') (fun kd x y w => by simp [Builtin.min2, imin]) ht hz
      simp [builtin, Builtin.min_, this]
  · simp only [evBuiltin] at h
    split at h
    case h_2 => cases h
    rename_i kx x rr e1
    split at h
    case h_2 => cases h
    rename_i z hz
    rw [e1] at hA
    cases hA with
    | cons hv ht =>
      have hv := VR_int hv
      subst hv
      refine ⟨_, _, fun w' _ => (run_builtin ho fun cs => ?_), (VRi (kd := kx) (x := z)), h⟩
      rw [hargs]
      have := run_mins (P := P) (g := Builtin.max2) (f := imax) (w' := w') (fun kd x y w => by simp [Builtin.max2, imax]) ht hz
      simp [builtin, Builtin.max_, this]

/-! #### new variables -/
theorem grew_alloc (F : Nat → Prop) (w : World) (ob : Go.Obj) : Grew F w (w.alloc ob) :=
  ⟨rfl, rfl, rfl, by show w.heap.size ≤ (w.heap.push ob).size; simp, fun k hk _ => by show (w.heap.push ob)[k]? = w.heap[k]?; simp [Array.getElem?_push, Nat.ne_of_lt hk]⟩
theorem heap_alloc (w : World) (ob : Go.Obj) : (w.alloc ob).heap[w.heap.size]? = some ob := by show (w.heap.push ob)[w.heap.size]? = _; simp
theorem Clean.zero (vs : Array Value) : Clean vs (0, 0) := fun j _ h => by simp at h

/-- a new object in a new block -/
theorem Rel.newBlock (R : Rel w0 F0 s m ok a w) (hg : Grew (fun _ => False) w w') (ob : Obj) (loc : Loc) (hloc : ∀ b, loc.addr.map (·.block) = some b → b = w.heap.size)
    (ho : OR w' ok (upd m s.n loc) (s.n + 1) loc ob) : Rel w0 F0 (s.new ob) (upd m s.n loc) ok a w' :=
  (R.grow hg).new ob loc ho fun b hb _ => by
    have hb := hloc b hb
    refine ⟨fun h => ?_, .inl ?_, fun o' h => ?_⟩
    · have := R.okold b h; omega
    · have := R.grew.size; omega
    · have := R.exlt h; omega
theorem VR1.newBlock (R : Rel w0 F0 s m ok a w) (hg : Grew (fun _ => False) w w') (loc : Loc) {v : V} {u : Value} (h : VR1 w ok m s.n v u) : VR1 w' ok (upd m s.n loc) (s.n + 1) v u :=
  h.keep (fun b hb => hg.block b (R.okold b hb) (fun h => h)) (fun _ h => h) (Nat.le_succ _) (fun o ho => upd_ne m loc (by omega))

theorem zeroCells_VR {n : Nat} : ∀ {cs : List CK} {vs : List Value}, ZeroAs cs vs → All2 (VR1 w ok m n) (V.zeroCells cs) vs
  | [], _, .nil => .nil
  | c :: cs, _ :: _, .cons h1 h2 => .cons (by
      rcases h1 with rfl | rfl
      · trivial
      · cases c <;> first | rfl | trivial) (zeroCells_VR h2)
theorem zeroVs_len : ∀ (cs : List CK), (V.zeroCells cs).length = cs.length
  | [] => rfl
  | c :: cs => by show (V.zeroCells cs).length + 1 = _; rw [zeroVs_len cs]; rfl

theorem new_keep (R : Rel w0 F0 s m ok a w) {ob : Obj} {o : Nat} {cs : List V} (ho : s.obj o = .box cs) : (s.new ob).obj o = .box cs := by
  have := obj_lt R (o := o) (by rw [ho]; exact nofun)
  rw [St.obj_new, if_neg (by omega)]; exact ho
theorem leads_box (R : Rel w0 F0 s m ok a w) {t : TypeId} {cs : List V} {us : Array Value} (hA : All2 (VR1 w ok m s.n) cs us.toList) (h : k (.ptr s.n 0) (s.new (.box cs)) = some r)
    {nx : Value → World → Prop} {q : Bool} (L : Leads w0 F0 s m ok a w q k r nx) : nx (.pointer (some ⟨w.heap.size, 0, none⟩)) (w.alloc (.cells us t)) := by
  have hg := grew_alloc (fun _ => False) w (.cells us t)
  refine L _ (.ptr s.n 0) (s.new (.box cs)) (upd m s.n ⟨some ⟨w.heap.size, 0, none⟩, 0, 0, 0⟩) ok _ (R.newBlock hg _ _ (fun b hb => by simpa using hb.symm) ?_) rfl rfl (Nat.le_succ _) (fun _ h => h) (fun o ho => upd_ne m _ (by omega)) (fun _ => ⟨R.stay hg, fun o cs ho => new_keep R ho⟩) ⟨Nat.lt_succ_self _, ⟨w.heap.size, 0, none⟩, by rw [upd_same], rfl⟩ h
  exact ⟨w.heap.size, us, t, (0, 0), rfl, heap_alloc _ _, Clean.zero _, hA.imp fun _ _ h => h.newBlock R hg _⟩

theorem ev_alloc {t : TypeId} (hΘ : TabOk P Θ) (ho : o.op = .alloc t) (R : Rel w0 F0 s m ok a w) (h : evOp Θ Γ (.alloc t) s k = some r)
    {q : Bool} (L : Leads w0 F0 s m ok a w q k r (fun v w' => next (a.put o.dst v) w')) : o.wp P a w next Q := by
  simp only [evOp] at h
  split at h
  case h_2 => cases h
  rename_i ti hti
  obtain ⟨z, hz, hc⟩ := run_zero (hΘ t ti hti) w
  refine wp_val (v := .pointer (some ⟨w.heap.size, 0, none⟩)) (w' := w.alloc (.cells z.cells t)) ?_ (leads_box R (zeroCells_VR hc) h L)
  simp [Go.execOp, ho, Instr.alloc, hz, newVar, newRow]
theorem ev_box {t : TypeId} {x : Operand} (ho : o.op = .box t x) (R : Rel w0 F0 s m ok a w) (h : evOp Θ Γ (.box t x) s k = some r)
    {q : Bool} (L : Leads w0 F0 s m ok a w q k r (fun v w' => next (a.put o.dst v) w')) : o.wp P a w next Q := by
  simp only [evOp] at h
  split at h
  case h_2 => cases h
  rename_i h1
  refine wp_val (v := .pointer (some ⟨w.heap.size, 0, none⟩)) (w' := w.alloc (.cells (a.eval x).cells t)) ?_ (leads_box R (VR.cells (R.eval x) h1) h L)
  simp [Go.execOp, ho, Instr.box, newVar, newRow]

end
end Rig
