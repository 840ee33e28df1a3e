/- Part of Rig, a reflective evaluator of this project's own: a function's code, run over typed data by Lean's kernel, gives its contract. No condition. -/
import Derived.Test.YthcokbkmpkkioaaRigBOps
set_option linter.unusedVariables false
set_option linter.unusedSimpArgs false
namespace Rig
open Go
section
variable {P : Program} {w0 w : World} {F0 : Own} {s : St} {m : Nat → Loc} {ok : Nat → Prop} {a : Act} {o : Oper} {next : Act → World → Prop} {Q : Exit → Act → World → Prop}
variable {Θ : Tab} {Γ : Env} {ρ : Type} {k : V → St → Option ρ} {r : ρ}

/-- what was ok, and the variables, are as they were -/
def Stay (s : St) (m : Nat → Loc) (ok : Nat → Prop) (w w' : World) : Prop :=
  (∀ b, ok b → w'.heap[b]? = w.heap[b]?) ∧ ∀ o b cs, s.obj o = .box cs → (m o).addr.map (·.block) = some b → w'.heap[b]? = w.heap[b]?
theorem Stay.refl (s : St) (m : Nat → Loc) (ok : Nat → Prop) (w : World) : Stay s m ok w w := ⟨fun _ _ => rfl, fun _ _ _ _ _ => rfl⟩
theorem Rel.stay (R : Rel w0 F0 s m ok a w) {w' : World} (hg : Grew (fun _ => False) w w') : Stay s m ok w w' :=
  ⟨fun b hb => hg.block b (R.okold b hb) (fun h => h), fun o b cs ho hb => hg.block b ((R.objs o).lt (by rw [ho]; exact nofun) hb) (fun h => h)⟩

/-- nothing was written to a variable -/
def Soft (s : St) (m : Nat → Loc) (ok : Nat → Prop) (w : World) (s' : St) (w' : World) : Prop := Stay s m ok w w' ∧ ∀ o cs, s.obj o = .box cs → s'.obj o = .box cs
/-- what an operation must be shown to lead to -/
def Leads (w0 : World) (F0 : Own) (s : St) (m : Nat → Loc) (ok : Nat → Prop) (a : Act) (w : World) (q : Bool) (k : V → St → Option ρ) (r : ρ) (next : Value → World → Prop) : Prop :=
  ∀ v V s' m' ok' w', Rel w0 F0 s' m' ok' a w' → s'.N = s.N → s'.tmps = s.tmps → s.n ≤ s'.n → (∀ b, ok b → ok' b) → (∀ o, o < s.n → m' o = m o) → (q = true → Soft s m ok w s' w') → VR w' ok' m' s'.n V v → k V s' = some r → next v w'

theorem Leads.stay {q : Bool} {nx : Value → World → Prop} (L : Leads w0 F0 s m ok a w q k r nx) (R : Rel w0 F0 s m ok a w) {v : Value} {V : V} (h : VR w ok m s.n V v) (hk : k V s = some r) : nx v w :=
  L v V s m ok w R rfl rfl (Nat.le_refl _) (fun _ h => h) (fun _ _ => rfl) (fun _ => ⟨Stay.refl _ _ _ _, fun _ _ h => h⟩) h hk

/-- an operation that yields its value whatever happens elsewhere -/
def Quiet (P : Program) (s : St) (m : Nat → Loc) (ok : Nat → Prop) (w : World) (o : Oper) (a : Act) (k : V → St → Option ρ) (r : ρ) : Prop :=
  ∃ v V, (∀ w', Stay s m ok w w' → (Go.execOp a.eval o).run P w' = .ok (.value v) w') ∧ VR w ok m s.n V v ∧ k V s = some r
theorem Quiet.wp {q : Bool} (h : Quiet P s m ok w o a k r) (R : Rel w0 F0 s m ok a w) (L : Leads w0 F0 s m ok a w q k r (fun v w' => next (a.put o.dst v) w')) : o.wp P a w next Q := by
  obtain ⟨v, V, h1, h2, h3⟩ := h
  exact wp_val (h1 w (Stay.refl _ _ _ _)) (L.stay R h2 h3)

theorem dif_none_right {α : Type} {b : Bool} {x : Option α} {y : α} (h : dif b x none = some y) : b = true ∧ x = some y := by
  cases b
  · simp [dif] at h
  · exact ⟨rfl, h⟩
theorem dif_none_left {α : Type} {b : Bool} {x : Option α} {y : α} (h : dif b none x = some y) : b = false ∧ x = some y := by
  cases b
  · exact ⟨rfl, h⟩
  · simp [dif] at h
theorem ile_true {a b : Int} (h : ile a b = true) : a ≤ b := of_decide_eq_true h
theorem ilt_true {a b : Int} (h : ilt a b = true) : a < b := of_decide_eq_true h
theorem ilt_false {a b : Int} (h : ilt a b = false) : ¬ a < b := of_decide_eq_false h
theorem ieq_true {a b : Int} (h : ieq a b = true) : a = b := of_decide_eq_true h
theorem ieq_false {a b : Int} (h : ieq a b = false) : ¬ a = b := of_decide_eq_false h

theorem ev_move {x : Operand} (ho : o.op = .move x ∨ o.op = .assign x) (R : Rel w0 F0 s m ok a w) (h : k (eval s x) s = some r)
    : Quiet P s m ok w o a k r := by
  refine ⟨a.eval x, eval s x, fun w' _ => ?_, R.eval x, h⟩
  rcases ho with ho | ho <;> simp [Go.execOp, ho]

theorem ev_pick {c x y : Operand} (ho : o.op = .pick c x y) (R : Rel w0 F0 s m ok a w) (h : evOp Θ Γ (.pick c x y) s k = some r)
    : Quiet P s m ok w o a k r := by
  have hc := R.eval c
  have key : ∀ (w : World) b, a.eval c = .bool b → (Go.execOp a.eval o).run P w = .ok (.value (if b = true then a.eval x else a.eval y)) w := fun w b hb => by
    cases b <;> simp [Go.execOp, ho, hb, asBool]
  simp only [evOp] at h
  split at h
  · rename_i b hb
    rw [hb] at hc
    have hc' : a.eval c = .bool b := hc
    cases b with
    | true => exact ⟨_, _, fun w' _ => key w' _ hc', R.eval x, h⟩
    | false => exact ⟨_, _, fun w' _ => key w' _ hc', R.eval y, h⟩
  · rename_i hb
    rw [hb] at hc
    exact ⟨_, _, fun w' _ => key w' _ hc, R.eval x, h⟩
  · rename_i hb
    rw [hb] at hc
    exact ⟨_, _, fun w' _ => key w' _ hc, R.eval y, h⟩
  · cases h

theorem q_load {t : Nat} {x : Operand} (hΘ : TabOk P Θ) (hno : ∀ ob i c, eval s x ≠ .op ob i c) (ho : o.op = .load t x) (R : Rel w0 F0 s m ok a w) (h : evOp Θ Γ (.load t x) s k = some r)
    : Quiet P s m ok w o a k r := by
  have hx := R.eval x
  have key : ∀ (w : World) ad v, a.eval x = .pointer (some ad) → (loadVar t ad).run P w = .ok v w → (Go.execOp a.eval o).run P w = .ok (.value v) w := fun w ad v h1 h2 => by
    simp [Go.execOp, ho, h1, Instr.loadAt, Instr.sureAddr, h2]
  simp only [evOp] at h
  split at h
  case h_2 => cases h
  rename_i ti hti
  have ht := hΘ t ti hti
  split at h
  · -- a variable of one's own
    rename_i ob c hp
    rw [hp] at hx
    obtain ⟨_, ad, had, hv⟩ := hx
    split at h
    case h_3 => cases h
    · rename_i cs hob
      split at h
      case h_2 => cases h
      rename_i hf
      have hor := R.objs ob
      rw [hob] at hor
      obtain ⟨b, vs, ty, fr, he, hh, _, ha⟩ := hor
      rw [had] at he
      cases he
      refine ⟨_, cut ti c cs, fun w' hS => key w' _ _ hv (run_load_val ht b 0 c vs.toList (fun j u hu => ?_) (by rw [← ha.length, ← llen_eq]; exact hf)), VR_cut ht ha (by rw [← llen_eq]; exact hf), h⟩
      have hh' : w'.heap[b]? = some (.cells vs ty fr) := by rw [hS.2 ob b cs hob (by rw [had]; rfl)]; exact hh
      simp only [World.cell?, hh']
      simpa using hu
    · rename_i row x hob
      split at h
      case h_2 => cases h
      rename_i hf
      have hor := R.objs ob
      rw [hob] at hor
      obtain ⟨b, he, hokb, hlt, hra⟩ := hor
      rw [had] at he
      cases he
      obtain ⟨cs, hl, hc, ha⟩ := rdRow_cells m s.n row x _ (hra.2 0 x rfl)
      refine ⟨_, cut ti c (V.ofRow row x), fun w' hS => key w' _ _ hv (run_load_val ht b 0 c cs (fun j u hu => ?_) (by rw [← ha.length, ofRow_length, ← llen_eq]; exact hf)), VR_cut ht ha (by rw [ofRow_length, ← llen_eq]; exact hf), h⟩
      have := hc j u hu
      simp only [Nat.zero_mul, Nat.zero_add] at this ⊢
      unfold World.cell? at this ⊢
      simp only at this ⊢
      rw [hS.1 _ hokb]; exact this
  · -- an element that is read
    rename_i row l i c hp
    rw [hp] at hx
    obtain ⟨ad, hra, hokb, h0, h1, hv⟩ := hx
    split at h
    case h_2 => cases h
    rename_i hf
    obtain ⟨cs, hl, hc, ha⟩ := hra.cells m s.n i h0 h1
    refine ⟨_, cut ti c (V.ofRow row (dget row l i)), fun w' hS => key w' _ _ (by rw [hv, ← Nat.add_assoc]) (run_load_val ht ad.block (ad.off + i.toNat * row.length) c cs (fun j u hu => ?_) (by rw [← ha.length, ofRow_length, ← llen_eq]; exact hf)), VR_cut ht ha (by rw [ofRow_length, ← llen_eq]; exact hf), h⟩
    have := hc j u hu
    rw [← Nat.add_assoc] at this
    unfold World.cell? at this ⊢
    simp only at this ⊢
    rw [hS.1 _ hokb]; exact this
  · -- an element of one's own
    rename_i ob i c hp
    exact absurd hp (hno ob i c)
  · cases h

theorem ev_load {t : Nat} {x : Operand} (hΘ : TabOk P Θ) (ho : o.op = .load t x) (R : Rel w0 F0 s m ok a w) (h : evOp Θ Γ (.load t x) s k = some r)
    {q : Bool} (L : Leads w0 F0 s m ok a w q k r (fun v w' => next (a.put o.dst v) w')) : o.wp P a w next Q := by
  by_cases hno : ∀ ob i c, eval s x ≠ .op ob i c
  · exact (q_load hΘ hno ho R h).wp R L
  have hx := R.eval x
  have key : ∀ ad v, a.eval x = .pointer (some ad) → (loadVar t ad).run P w = .ok v w → (Go.execOp a.eval o).run P w = .ok (.value v) w := fun ad v h1 h2 => by
    simp [Go.execOp, ho, h1, Instr.loadAt, Instr.sureAddr, h2]
  simp only [evOp] at h
  split at h
  case h_2 => cases h
  rename_i ti hti
  have ht := hΘ t ti hti
  split at h
  · rename_i hp; exact absurd (fun _ _ _ e => by rw [hp] at e; cases e) hno
  · rename_i hp; exact absurd (fun _ _ _ e => by rw [hp] at e; cases e) hno
  · -- an element of one's own
    rename_i ob i c hp
    rw [hp] at hx
    obtain ⟨_, ad, had, h0, h1, hv⟩ := hx
    split at h
    case h_2 => cases h
    rename_i row l fz hob
    split at h
    case h_2 => cases h
    rename_i hf
    have hor := R.objs ob
    rw [hob] at hor
    obtain ⟨hlen, _, hsz, hor⟩ := hor
    rw [had] at hor
    obtain ⟨hra, _⟩ := hor
    obtain ⟨cs, hl, hc, ha⟩ := hra.cells m s.n i h0 (by unfold dlen; rw [← hlen]; exact h1)
    obtain ⟨v, hr, hV⟩ := run_load_cut (w := w) (ok := ok) (m := m) ht s.n ad.block (ad.off + i.toNat * row.length) c (V.ofRow row (dget row l i)) cs
      (fun j u hu => by have := hc j u hu; rwa [← Nat.add_assoc] at this) ha (by rw [ofRow_length, ← llen_eq]; exact hf)
    refine wp_val (key _ v hv ?_) (L.stay R hV h)
    rw [hsz, ← Nat.add_assoc]; exact hr
  · cases h
end
end Rig
