/- Part of Rig, a reflective evaluator of this project's own: a function's code, run over typed data by Lean's kernel, gives its contract. No condition. -/
import Derived.Test.YthcokbkmpkkioaaRigBFun
set_option linter.unusedVariables false
set_option linter.unusedSimpArgs false
namespace Rig
open Go
def band (a b : Bool) : Bool := match a with | true => b | false => false
theorem band_true {a b : Bool} (h : band a b = true) : a = true ∧ b = true := by cases a <;> simp_all [band]
def isZeroV : CK → Value → Bool
  | .int k, .int k' (.ofNat n) => band (ikb k k') (Nat.beq n 0)
  | .bool, .bool false => true
  | .str, .string ⟨⟨[]⟩⟩ => true
  | .slice _, .slice none n c => band (Nat.beq n 0) (Nat.beq c 0)
  | .map, _ => true
  | _, _ => false
theorem isZeroV_eq {c : CK} {v : Value} (h : isZeroV c v = true) : c = .map ∨ v = c.zeroVal := by
  unfold isZeroV at h
  split at h
  · obtain ⟨h1, h2⟩ := band_true h
    replace h1 := ikb_eq h1
    replace h2 := Nat.eq_of_beq_eq_true h2
    subst h1
    subst h2
    exact .inr rfl
  · first | exact .inl rfl | exact .inr rfl
  · first | exact .inl rfl | exact .inr rfl
  · obtain ⟨h1, h2⟩ := band_true h
    replace h1 := Nat.eq_of_beq_eq_true h1
    replace h2 := Nat.eq_of_beq_eq_true h2
    subst h1
    subst h2
    exact .inr rfl
  · first | exact .inl rfl | exact .inr rfl
  · cases h
def areZeroV : List CK → List Value → Bool
  | [], [] => true
  | c :: cs, v :: vs => band (isZeroV c v) (areZeroV cs vs)
  | _, _ => false
theorem areZeroV_eq : ∀ {cs : List CK} {vs : List Value}, areZeroV cs vs = true → ZeroAs cs vs
  | [], [], _ => .nil
  | c :: cs, v :: vs, h => by
    obtain ⟨h1, h2⟩ := band_true (show band (isZeroV c v) (areZeroV cs vs) = true from h)
    exact .cons (isZeroV_eq h1) (areZeroV_eq h2)
  | [], _ :: _, h => by cases h
  | _ :: _, [], h => by cases h
def fldsB (P : Program) : List Field → List (Nat × Nat) → Nat → Bool
  | [], [], _ => true
  | f :: fs, p :: ps, n => match P.info? f.type with
    | some i => band (Nat.beq f.offset p.1) (band (Nat.beq i.size p.2) (band (Nat.ble (Nat.add p.1 p.2) n) (fldsB P fs ps n)))
    | none => false
  | _, _, _ => false
theorem fldsB_spec {P : Program} : ∀ {fs : List Field} {ps : List (Nat × Nat)} {n : Nat}, fldsB P fs ps n = true → fs.mapM (fun f => (P.info? f.type).map fun i => (f.offset, i.size)) = some ps ∧ ∀ (i : Nat) (p : Nat × Nat), ps[i]? = some p → p.1 + p.2 ≤ n
  | [], [], n, _ => ⟨rfl, by simp⟩
  | f :: fs, p :: ps, n, h => by
    unfold fldsB at h
    split at h
    case h_2 => cases h
    rename_i i hi
    replace h := band_true h
    have h1 := h.1
    replace h := h.2
    replace h := band_true h
    have h2 := h.1
    replace h := h.2
    replace h := band_true h
    have h3 := h.1
    replace h := h.2
    obtain ⟨h4, h5⟩ := fldsB_spec h
    replace h1 := Nat.eq_of_beq_eq_true h1
    replace h2 := Nat.eq_of_beq_eq_true h2
    replace h3 := Nat.le_of_ble_eq_true h3
    refine ⟨?_, fun j q hq => ?_⟩
    · simp only [List.mapM_cons, hi, h4]
      obtain ⟨p1, p2⟩ := p
      simp only at h1 h2
      rw [← h1, ← h2]
      rfl
    · cases j with
      | zero => simp at hq; subst hq; exact h3
      | succ j => simp at hq; exact h5 j q hq
  | [], _ :: _, _, h => by cases h
  | _ :: _, [], _, h => by cases h
def descB (P : Program) (ti : TyI) (d : TypeDesc) : Bool :=
  match ti.agg, d with
  | true, .struct fs => fldsB P fs.toList ti.flds (llen ti.cells)
  | false, .int k => CK.beqs ti.cells [.int k]
  | false, .bool => CK.beqs ti.cells [.bool]
  | false, .string => CK.beqs ti.cells [.str]
  | false, .slice e => match ti.cells with
    | [.slice _] => Nat.beq e ti.elem
    | _ => false
  | false, .map _ _ => CK.beqs ti.cells [.map]
  | false, .func _ _ _ => CK.beqs ti.cells [.map]
  | false, .pointer _ => CK.beqs ti.cells [.map]
  | _, _ => false
def mapB (P : Program) (t : Nat) (ti : TyI) : Bool := match ti.agg, ti.cells, ti.elem with
  | false, [.map], 0 => match P.underlying t with
    | some (.map kt et) => match P.underlying kt, P.underlying et, P.info? et with
      | some (.int .i64), some (.int .i64), some i => match i.zero with
        | some (.int .i64 (.ofNat n)) => Nat.beq n 0
        | _ => false
      | _, _, _ => false
    | _ => false
  | _, _, _ => true
theorem mapB_spec {P : Program} {t : Nat} {ti : TyI} (h : mapB P t ti = true) : ti.cells = [.map] → ti.agg = false → ti.elem = 0 → ∃ kt et i, P.underlying t = some (.map kt et) ∧ P.underlying kt = some (.int .i64) ∧ P.underlying et = some (.int .i64) ∧ P.info? et = some i ∧ i.zero = some (.int .i64 0) := fun hc ha he => by
  unfold mapB at h
  rw [ha, hc, he] at h
  simp only at h
  split at h
  case h_2 => cases h
  rename_i kt et hu
  split at h
  case h_2 => cases h
  rename_i i h1 h2 h3
  split at h
  case h_2 => cases h
  rename_i n hz
  have := Nat.eq_of_beq_eq_true h
  subst this
  exact ⟨kt, et, i, hu, h1, h2, h3, hz⟩
def tyOkB (P : Program) (t : Nat) (ti : TyI) : Bool :=
  match P.info? t, P.underlying t with
  | some i, some d => band (Nat.beq i.size (llen ti.cells)) (band (Nat.beq i.bytes ti.bytes) (band (Nat.ble 1 ti.bytes) (band (Nat.ble 1 (llen ti.cells)) (band (descB P ti d) (band (mapB P t ti)
      (match i.zero with | some z => areZeroV ti.cells z.cells.toList | none => false))))))
  | _, _ => false
theorem tyOkB_spec {P : Program} {t : Nat} {ti : TyI} (h : tyOkB P t ti = true) : TyOk P t ti := by
  unfold tyOkB at h
  split at h
  case h_2 => cases h
  rename_i i d hi hd
  replace h := band_true h
  have h1 := h.1
  replace h := h.2
  replace h := band_true h
  have h2 := h.1
  replace h := h.2
  replace h := band_true h
  have h3 := h.1
  replace h := h.2
  replace h := band_true h
  have h4 := h.1
  replace h := h.2
  have h5 := (band_true h).1
  replace h := (band_true h).2
  have h7 := mapB_spec (band_true h).1
  have h6 := (band_true h).2
  clear h
  split at h6
  case h_2 => cases h6
  rename_i z hz
  replace h1 := Nat.eq_of_beq_eq_true h1
  replace h2 := Nat.eq_of_beq_eq_true h2
  replace h3 := Nat.le_of_ble_eq_true h3
  replace h4 := Nat.le_of_ble_eq_true h4
  rw [llen_eq] at h1 h4
  refine ⟨⟨i, z, hi, h1, h2, hz, areZeroV_eq h6⟩, ⟨h3, h4⟩, ⟨d, hd, ?_⟩, h7⟩
  clear h7
  unfold descB at h5
  split at h5
  · rename_i fs ha
    rw [llen_eq] at h5
    obtain ⟨h7, h8⟩ := fldsB_spec h5
    refine ⟨by rw [ha]; rfl, ?_, ?_, ?_, ?_, ?_, fun _ => ⟨fs, rfl, h7⟩, fun _ => h8⟩ <;> (intros; simp_all)
  · rename_i k ha
    have hc := CK.eqs_of_beqs h5
    refine ⟨by rw [ha]; rfl, ?_, ?_, ?_, ?_, ?_, ?_, ?_⟩ <;> (intros; simp_all)
  · rename_i ha
    have hc := CK.eqs_of_beqs h5
    refine ⟨by rw [ha]; rfl, ?_, ?_, ?_, ?_, ?_, ?_, ?_⟩ <;> (intros; simp_all)
  · rename_i ha
    have hc := CK.eqs_of_beqs h5
    refine ⟨by rw [ha]; rfl, ?_, ?_, ?_, ?_, ?_, ?_, ?_⟩ <;> (intros; simp_all)
  · rename_i e ha
    split at h5
    case h_2 => cases h5
    rename_i row hc
    replace h5 := Nat.eq_of_beq_eq_true h5
    refine ⟨by rw [ha]; rfl, ?_, ?_, ?_, ?_, ?_, ?_, ?_⟩ <;> (intros; simp_all)
  · rename_i ha
    have hc := CK.eqs_of_beqs h5
    refine ⟨by rw [ha]; rfl, ?_, ?_, ?_, ?_, ?_, ?_, ?_⟩ <;> (intros; simp_all)
  · rename_i ha
    have hc := CK.eqs_of_beqs h5
    refine ⟨by rw [ha]; rfl, ?_, ?_, ?_, ?_, ?_, ?_, ?_⟩ <;> (intros; simp_all)
  · rename_i ha
    have hc := CK.eqs_of_beqs h5
    refine ⟨by rw [ha]; rfl, ?_, ?_, ?_, ?_, ?_, ?_, ?_⟩ <;> (intros; simp_all)
  · cases h5
def tabOkB (P : Program) (Θ : Tab) : Bool := lall (fun p => tyOkB P p.1 p.2) Θ
theorem tabOk_of {P : Program} {Θ : Tab} (h : tabOkB P Θ = true) : TabOk P Θ := by
  intro t ti ht
  have : (t, ti) ∈ Θ := by
    clear h
    induction Θ with
    | nil => cases ht
    | cons p r ih =>
      obtain ⟨j, x⟩ := p
      have ht' : sel (Nat.beq j t) (some x) (Tab.at r t) = some ti := ht
      cases e : Nat.beq j t with
      | true =>
        rw [e] at ht'
        have := Nat.eq_of_beq_eq_true e
        subst this
        have : x = ti := Option.some.inj ht'
        subst this
        simp
      | false =>
        rw [e] at ht'
        exact List.mem_cons_of_mem _ (ih ht')
  exact tyOkB_spec (lall_mem h _ this)

theorem EnvOk.nil {P : Program} : EnvOk P [] := fun f sp h => by cases h
theorem EnvOk.cons {P : Program} {Γ : Env} {f : Nat} {sp : FSpec} (h : FnOk P f sp) {fn : Func} (hf : P.funcs[f]? = some fn) (hb : fn.body.isSome = true) (hn : fn.name ≠ "runtime.NumGoroutine") (hΓ : EnvOk P Γ) : EnvOk P ((f, sp) :: Γ) := fun g sp' h' => by
  have h' : sel (Nat.beq f g) (some sp) (Env.at Γ g) = some sp' := h'
  cases e : Nat.beq f g with
  | true =>
    rw [e] at h'
    have := Nat.eq_of_beq_eq_true e
    subst this
    have : sp = sp' := Option.some.inj h'
    subst this
    exact ⟨h, fn, hf, hb, hn⟩
  | false =>
    rw [e] at h'
    exact hΓ g sp' h'
end Rig
