/- Part of Rig, a reflective evaluator of this project's own: a function's code, run over typed data by Lean's kernel, gives its contract. No condition. -/
import Derived.Test.YthcokbkmpkkioaaRigBRel2
set_option linter.unusedVariables false
set_option linter.unusedSimpArgs false
namespace Rig
open Go

/-! ### Types -/
def CK.zeroVal : CK → Value
  | .int k => .int k 0 | .bool => .bool false | .str => .string ⟨#[]⟩ | .slice _ => .slice none 0 0 | .map => .map none
def isAggD : TypeDesc → Bool
  | .struct _ | .array _ _ => true
  | _ => false
/-- a type's zero; of a cell that is not looked into (a map, a function, a pointer) nothing is said -/
def ZeroAs (cs : List CK) (vs : List Value) : Prop := All2 (fun c v => c = .map ∨ v = c.zeroVal) cs vs
theorem ZeroAs.len : ∀ {cs : List CK} {vs : List Value}, ZeroAs cs vs → vs.length = cs.length
  | [], _, .nil => rfl
  | _ :: _, _ :: _, .cons _ h => by simp [ZeroAs.len h]
theorem ZeroAs.eq : ∀ {cs : List CK} {vs : List Value}, ZeroAs cs vs → noMap cs = true → vs = cs.map CK.zeroVal
  | [], _, .nil, _ => rfl
  | c :: cs, v :: vs, .cons h1 h2, hn => by
    have hn' : c ≠ .map ∧ noMap cs = true := by cases c <;> first | exact ⟨nofun, hn⟩ | exact absurd (show false = true from hn) nofun
    rw [List.map_cons, ← ZeroAs.eq h2 hn'.2, h1.resolve_left hn'.1]
/-- the table's row for type t is right -/
structure TyOk (P : Program) (t : Nat) (ti : TyI) : Prop where
  info : ∃ i z, P.info? t = some i ∧ i.size = ti.cells.length ∧ i.bytes = ti.bytes ∧ i.zero = some z ∧ ZeroAs ti.cells z.cells.toList
  pos : 1 ≤ ti.bytes ∧ 0 < ti.cells.length
  desc : ∃ d, P.underlying t = some d ∧ isAggD d = ti.agg ∧
    (ti.agg = false → ti.cells.length = 1) ∧
    (∀ kd, ti.cells = [.int kd] → ti.agg = false → d = .int kd) ∧
    (∀ row, ti.cells = [.slice row] → ti.agg = false → d = .slice ti.elem) ∧
    (ti.cells = [.str] → ti.agg = false → d = .string) ∧
    (ti.cells = [.bool] → ti.agg = false → d = .bool) ∧
    (ti.agg = true → ∃ fs, d = .struct fs ∧ fs.toList.mapM (fun f => (P.info? f.type).map fun i => (f.offset, i.size)) = some ti.flds) ∧
    (ti.agg = true → ∀ (f : Nat) (p : Nat × Nat), ti.flds[f]? = some p → p.1 + p.2 ≤ ti.cells.length)
  maps : ti.cells = [.map] → ti.agg = false → ti.elem = 0 → ∃ kt et i, P.underlying t = some (.map kt et) ∧ P.underlying kt = some (.int .i64) ∧ P.underlying et = some (.int .i64) ∧ P.info? et = some i ∧ i.zero = some (.int .i64 0)
def TabOk (P : Program) (Θ : Tab) : Prop := ∀ t ti, Θ.at t = some ti → TyOk P t ti

theorem mapM_get {α β : Type} {f : α → Option β} : ∀ {l : List α} {r : List β}, l.mapM f = some r → ∀ {i : Nat} {y : β}, r[i]? = some y → ∃ x, l[i]? = some x ∧ f x = some y
  | [], r, h, i, y, hy => by simp at h; subst h; simp at hy
  | a :: l, r, h, i, y, hy => by
    simp only [List.mapM_cons, Option.bind_eq_bind, Option.pure_def] at h
    cases ha : f a with
    | none => simp [ha] at h
    | some b =>
      cases hl : l.mapM f with
      | none => simp [ha, hl] at h
      | some bs =>
        simp [ha, hl] at h
        subst h
        cases i with
        | zero => simp at hy; subst hy; exact ⟨a, rfl, ha⟩
        | succ i => simp at hy; simpa using mapM_get hl hy
section
variable {P : Program} {w : World}
theorem run_isAgg {t : Nat} {ti : TyI} (h : TyOk P t ti) (w : World) : (isAgg t).run P w = .ok ti.agg w := by
  obtain ⟨d, hd, ha, _⟩ := h.desc
  unfold isAgg
  rw [Sem.run_bind, run_underlying hd w]
  rw [← ha]
  cases d <;> simp [isAggD]
theorem run_size {t : Nat} {ti : TyI} (h : TyOk P t ti) (w : World) : (Go.sizeOf t).run P w = .ok ti.cells.length w := by
  obtain ⟨i, z, hi, hs, _⟩ := h.info
  simp [Go.sizeOf, typeInfo, hi, hs]
theorem run_zero {t : Nat} {ti : TyI} (h : TyOk P t ti) (w : World) : ∃ z : Value, (zeroValue t).run P w = .ok z w ∧ ZeroAs ti.cells z.cells.toList := by
  obtain ⟨i, z, hi, _, _, hz, hc⟩ := h.info
  exact ⟨z, by simp [zeroValue, typeInfo, hi, hz], hc⟩

theorem add_none (b o j : Nat) : (⟨b, o, none⟩ : Addr).add j = ⟨b, o + j, none⟩ := by unfold Addr.add; split <;> simp_all

/-- a variable is loaded: its cells lie at b, off .. -/
theorem run_loadVar_at {t : Nat} {ti : TyI} (h : TyOk P t ti) (b off : Nat) (cs : List Value) (hl : cs.length = ti.cells.length) (hc : ∀ j v, cs[j]? = some v → w.cell? ⟨b, off + j, none⟩ = some v) :
    (loadVar t ⟨b, off, none⟩).run P w = .ok (if ti.agg = true then .agg cs.toArray else cs.headD undef) w := by
  unfold loadVar
  rw [Sem.run_bind, run_isAgg h w]
  simp only [Result.andThen_ok]
  by_cases ha : ti.agg = true
  · rw [if_pos ha, if_pos ha]
    have hc' : (loadCells ⟨b, off, none⟩ cs.length).run P w = .ok cs.toArray w := run_loadCells_list w ⟨b, off, none⟩ cs (fun j v hv => by rw [add_none]; exact hc j v hv)
    simp [run_size h w, ← hl, hc']
  · rw [if_neg ha, if_neg ha]
    have ha' : ti.agg = false := by simpa using ha
    obtain ⟨d, _, _, h1, _⟩ := h.desc
    have hl1 : cs.length = 1 := by rw [hl]; exact h1 ha'
    match cs, hl1 with
    | [v], _ =>
      have := hc 0 v rfl
      simp only [Nat.add_zero] at this
      simp [this]
end

section
variable {P : Program} {w0 w : World} {F0 : Own} {s : St} {m : Nat → Loc} {ok : Nat → Prop} {a : Act} {o : Oper} {next : Act → World → Prop} {Q : Exit → Act → World → Prop}
theorem wp_val {v : Value} {w' : World} (h : (Go.execOp a.eval o).run P w = .ok (.value v) w') (hn : next (a.put o.dst v) w') : o.wp P a w next Q := by
  unfold Oper.wp; rw [h]; exact hn
theorem wp_none {w' : World} (h : (Go.execOp a.eval o).run P w = .ok .skip w') (hn : next (a.put o.dst undef) w') : o.wp P a w next Q := by
  unfold Oper.wp; rw [h]; exact hn

theorem VR_of_a {n : Nat} {v : V} {x : Value} (h : VRa w ok m n v x) : VR w ok m n v x := by
  cases v with
  | tup vs => exact h.elim
  | _ => exact h
theorem VRa_of_1 {n : Nat} {v : V} {x : Value} (h : VR1 w ok m n v x) : VRa w ok m n v x := by
  cases v with
  | agg vs => exact h.elim
  | _ => exact h
theorem VR_mkV {n : Nat} {agg : Bool} {vs : List V} {cs : List Value} (h : All2 (VR1 w ok m n) vs cs) (h1 : agg = false → vs.length = 1) :
    VR w ok m n (mkV agg vs) (if agg = true then .agg cs.toArray else cs.headD undef) := by
  cases agg with
  | true => exact ⟨cs, rfl, h⟩
  | false =>
    have hl := h1 rfl
    cases h with
    | nil => simp at hl
    | cons h ht => cases ht with
      | nil => exact VR_of_a (VRa_of_1 h)
      | cons _ _ => simp at hl

theorem VR1_of {n : Nat} : ∀ (k : CK) (x : k.ty) (v : Value), k.rd w ok x v → VR1 w ok m n (V.of k x) v
  | .int _, _, _, h => h
  | .bool, _, _, h => h
  | .str, _, _, h => h
  | .slice _, _, _, h => h
theorem rdRow_cells (m : Nat → Loc) (n : Nat) : ∀ (row : List CK) (y : Row row) (f : Nat → Option Value), CK.rdRow w ok row y f →
    ∃ cs : List Value, cs.length = row.length ∧ (∀ j v, cs[j]? = some v → f j = some v) ∧ All2 (VR1 w ok m n) (V.ofRow row y) cs
  | [], _, _, _ => ⟨[], rfl, by simp, by simp only [V.ofRow]; exact .nil⟩
  | [k], y, f, h => by
    simp only [CK.rdRow] at h
    obtain ⟨v, hv, h⟩ := h
    refine ⟨[v], rfl, fun j u hu => ?_, by simp only [V.ofRow]; exact .cons (VR1_of k y v h) .nil⟩
    cases j with
    | zero => simp at hu; rw [← hu]; exact hv
    | succ j => simp at hu
  | k :: k' :: ks, y, f, h => by
    simp only [CK.rdRow] at h
    obtain ⟨⟨v, hv, h⟩, h2⟩ := h
    obtain ⟨cs, hl, hc, ha⟩ := rdRow_cells m n (k' :: ks) y.2 _ h2
    refine ⟨v :: cs, by simp [hl], fun j u hu => ?_, by simp only [V.ofRow]; exact .cons (VR1_of k y.1 v h) ha⟩
    cases j with
    | zero => simp at hu; rw [← hu]; exact hv
    | succ j => simp at hu; exact hc j u hu
theorem ofRow_length : ∀ (row : List CK) (y : Row row), (V.ofRow row y).length = row.length
  | [], _ => rfl
  | [_], _ => rfl
  | _ :: k' :: ks, y => by simp only [V.ofRow, List.length_cons]; rw [ofRow_length (k' :: ks) y.2]; simp
theorem getq_dget (row : List CK) (l : List (Row row)) (i : Int) (h0 : 0 ≤ i) (h1 : i < dlen l) : getq l i.toNat = some (dget row l i) := by
  unfold getq dget dlen at *
  have : i.toNat < l.length := by omega
  simp [List.getD_eq_getElem?_getD, List.getElem?_eq_getElem this]

/-- what an element's cells are -/
theorem RowsAt.cells {row : List CK} {l : List (Row row)} {ad : Addr} (h : RowsAt w ok row l ad) (m : Nat → Loc) (n : Nat) (i : Int) (h0 : 0 ≤ i) (h1 : i < dlen l) :
    ∃ cs : List Value, cs.length = row.length ∧ (∀ j v, cs[j]? = some v → w.cell? ⟨ad.block, ad.off + (i.toNat * row.length + j), none⟩ = some v) ∧ All2 (VR1 w ok m n) (V.ofRow row (dget row l i)) cs :=
  rdRow_cells m n row _ _ (h.2 i.toNat _ (getq_dget row l i h0 h1))

theorem fits_le {ti : TyI} {c n : Nat} (h : fits ti c n = true) : c + ti.cells.length ≤ n := by
  have := Nat.le_of_ble_eq_true h
  simpa [llen_eq] using this

theorem run_load_val {t : Nat} {ti : TyI} (ht : TyOk P t ti) (b off c : Nat) (cs : List Value) (hc : ∀ j v, cs[j]? = some v → w.cell? ⟨b, off + j, none⟩ = some v) (hf : fits ti c cs.length = true) :
    (loadVar t ⟨b, off + c, none⟩).run P w = .ok (if ti.agg = true then .agg ((cs.drop c).take ti.cells.length).toArray else ((cs.drop c).take ti.cells.length).headD undef) w := by
  have hle := fits_le hf
  refine run_loadVar_at ht b (off + c) ((cs.drop c).take ti.cells.length) (by simp; omega) (fun j v hv => ?_)
  rw [List.getElem?_take] at hv
  split at hv
  · rw [List.getElem?_drop] at hv
    have := hc (c + j) v hv
    rwa [← Nat.add_assoc] at this
  · cases hv
theorem VR_cut {t : Nat} {ti : TyI} (ht : TyOk P t ti) {n c : Nat} {vs : List V} {cs : List Value} (ha : All2 (VR1 w ok m n) vs cs) (hf : fits ti c vs.length = true) :
    VR w ok m n (cut ti c vs) (if ti.agg = true then .agg ((cs.drop c).take ti.cells.length).toArray else ((cs.drop c).take ti.cells.length).headD undef) := by
  have hle := fits_le hf
  have hl : vs.length = cs.length := ha.length
  unfold cut
  rw [ltake_eq, ldrop_eq, llen_eq]
  refine VR_mkV ((ha.drop c).take _) (fun h => ?_)
  obtain ⟨d, _, _, h1, _⟩ := ht.desc
  have := h1 h
  simp; omega
/-- the cells from c on, out of a run of cells at b, off -/
theorem run_load_cut {t : Nat} {ti : TyI} (ht : TyOk P t ti) (n : Nat) (b off c : Nat) (vs : List V) (cs : List Value) (hc : ∀ j v, cs[j]? = some v → w.cell? ⟨b, off + j, none⟩ = some v)
    (ha : All2 (VR1 w ok m n) vs cs) (hf : fits ti c vs.length = true) :
    ∃ v, (loadVar t ⟨b, off + c, none⟩).run P w = .ok v w ∧ VR w ok m n (cut ti c vs) v :=
  ⟨_, run_load_val ht b off c cs hc (by rw [← ha.length]; exact hf), VR_cut ht ha hf⟩
end
end Rig
