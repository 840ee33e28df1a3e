/- Part of Rig, a reflective evaluator of this project's own: a function's code, run over typed data by Lean's kernel, gives its contract. No condition. -/
import Derived.Test.YthcokbkmpkkioaaRigBOps5
set_option linter.unusedVariables false
set_option linter.unusedSimpArgs false
namespace Rig
open Go
theorem flatten_get {α : Type} {s : Nat} (hs : 0 < s) : ∀ (rows : List (List α)), (∀ v ∈ rows, v.length = s) → ∀ k, rows.flatten[k]? = (rows[k / s]?).bind (fun v => v[k % s]?)
  | [], _, k => by simp
  | v :: vs, hv, k => by
    have hvs : v.length = s := hv v List.mem_cons_self
    rw [List.flatten_cons]
    by_cases hk : k < s
    · rw [List.getElem?_append_left (by omega), Nat.div_eq_of_lt hk, Nat.mod_eq_of_lt hk]
      simp
    · have h1 : k / s = (k - s) / s + 1 := by
        have := Nat.sub_add_cancel (Nat.le_of_not_lt hk)
        conv => lhs; rw [← this]
        rw [Nat.add_div_right _ hs]
      have h2 : k % s = (k - s) % s := by
        have := Nat.sub_add_cancel (Nat.le_of_not_lt hk)
        conv => lhs; rw [← this]
        rw [Nat.add_mod_right]
      rw [List.getElem?_append_right (by omega), hvs, flatten_get hs vs (fun u hu => hv u (List.mem_cons_of_mem _ hu)) (k - s), h1, h2, List.getElem?_cons_succ]
theorem flatten_get2 {α : Type} {s : Nat} (hs : 0 < s) {rows : List (List α)} (hl : ∀ v ∈ rows, v.length = s) {i j : Nat} {cs : List α} (hi : rows[i]? = some cs) (hj : j < s) : rows.flatten[i * s + j]? = cs[j]? := by
  rw [flatten_get hs rows hl]
  have h1 : (i * s + j) / s = i := by rw [Nat.add_comm, Nat.add_mul_div_right _ _ hs, Nat.div_eq_of_lt hj]; omega
  have h2 : (i * s + j) % s = j := by rw [Nat.add_comm, Nat.add_mul_mod_self_right, Nat.mod_eq_of_lt hj]
  rw [h1, h2, hi]; rfl
theorem flatten_length {α : Type} {s : Nat} : ∀ (rows : List (List α)), (∀ v ∈ rows, v.length = s) → rows.flatten.length = rows.length * s
  | [], _ => by simp
  | v :: vs, hv => by
    rw [List.flatten_cons, List.length_append, flatten_length vs (fun u hu => hv u (List.mem_cons_of_mem _ hu)), hv v List.mem_cons_self, List.length_cons, Nat.add_mul]
    omega
theorem All2.of_get {α β : Type} {R : α → β → Prop} {S : Nat → β → Prop} : ∀ {l : List α}, (∀ i y, l[i]? = some y → ∃ z, R y z ∧ S i z) → ∃ zs, All2 R l zs ∧ ∀ i z, zs[i]? = some z → S i z
  | [], _ => ⟨[], .nil, by simp⟩
  | x :: xs, h => by
    obtain ⟨z, h1, h2⟩ := h 0 x rfl
    obtain ⟨zs, h3, h4⟩ := All2.of_get (S := fun i => S (i + 1)) (l := xs) fun i y hy => h (i + 1) y (by simpa using hy)
    exact ⟨z :: zs, .cons h1 h3, fun i u hu => by
      cases i with
      | zero => simp at hu; subst hu; exact h2
      | succ i => simp at hu; exact h4 i u hu⟩
section
variable {P : Program} {w0 w w' : World} {F0 : Own} {s s' : St} {m m' : Nat → Loc} {ok ok' : Nat → Prop} {a : Act}

/-- cs are the cells of the row y -/
def RowCells (w : World) (ok : Nat → Prop) (row : List CK) (y : Row row) (cs : List Value) : Prop := cs.length = row.length ∧ CK.rdRow w ok row y (fun j => cs[j]?)
theorem RowCells.keep (hk : ∀ b, ok b → w'.heap[b]? = w.heap[b]?) (hm : ∀ b, ok b → ok' b) {row : List CK} {y : Row row} {cs : List Value} (h : RowCells w ok row y cs) : RowCells w' ok' row y cs :=
  ⟨h.1, CK.rdRow_keep hk hm row y _ _ (fun _ _ h => h) h.2⟩
theorem rdRow_take : ∀ (row : List CK) (y : Row row) (f : Nat → Option Value), CK.rdRow w ok row y f → ∃ cs, RowCells w ok row y cs ∧ ∀ j v, cs[j]? = some v → f j = some v
  | [], _, _, _ => ⟨[], ⟨rfl, trivial⟩, by simp⟩
  | [k], y, f, h => by
    obtain ⟨v, hv, h⟩ := h
    refine ⟨[v], ⟨rfl, v, rfl, h⟩, fun j u hu => ?_⟩
    cases j with
    | zero => simp at hu; rw [← hu]; exact hv
    | succ j => simp at hu
  | k :: k' :: ks, y, f, h => by
    obtain ⟨⟨v, hv, h⟩, h2⟩ := h
    obtain ⟨cs, ⟨hl, hr⟩, hc⟩ := rdRow_take (k' :: ks) y.2 _ h2
    refine ⟨v :: cs, ⟨by simp [hl], ⟨v, rfl, h⟩, hr⟩, fun j u hu => ?_⟩
    cases j with
    | zero => simp at hu; rw [← hu]; exact hv
    | succ j => simp at hu; exact hc j u hu
theorem noMap_cons {k : CK} {r : List CK} (h : noMap (k :: r) = true) : k ≠ .map ∧ noMap r = true := by
  cases k <;> first | exact ⟨nofun, h⟩ | exact absurd (show false = true from h) nofun
theorem zero_rd {k : CK} (h : k ≠ .map) : k.rd w ok k.zero k.zeroVal := by
  cases k with
  | slice r => exact ⟨none, 0, rfl, Nat.le_refl _, .inl rfl⟩
  | map => exact absurd rfl h
  | _ => exact rfl
theorem rdRow_zeros : ∀ (row : List CK), noMap row = true → CK.rdRow w ok row (CK.zeros row) (fun j => (row.map CK.zeroVal)[j]?)
  | [], _ => trivial
  | [k], h => ⟨_, rfl, zero_rd (noMap_cons h).1⟩
  | k :: k' :: ks, h => ⟨⟨_, rfl, zero_rd (noMap_cons h).1⟩, rdRow_zeros (k' :: ks) (noMap_cons h).2⟩

theorem rows_lengths {row : List CK} {l : List (Row row)} {rows : List (List Value)} (h : All2 (RowCells w ok row) l rows) : ∀ v ∈ rows, v.length = row.length := by
  induction h with
  | nil => intro v hv; cases hv
  | cons h _ ih => intro v hv; rcases List.mem_cons.1 hv with rfl | hv; exact h.1; exact ih v hv

theorem RowsAt.rows {row : List CK} {l : List (Row row)} {ad : Addr} (hr : 0 < row.length) (h : RowsAt w ok row l ad) :
    ∃ rows, All2 (RowCells w ok row) l rows ∧ ∀ k v, rows.flatten[k]? = some v → w.cell? ⟨ad.block, ad.off + k, none⟩ = some v := by
  obtain ⟨rows, hA, hS⟩ := All2.of_get (R := RowCells w ok row) (S := fun i cs => ∀ j v, cs[j]? = some v → w.cell? ⟨ad.block, ad.off + (i * row.length + j), none⟩ = some v) (l := l) fun i y hy => rdRow_take row y _ (h.2 i y hy)
  refine ⟨rows, hA, fun k v hk => ?_⟩
  rw [flatten_get hr rows (rows_lengths hA)] at hk
  obtain ⟨cs, h1, h2⟩ := Option.bind_eq_some_iff.1 hk
  have := hS _ cs h1 _ v h2
  rwa [Nat.div_add_mod' k row.length] at this
theorem rowsAt_of {row : List CK} {l : List (Row row)} {ad : Addr} (hr : 0 < row.length) (hs : ad.spot = none) {rows : List (List Value)} (hA : All2 (RowCells w ok row) l rows)
    (hc : ∀ k v, rows.flatten[k]? = some v → w.cell? ⟨ad.block, ad.off + k, none⟩ = some v) : RowsAt w ok row l ad :=
  ⟨hs, fun i y hy => by
    obtain ⟨cs, hcs, hl, hrd⟩ := hA.get (show l[i]? = some y from hy)
    refine CK.rdRow_keep (fun _ _ => rfl) (fun _ h => h) row y _ _ (fun j v hv => hc _ v ?_) hrd
    rw [flatten_get2 hr (rows_lengths hA) hcs ?_]
    · exact hv
    · have := (List.getElem?_eq_some_iff.1 hv).1
      omega⟩

theorem rowtake_one : ∀ {row : List CK} {s s' : St} {ok : Nat → Prop} (R : Rel w0 F0 s m ok a w) {vs : List V} {x : Row row} {us : List Value}, V.takes s 1 row vs = some (x, s') → All2 (VR1 w ok m s.n) vs us →
    ∃ ok', Rel w0 F0 s' m ok' a w ∧ Took s m ok [] s' ok' ∧ RowCells w ok' row x us
  | [], s, s', ok, R, vs, x, us, h, hA => by
    cases hA with
    | nil =>
      have he : s = s' := congrArg Prod.snd (Option.some.inj (show some ((), s) = some (x, s') from h))
      subst he
      exact ⟨ok, R, Took.refl _ _ _, rfl, trivial⟩
    | cons _ _ => exact absurd (show none = some (x, s') from h) nofun
  | [c], s, s', ok, R, vs, x, us, h, hA => by
    match vs, us, hA with
    | [], _, _ => exact absurd (show none = some (x, s') from h) nofun
    | [v], _, .cons (y := u) hv .nil =>
      obtain ⟨ok', F, R', T, hT⟩ := take_one (own := false) R (show V.take s 1 c v = some (x, s') from h) hv
      have hT' : c.rd w ok' x u ∧ F = [] := by cases c <;> exact hT
      obtain ⟨hrd, eF⟩ := hT'
      subst eF
      exact ⟨ok', R', T, rfl, u, rfl, hrd⟩
    | _ :: _ :: _, _, _ => exact absurd (show none = some (x, s') from h) nofun
  | c :: c' :: cs, s, s', ok, R, vs, x, us, h, hA => by
    match vs, us, hA with
    | [], _, _ => exact absurd (show none = some (x, s') from h) nofun
    | v :: vs, u :: us, .cons hv hvs =>
      have h' : (match V.take s 1 c v with
        | some (x, s) => match V.takes s 1 (c' :: cs) vs with
          | some (y, s) => some ((x, y), s)
          | none => none
        | none => none : Option (Row (c :: c' :: cs) × St)) = some (x, s') := h
      split at h'
      case h_2 => cases h'
      rename_i x1 s1 h1
      split at h'
      case h_2 => cases h'
      rename_i x2 s2 h2
      have he := Option.some.inj h'
      have e1 : (x1, x2) = x := congrArg Prod.fst he
      have e2 : s2 = s' := congrArg Prod.snd he
      subst e1
      subst e2
      obtain ⟨ok1, F, R1, T1, hT⟩ := take_one (own := false) R (show V.take s 1 c v = some (x1, s1) from h1) hv
      have hT' : c.rd w ok1 x1 u ∧ F = [] := by cases c <;> exact hT
      obtain ⟨hrd, eF⟩ := hT'
      subst eF
      obtain ⟨ok2, R2, T2, hl, hr⟩ := rowtake_one R1 h2 (T1.keepVRs hvs)
      exact ⟨ok2, R2, T1.trans T2, by simp [hl], ⟨u, rfl, CK.rd_keep (fun _ _ => rfl) T2.okm c x1 u hrd⟩, hr⟩
end
end Rig
