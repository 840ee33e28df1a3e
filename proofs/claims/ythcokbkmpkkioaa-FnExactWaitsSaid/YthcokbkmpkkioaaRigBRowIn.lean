/- Part of Rig, a reflective evaluator of this project's own: a function's code, run over typed data by Lean's kernel, gives its contract. No condition. -/
import Derived.Test.YthcokbkmpkkioaaRigBObls
import Derived.ChangeReads
import Derived.ReadAgain
import Derived.ChangeOld
import Derived.ChangeBears
set_option linter.unusedVariables false
set_option linter.unusedSimpArgs false
noncomputable section
namespace Rig
open Go

/-! ### From what a statement reads to typed rows -/
mutual
/-- what every value that comes in obeys -/
def CK.good : (k : CK) → k.ty → Prop
  | .int k, x => k.min ≤ (show Int from x) ∧ (show Int from x) ≤ k.max
  | .bool, _ => True
  | .str, s => (show ByteArray from s).size ≤ maxLen
  | .map, _ => True
  | .slice row, l => List.length (α := CK.rowTy row) l ≤ maxLen ∧ ∀ (i : Nat) (y : CK.rowTy row), getq (α := CK.rowTy row) l i = some y → CK.goodRow row y
def CK.goodRow : (row : List CK) → CK.rowTy row → Prop
  | [], _ => True
  | [k], x => k.good x
  | k :: k' :: ks, x => k.good x.1 ∧ CK.goodRow (k' :: ks) x.2
end
def joinRow : (a b : List CK) → Row a → Row b → Row (lapp a b)
  | [], _, _, y => y
  | [_], [], x, _ => x
  | [_], _ :: _, x, y => (x, y)
  | _ :: k' :: ks, b, x, y => (x.1, joinRow (k' :: ks) b x.2 y)
theorem goodRow_join : ∀ (a b : List CK) (x : Row a) (y : Row b), CK.goodRow a x → CK.goodRow b y → CK.goodRow (lapp a b) (joinRow a b x y)
  | [], b, x, y, _, h => h
  | [k], [], x, y, h, _ => h
  | [k], b :: bs, x, y, h, h' => ⟨h, h'⟩
  | k :: k' :: ks, b, x, y, h, h' => ⟨h.1, goodRow_join (k' :: ks) b x.2 y h.2 h'⟩
theorem rdRow_join (w : World) (ok : Nat → Prop) : ∀ (a b : List CK) (x : Row a) (y : Row b) (f : Nat → Option Value), CK.rdRow w ok a x f → CK.rdRow w ok b y (fun j => f (a.length + j)) → CK.rdRow w ok (lapp a b) (joinRow a b x y) f
  | [], b, x, y, f, _, h => by
    have e : (fun j => f (([] : List CK).length + j)) = f := by funext j; simp
    rw [e] at h; exact h
  | [k], [], x, y, f, h, _ => h
  | [k], b :: bs, x, y, f, h, h' => by
    have e : (fun j => f ([k].length + j)) = fun j => f (j + 1) := by funext j; rw [Nat.add_comm]; rfl
    rw [e] at h'
    exact ⟨h, h'⟩
  | k :: k' :: ks, b, x, y, f, h, h' => by
    refine ⟨h.1, rdRow_join w ok (k' :: ks) b x.2 y (fun j => f (j + 1)) h.2 ?_⟩
    have e : (fun j => f ((k :: k' :: ks).length + j)) = fun j => f ((k' :: ks).length + j + 1) := by
      funext j; congr 1; simp only [List.length_cons]; omega
    rw [e] at h'
    exact h'
def fieldsOf (K : TypeId → Option (List CK)) (P : Program) : List Field → Nat → Option (List CK)
  | [], _ => some []
  | f :: fs, off => match K f.type with
    | some r => match Nat.beq f.offset off, Nat.beq (P.cellsOf f.type) r.length, fieldsOf K P fs (off + r.length) with
      | true, true, some rs => some (lapp r rs)
      | _, _, _ => none
    | none => none
/-- the cells of a type -/
def kindsOf (P : Program) : Nat → TypeId → Option (List CK)
  | 0, _ => none
  | n + 1, t => match P.underlying t with
    | some .bool => some [.bool]
    | some (.int k) => some [.int k]
    | some .string => some [.str]
    | some (.slice e) => match kindsOf P n e with
      | some r => match Nat.beq (P.cellsOf e) r.length, Nat.blt 0 r.length with
        | true, true => some [.slice r]
        | _, _ => none
      | none => none
    | some (.struct fs) => match fieldsOf (kindsOf P n) P fs.toList 0 with
      | some r => match Nat.beq (P.cellsOf t) r.length with
        | true => some r
        | false => none
      | none => none
    | _ => none

theorem exists_list {α : Type} (Q : Nat → α → Prop) : ∀ n : Nat, (∀ i, i < n → ∃ x, Q i x) → ∃ l : List α, l.length = n ∧ ∀ i x, l[i]? = some x → Q i x
  | 0, _ => ⟨[], rfl, fun i x h => by simp at h⟩
  | n + 1, h => by
    obtain ⟨l, hl, hq⟩ := exists_list Q n (fun i hi => h i (by omega))
    obtain ⟨x, hx⟩ := h n (by omega)
    refine ⟨l ++ [x], by simp [hl], fun i y hy => ?_⟩
    by_cases hi : i < l.length
    · rw [List.getElem?_append_left hi] at hy; exact hq i y hy
    · rw [List.getElem?_append_right (by omega)] at hy
      by_cases e : i = l.length
      · subst e
        simp at hy
        subst hy
        rw [hl]; exact hx
      · have : i - l.length ≠ 0 := by omega
        obtain ⟨j, hj⟩ := Nat.exists_eq_succ_of_ne_zero this
        rw [hj] at hy
        simp at hy

section
variable {H : Type} {enc : TypeId × Value → H} {P : Program} {w : World} {sp : Nat → Bool} {held : Bool}
def live (w : World) : Nat → Prop := fun b => b < w.heap.size
def In (w : World) (row : List CK) (x : Row row) (cs : List Value) : Prop := cs.length = row.length ∧ CK.rdRow w (live w) row x (fun j => cs[j]?) ∧ CK.goodRow row x
theorem cells_spot {a : Addr} {n : Nat} {cs : List Value} {base : Nat} (h : w.cells? base a n = some cs) (hn : 0 < n) : a.spot = none ∧ a.block < w.heap.size := by
  obtain ⟨_, hl, hc⟩ := World.cells?_some h
  have h0 := hc 0 hn
  have e : a.add 0 = a := by simp [Addr.add]
  rw [e, List.getElem?_eq_getElem (by omega)] at h0
  unfold World.cell? at h0
  split at h0
  · rename_i c _ _ hb
    split at h0
    · cases h0
    · rename_i hs
      exact ⟨by cases h : a.spot <;> simp_all, (Array.getElem?_eq_some_iff.1 hb).1⟩
  · cases h0
theorem fields_in {r : TypeId → List Value → Option (DataW H × List MemPlace)} {K : TypeId → Option (List CK)} (hr : ∀ t row, K t = some row → ∀ cs d ps, r t cs = some (d, ps) → cs.length = P.cellsOf t → ∃ x, In w row x cs) (cs : List Value) :
    ∀ (fs : List Field) (off : Nat) (row : List CK), fieldsOf K P fs off = some row → ∀ ys, fs.mapM (fun f => r f.type ((cs.drop f.offset).take (P.cellsOf f.type))) = some ys → off + row.length ≤ cs.length →
    ∃ x, In w row x ((cs.drop off).take row.length)
  | [], off, row, h, ys, hy, hl => by
    cases h
    exact ⟨(), by simp, by simp [CK.rdRow], by simp [CK.goodRow]⟩
  | f :: fs, off, row, h, ys, hy, hl => by
    unfold fieldsOf at h
    split at h
    case h_2 => cases h
    rename_i ra hra
    split at h
    case h_2 => cases h
    rename_i rs h1 h2 h3
    cases h
    replace h1 := Nat.eq_of_beq_eq_true h1
    replace h2 := Nat.eq_of_beq_eq_true h2
    rw [lapp_eq, List.length_append] at hl
    simp only [List.mapM_cons, Option.bind_eq_bind, Option.pure_def] at hy
    cases ha : r f.type ((cs.drop f.offset).take (P.cellsOf f.type)) with
    | none => simp [ha] at hy
    | some z =>
      cases hb : fs.mapM (fun f => r f.type ((cs.drop f.offset).take (P.cellsOf f.type))) with
      | none => simp [ha, hb] at hy
      | some zs =>
        obtain ⟨d, ps⟩ := z
        obtain ⟨x, hx1, hx2, hx3⟩ := hr f.type ra hra _ d ps ha (by rw [List.length_take, List.length_drop]; omega)
        obtain ⟨y, hy1, hy2, hy3⟩ := fields_in hr cs fs (off + ra.length) rs h3 zs hb (by omega)
        refine ⟨joinRow ra rs x y, by rw [lapp_eq]; simp; omega, rdRow_join w _ ra rs x y _ ?_ ?_, goodRow_join ra rs x y hx3 hy3⟩
        · refine CK.rdRow_keep (fun _ _ => rfl) (fun _ h => h) ra x _ _ (fun j v hv => ?_) hx2
          rw [h1, h2] at hv
          rw [lapp_eq]
          rw [List.getElem?_take] at hv ⊢
          split at hv
          · rename_i hj
            rw [if_pos (by simp; omega)]; exact hv
          · cases hv
        · refine CK.rdRow_keep (fun _ _ => rfl) (fun _ h => h) rs y _ _ (fun j v hv => ?_) hy2
          rw [lapp_eq]
          rw [List.getElem?_take] at hv ⊢
          split at hv
          · rename_i hj
            rw [if_pos (by simp; omega)]
            rw [List.getElem?_drop] at hv ⊢
            rw [← Nat.add_assoc]; exact hv
          · cases hv
theorem in_of_trod : ∀ (n : Nat) (t : TypeId) (row : List CK), kindsOf P n t = some row → ∀ (m : Nat) (cs : List Value) (d : DataW H) (ps : List MemPlace), DataW.trod enc P w 0 sp held m t cs = some (d, ps) → ∃ x, In w row x cs := by
  intro n
  induction n with
  | zero => intro t row h; cases h
  | succ n ih =>
    intro t row h m cs d ps ht
    cases m with
    | zero => simp [DataW.trod] at ht
    | succ m =>
      rw [DataW.trod_step] at ht
      unfold kindsOf at h
      split at h
      · rename_i hu
        cases h
        unfold DataW.trodStep at ht
        rw [hu] at ht
        split at ht <;> first | (cases ht; done) | (rename_i e; cases e; done) | skip
        all_goals (first | (rename_i b e; cases ht; exact ⟨b, rfl, ⟨_, rfl, rfl⟩, trivial⟩) | (simp_all; done))
      · rename_i k hu
        cases h
        unfold DataW.trodStep at ht
        rw [hu] at ht
        split at ht <;> first | (cases ht; done) | skip
        all_goals first | (simp_all; done) | skip
        rename_i k' k2 nn e
        split at ht
        case isFalse => cases ht
        rename_i hk
        obtain ⟨h1, h2⟩ := hk
        cases e
        subst h1
        cases ht
        unfold Lit.wf at h2
        simp only [Bool.and_eq_true, decide_eq_true_eq] at h2
        exact ⟨nn, rfl, ⟨_, rfl, rfl⟩, h2⟩
      · rename_i hu
        cases h
        unfold DataW.trodStep at ht
        rw [hu] at ht
        split at ht <;> first | (cases ht; done) | skip
        all_goals first | (simp_all; done) | skip
        rename_i s e
        split at ht
        case isFalse => cases ht
        rename_i hs
        cases ht
        exact ⟨s, rfl, ⟨_, rfl, rfl⟩, hs⟩
      · rename_i e hu
        split at h
        case h_2 => cases h
        rename_i r hr
        split at h
        case h_2 => cases h
        rename_i h1 h2
        cases h
        replace h1 := Nat.eq_of_beq_eq_true h1
        replace h2 : 0 < r.length := Nat.blt_eq.mp h2
        unfold DataW.trodStep at ht
        rw [hu] at ht
        split at ht <;> first | (cases ht; done) | skip
        all_goals first | (simp_all; done) | skip
        · exact ⟨([] : List (CK.rowTy r)), rfl, ⟨_, rfl, none, 0, rfl, Nat.le_refl _, .inl rfl⟩, Nat.zero_le _, fun i y hy => by simp [getq] at hy⟩
        · rename_i e' a len cap ee
          cases ee
          simp only at ht
          split at ht
          case isFalse => cases ht
          rename_i hc
          obtain ⟨_, hlc, hcap⟩ := hc
          simp only [Option.bind_eq_some_iff, Option.map_eq_some_iff] at ht
          obtain ⟨elems, he, rest, _, _⟩ := ht
          have hel : ∀ i, i < len → ∃ cs' d' ps', w.cells? 0 (a.add (i * P.cellsOf e)) (P.cellsOf e) = some cs' ∧ DataW.trod enc P w 0 sp held m e cs' = some (d', ps') := by
            intro i hi
            have hlen := mapM_some_length he
            obtain ⟨y, hy⟩ : ∃ y, elems[i]? = some y := ⟨elems[i]'(by rw [hlen]; simpa using hi), by simp⟩
            obtain ⟨i', hi', hg⟩ := mapM_get he hy
            rw [List.getElem?_range hi] at hi'
            cases hi'
            simp only [Option.bind_eq_some_iff] at hg
            obtain ⟨cs', hcs, hd⟩ := hg
            exact ⟨cs', y.1, y.2, hcs, hd⟩
          have hs : 0 < len → a.spot = none ∧ a.block < w.heap.size := fun h0 => by
            obtain ⟨cs', _, _, hcs, _⟩ := hel 0 h0
            have e0 : a.add (0 * P.cellsOf e) = a := by simp [Addr.add]
            rw [e0] at hcs
            exact cells_spot hcs (by omega)
          have hq : ∀ i, i < len → ∃ y : Row r, CK.rdRow w (live w) r y (fun j => w.cell? ⟨a.block, a.off + (i * r.length + j), none⟩) ∧ CK.goodRow r y := by
            intro i hi
            obtain ⟨cs', d', ps', hcs, hd⟩ := hel i hi
            obtain ⟨x, hx1, hx2, hx3⟩ := ih e r hr m cs' d' ps' hd
            obtain ⟨_, hl', hcell⟩ := World.cells?_some hcs
            obtain ⟨hs1, _⟩ := hs (by omega)
            refine ⟨x, ?_, hx3⟩
            refine CK.rdRow_keep (fun _ _ => rfl) (fun _ h => h) r x _ _ (fun j v hv => ?_) hx2
            have hj : j < cs'.length := (List.getElem?_eq_some_iff.1 hv).1
            have := hcell j (by omega)
            rw [hv] at this
            rw [← this]
            have ea : a = ⟨a.block, a.off, none⟩ := by cases a; simp only at hs1; subst hs1; rfl
            rw [ea, add_none, add_none, h1]
            simp only [Nat.add_assoc]
          obtain ⟨l, hl, hlq⟩ := exists_list _ len hq
          refine ⟨l, rfl, ⟨_, rfl, some a, cap, by rw [hl], by rw [hl]; exact hlc, ?_⟩, by rw [hl]; omega, fun i y hy => (hlq i y hy).2⟩
          by_cases h0 : len = 0
          · exact .inl (by rw [hl]; exact h0)
          · right
            obtain ⟨hs1, hs2⟩ := hs (by omega)
            exact ⟨a, rfl, hs1, hs2, fun i y hy => (hlq i y hy).1⟩
      · rename_i fs hu
        split at h
        case h_2 => cases h
        rename_i r hr
        split at h
        case h_2 => cases h
        rename_i h1
        cases h
        replace h1 := Nat.eq_of_beq_eq_true h1
        unfold DataW.trodStep at ht
        rw [hu] at ht
        split at ht <;> first | (cases ht; done) | skip
        all_goals first | (simp_all; done) | skip
        rename_i e
        cases e
        split at ht
        case isFalse => cases ht
        rename_i hl
        simp only [Option.map_eq_some_iff] at ht
        obtain ⟨ys, hys, _⟩ := ht
        have := fields_in (w := w) (fun t row hk cs d ps hd hl => ih t row hk m cs d ps hd) _ fs.toList 0 row hr ys hys (by omega)
        obtain ⟨x, hx⟩ := this
        refine ⟨x, ?_⟩
        rw [List.drop_zero, List.take_of_length_le (by omega)] at hx
        exact hx
      · cases h
end
end Rig
