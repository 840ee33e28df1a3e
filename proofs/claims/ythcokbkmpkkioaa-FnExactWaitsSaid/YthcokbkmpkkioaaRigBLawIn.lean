/- Part of Rig, a reflective evaluator of this project's own: a function's code, run over typed data by Lean's kernel, gives its contract. No condition. -/
import Derived.Test.YthcokbkmpkkioaaRigBRowIn
import Derived.WideShapes
import Derived.RowKit
set_option linter.unusedVariables false
set_option linter.unusedSimpArgs false
noncomputable section
namespace Rig
open Go Go.WideShapes
section
variable {H : Type} {enc : TypeId × Value → H} {P : Program} {w : World} {sp : Nat → Bool} {held : Bool}
theorem TRs_of_rd (ok : Nat → Prop) : ∀ (cells : List (CK × Bool)), anyOwn cells = false → ∀ (x : Row (kinds cells)) (cs : List Value), cs.length = (kinds cells).length → CK.rdRow w ok (kinds cells) x (fun j => cs[j]?) → TRs w ok cells x cs []
  | [], _, x, cs, hl, _ => ⟨List.length_eq_zero_iff.1 hl, rfl⟩
  | [(c, own)], ho, x, cs, hl, h => by
    have ho : own = false := by cases own <;> simp_all [anyOwn]
    subst ho
    obtain ⟨v, hv, h⟩ := h
    match cs, hl with
    | [u], _ =>
      have : u = v := by simpa using hv
      subst this
      exact ⟨u, rfl, TR_read h⟩
  | (c, own) :: c' :: cells, ho, x, cs, hl, h => by
    have ho : own = false ∧ anyOwn (c' :: cells) = false := by
      cases own
      · exact ⟨rfl, ho⟩
      · exact absurd (show true = false from ho) nofun
    obtain ⟨ho, ho'⟩ := ho
    subst ho
    obtain ⟨⟨v, hv, h⟩, h2⟩ := h
    match cs, hl with
    | u :: us, hl =>
      have : u = v := by simpa using hv
      subst this
      exact ⟨u, us, [], [], rfl, rfl, TR_read h, TRs_of_rd ok (c' :: cells) ho' x.2 us (by simpa [kinds] using hl) h2⟩

def isAggT (P : Program) (t : TypeId) : Bool := match P.underlying t with | some (.struct _) => true | _ => false
def paramOk (P : Program) (t : TypeId) (g : Arg) : Bool := match kindsOf P 12 t with
  | some r => match CK.beqs r (kinds g.cells), anyOwn g.cells, Nat.beq g.mode (match isAggT P t with | true => 1 | false => 0) with
    | true, false, true => true
    | _, _, _ => false
  | none => false
def paramsOk (P : Program) : List TypeId → Args → Bool
  | [], [] => true
  | t :: ts, g :: gs => match paramOk P t g with | true => paramsOk P ts gs | false => false
  | _, _ => false

theorem not_agg {v : Value} (h : ∀ cs, v ≠ .agg cs) : v.cells.toList = [v] := by
  cases v <;> first | rfl | exact absurd rfl (h _)
theorem arg_of_trod {pb : List Nat} {W : World} {rc : Reach} {b0 : Nat} {t : TypeId} {g : Arg} (h : paramOk P t g = true) {v : Value} {d : DataW H} {ps : List MemPlace} (hf : Value.okWide P W rc b0 t v) (ht : DataW.Trod enc P w 0 sp held t v d ps) : ∃ x, ArgR w (live w) pb g x v [] ∧ CK.goodRow (kinds g.cells) x := by
  unfold paramOk at h
  split at h
  case h_2 => cases h
  rename_i r hr
  split at h
  case h_2 => cases h
  rename_i h1 h2 h3
  have e := CK.eqs_of_beqs h1
  subst e
  replace h3 := Nat.eq_of_beq_eq_true h3
  obtain ⟨m, hm⟩ := ht
  obtain ⟨x, hx1, hx2, hx3⟩ := in_of_trod 12 t _ hr m _ d ps hm
  have hT := TRs_of_rd (w := w) (live w) g.cells h2 x _ hx1 hx2
  refine ⟨x, ?_, hx3⟩
  unfold ArgR
  have plain : (∀ cs, v ≠ .agg cs) → isAggT P t = false → (match g.mode with
    | 2 => ∃ b vs t fr F', v = .pointer (some ⟨b, 0, none⟩) ∧ w.heap[b]? = some (.cells vs t fr) ∧ Clean vs fr ∧ TRs w (live w) g.cells x vs.toList F' ∧ ([] : List Nat) = b :: F'
    | 3 => ∃ b t fr, v = .pointer (some ⟨b, 0, none⟩) ∧ w.heap[b]? = some (.cells #[cloVal g.fn g.js pb] t fr) ∧ Clean #[cloVal g.fn g.js pb] fr ∧ ([] : List Nat) = [b]
    | 4 => ∃ b, v = .pointer (some ⟨b, 0, none⟩) ∧ live w b ∧ b < w.heap.size ∧ RowsAt w (live w) (kinds g.cells) [x] ⟨b, 0, none⟩ ∧ ([] : List Nat) = []
    | 1 => ∃ cs : List Value, v = .agg cs.toArray ∧ TRs w (live w) g.cells x cs []
    | _ => TRs w (live w) g.cells x [v] []) := fun hn ha => by
    rw [ha] at h3
    rw [h3]
    rw [not_agg hn] at hT
    exact hT
  unfold kindsOf at hr
  split at hr
  · rename_i hu
    obtain ⟨b, rfl⟩ := okWide_bool hu hf
    exact plain nofun (by unfold isAggT; rw [hu])
  · rename_i k hu
    obtain ⟨b, rfl⟩ := okWide_int hu hf
    exact plain nofun (by unfold isAggT; rw [hu])
  · rename_i hu
    obtain ⟨b, rfl⟩ := okWide_string hu hf
    exact plain nofun (by unfold isAggT; rw [hu])
  · rename_i e hu
    refine plain (fun cs e2 => ?_) (by unfold isAggT; rw [hu])
    subst e2
    unfold Value.okWide at hf
    rw [hu] at hf
    simp [Cell.okWide, Cell.ok, hu] at hf
  · rename_i fs hu
    unfold Value.okWide at hf
    rw [hu] at hf
    obtain ⟨cs, e2, _⟩ := hf
    subst e2
    have ha : isAggT P t = true := by unfold isAggT; rw [hu]
    rw [ha] at h3
    rw [h3]
    exact ⟨cs.toList, by simp, by simpa [Value.cells] using hT⟩
  · cases hr
theorem good_mem {row : List CK} {l : List (Row row)} (h : CK.good (.slice row) l) (p : Row row) (hp : p ∈ l) : CK.goodRow row p := by
  obtain ⟨j, hj, e⟩ := List.getElem_of_mem hp
  exact h.2 j p (by show l[j]? = some p; rw [List.getElem?_eq_getElem hj, e])
def Args.good : (ins : Args) → ins.T → Prop
  | [], _ => True
  | a :: r, x => CK.goodRow (kinds a.cells) (afst a r x) ∧ Args.good r (asnd a r x)
theorem Args.good_join {a : Arg} {r : Args} {x : Row (kinds a.cells)} {y : Args.T r} (h : CK.goodRow (kinds a.cells) x) (h' : Args.good r y) : Args.good (a :: r) (ajoin a r x y) :=
  ⟨by rw [afst_join]; exact h, by rw [asnd_join]; exact h'⟩
theorem args_of_trod {pb : List Nat} {W : World} {rc : Reach} {b0 : Nat} : ∀ {ts : List TypeId} {ins : Args}, paramsOk P ts ins = true → ∀ {vs : List Value} {ds : List (DataW H)} {ps : List MemPlace}, (∀ (j : Nat) t v, ts[j]? = some t → vs[j]? = some v → Value.okWide P W rc b0 t v) →
    DataW.TrodAll enc P w 0 sp held ts vs ds ps → ∃ x : ins.T, ArgsR w (live w) pb ins x vs [] ∧ Args.good ins x
  | [], [], _, vs, ds, ps, hv, ht => by
    match vs, ds, ht with
    | [], [], _ => exact ⟨(), ⟨rfl, rfl⟩, trivial⟩
  | [], _ :: _, h, _, _, _, _, _ => by cases h
  | _ :: _, [], h, _, _, _, _, _ => by cases h
  | t :: ts, g :: gs, h, vs, ds, ps, hv, ht => by
    match vs, ds, ht with
    | v :: vs, d :: ds, ⟨p, q, h1, h2, _⟩ =>
      have h' : (match paramOk P t g with | true => paramsOk P ts gs | false => false) = true := h
      split at h'
      case h_2 => cases h'
      rename_i hp
      obtain ⟨x, hx1, hx2⟩ := arg_of_trod hp (hv 0 t v rfl rfl) h1
      obtain ⟨y, hy1, hy2⟩ := args_of_trod (ins := gs) h' (fun j t v ht hv' => hv (j + 1) t v (by simpa using ht) (by simpa using hv')) h2
      refine ⟨ajoin g gs x y, ⟨v, vs, [], [], rfl, rfl, ?_, ?_⟩, Args.good_join hx2 hy2⟩
      · rw [afst_join]; exact hx1
      · rw [asnd_join]; exact hy1

/-- a law's walk -/
theorem law_walk {W : World} {rc : Reach} {b0 : Nat} {f : Nat} {sp' : FSpec} (hF : FnOk P f sp') (ho : sp'.outs = [{ mode := 0, cells := [(.bool, false)] }]) (hp : sp'.ins.ptrs = []) {ts : List TypeId} (hin : paramsOk P ts sp'.ins = true)
    (pure : ∀ x, Args.good sp'.ins x → ∃ y, sp'.f x = some y ∧ HEq (rfst sp'.outs sp'.ins.ptrs y) true)
    {vs : Array Value} {ds : List (DataW H)} {ps : List MemPlace} (hv : ∀ (j : Nat) t v, ts[j]? = some t → vs[j]? = some v → Value.okWide P W rc b0 t v) (ht : DataW.TrodAll enc P w 0 sp held ts vs.toList ds ps) :
    Calls P f vs w fun e w' => e = .returned (.bool true) ∧ Grew (fun _ => False) w w' := by
  obtain ⟨x, hx1, hx2⟩ := args_of_trod hin (fun j t v ht hv' => hv j t v ht (by simpa using hv')) ht
  obtain ⟨y, hy, hb⟩ := pure x hx2
  have := hF w (live w) vs.toList x y [] (fun b h => h) hx1 List.nodup_nil nofun hy
  rw [Array.toArray_toList] at this
  refine this.mono fun e w' ⟨us, ok', F1, F2, he, hG, _, _, hA, _⟩ => ⟨?_, hG.os, hG.tape, hG.output, hG.size, fun k hk _ => hG.block k hk nofun⟩
  subst he
  obtain ⟨ins, outs, ff⟩ := sp'
  simp only at ho hp
  subst ho
  obtain ⟨v, vs', G1, G2, e1, _, h1, h2⟩ := hA
  obtain ⟨e2, _⟩ := h2
  subst e2
  subst e1
  obtain ⟨v2, e3, h3⟩ := h1
  cases e3
  have h4 : v = .bool (afst { mode := 0, cells := [(CK.bool, false)] } [] (rfst [{ mode := 0, cells := [(CK.bool, false)] }] (Args.ptrs ins) y)) := h3.1
  have h5 : afst { mode := 0, cells := [(CK.bool, false)] } [] (rfst [{ mode := 0, cells := [(CK.bool, false)] }] (Args.ptrs ins) y) = true := eq_of_heq hb
  rw [h4]
  show Ending.returned (.bool _) = _
  exact congrArg (fun b => Ending.returned (.bool b)) h5
/-- the input reads as it did -/
theorem args_kept {T : TypeId → Prop} (K : Kids P T) (hz : ∀ t e, T t → P.underlying t = some (.slice e) → 0 < P.cellsOf e) {ts : List TypeId} (hts : ∀ t ∈ ts, T t) {vs : List Value} {ds : List (DataW H)} {ps : List MemPlace} {w' : World}
    (h : DataW.TrodAll enc P w 0 (fun _ => true) true ts vs ds ps) (hG : Grew (fun _ => False) w w') : DataW.TrodAll enc P w' 0 (fun b => decide (b < w.heap.size)) true ts vs ds ps := by
  have hlt := DataW.TrodAll.lt h
  have h1 := DataW.TrodAll.respare (spare' := fun b => decide (b < w.heap.size)) K hz hts h (fun p hp => by simpa using hlt p hp)
  have : ∀ {ts : List TypeId} {vs : List Value} {ds : List (DataW H)} {ps : List MemPlace}, DataW.TrodAll enc P w 0 (fun b => decide (b < w.heap.size)) true ts vs ds ps → (∀ p ∈ ps, p.block < w.heap.size) → DataW.TrodAll enc P w' 0 (fun b => decide (b < w.heap.size)) true ts vs ds ps := by
    intro ts
    induction ts with
    | nil => intro vs ds ps h hl; cases vs <;> cases ds <;> exact h
    | cons t ts ih =>
      intro vs ds ps h hl
      cases vs with
      | nil => exact h
      | cons v vs =>
        cases ds with
        | nil => exact h
        | cons d ds =>
          obtain ⟨p, q, ⟨n, h1⟩, h2, e⟩ := h
          subst e
          refine ⟨p, q, ⟨n, DataW.trod_carry n _ _ _ h1 fun pl hpl => ?_⟩, ih h2 (fun p hp => hl p (by simp [hp])), rfl⟩
          have hb := hG.block pl.block (hl pl (by simp [hpl])) (fun h => h)
          cases pl with
          | cell b off => 
            have hb' : w'.heap[b]? = w.heap[b]? := hb
            simp [World.sameAt, World.cell?, hb']
          | map b =>
            have hb' : w'.heap[b]? = w.heap[b]? := hb
            simp [World.sameAt, hb']
  exact this h1 hlt
end
end Rig
