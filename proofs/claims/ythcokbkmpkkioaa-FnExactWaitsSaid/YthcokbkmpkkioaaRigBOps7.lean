/- Part of Rig, a reflective evaluator of this project's own: a function's code, run over typed data by Lean's kernel, gives its contract. No condition. -/
import Derived.Test.YthcokbkmpkkioaaRigBOps6
import Derived.Laws.Append
set_option linter.unusedVariables false
set_option linter.unusedSimpArgs false
noncomputable section
namespace Rig
open Go
section
variable {P : Program} {w0 w w' : World} {F0 : Own} {s s' : St} {m m' : Nat → Loc} {ok ok' : Nat → Prop} {a : Act} {o : Oper} {next : Act → World → Prop} {Q : Exit → Act → World → Prop}
variable {Θ : Tab} {Γ : Env} {ρ : Type} {k : V → St → Option ρ} {r : ρ}

theorem rd_one {c : CK} {x : c.ty} {v : Value} (h : c.rd w ok x v) : v.oneCell' = true := by
  cases c with
  | slice row => obtain ⟨A, c, e, _⟩ := h; rw [e]; rfl
  | map => exact h.elim
  | _ => rw [h]; rfl
theorem rdRow_one : ∀ {row : List CK} {y : Row row} {f : Nat → Option Value}, CK.rdRow w ok row y f → ∀ j v, j < row.length → f j = some v → v.oneCell' = true
  | [], _, _, _, j, v, hj, _ => by simp at hj
  | [c], y, f, h, j, v, hj, hv => by
    obtain ⟨u, hu, h⟩ := h
    have : j = 0 := by simpa using hj
    subst this
    rw [hu] at hv
    cases hv
    exact rd_one h
  | c :: c' :: cs, y, f, h, j, v, hj, hv => by
    obtain ⟨⟨u, hu, h⟩, h2⟩ := h
    cases j with
    | zero => rw [hu] at hv; cases hv; exact rd_one h
    | succ j => exact rdRow_one h2 j v (by simpa using hj) hv
theorem RowCells.one {row : List CK} {y : Row row} {cs : List Value} (h : RowCells w ok row y cs) : ∀ v ∈ cs, v.oneCell' = true := fun v hv => by
  obtain ⟨j, hj, e⟩ := List.mem_iff_getElem.1 hv
  exact rdRow_one h.2 j v (by rw [← h.1]; exact hj) (by rw [List.getElem?_eq_getElem hj, e])
theorem rows_one {row : List CK} {l : List (Row row)} {rows : List (List Value)} (h : All2 (RowCells w ok row) l rows) : ∀ v ∈ rows.flatten, v.oneCell' = true := by
  induction h with
  | nil => intro v hv; simp at hv
  | cons h _ ih =>
    intro v hv
    rw [List.flatten_cons, List.mem_append] at hv
    rcases hv with hv | hv
    · exact h.one v hv
    · exact ih v hv

/-- the cells of rows, where they lie -/
def Lie (w : World) (A : Option Addr) (cells : List Value) : Prop := cells = [] ∨ ∃ ad, A = some ad ∧ ad.spot = none ∧ ∀ (j : Nat) (v : Value), cells[j]? = some v → w.cell? ⟨ad.block, ad.off + j, none⟩ = some v
theorem run_first {A : Option Addr} {cells : List Value} {size n len cap : Nat} (h : Lie w A cells) (hl : cells.length = n * size) (hA : A = none → n = 0) : (Builtin.firstCells size n (.slice A len cap)).run P w = .ok cells.toArray w := by
  rcases A with _ | ad
  · have := hA rfl
    subst this
    rw [Nat.zero_mul] at hl
    rw [List.length_eq_zero_iff.1 hl]
    exact run_firstCells_none w size 0 len cap
  · rcases h with h | ⟨ad', e, hs, hc⟩
    · subst h
      exact run_firstCells_some w size n ad len cap [] hl (by simp)
    · cases e
      obtain ⟨b, off, sp⟩ := ad
      simp only at hs
      subst hs
      exact run_firstCells_some w size n ⟨b, off, none⟩ len cap cells hl (fun j v hv => by rw [add_none]; exact hc j v hv)
theorem src_rows {row : List CK} (hr : 0 < row.length) (R : Rel w0 F0 s m ok a w) {x : V} {ys : List (Row row)} (h : V.get s (.slice row) x = some ys) {u : Value} (hv : VR1 w ok m s.n x u) :
    ∃ A c rows, u = .slice A ys.length c ∧ All2 (RowCells w ok row) ys rows ∧ Lie w A rows.flatten ∧ (A = none → ys.length = 0) := by
  have hrd : CK.rd w ok (.slice row) ys u → ∃ A c rows, u = .slice A ys.length c ∧ All2 (RowCells w ok row) ys rows ∧ Lie w A rows.flatten ∧ (A = none → ys.length = 0) := fun h => by
    obtain ⟨A, c, e, hc, hz⟩ := h
    rcases hz with hz | ⟨ad, eA, hs, hok, hrd⟩
    · have hz' : ys.length = 0 := hz
      have := List.length_eq_zero_iff.1 hz'
      subst this
      exact ⟨A, c, [], e, .nil, .inl rfl, fun _ => rfl⟩
    · obtain ⟨rows, hA, hc'⟩ := RowsAt.rows (l := ys) (ad := ad) hr ⟨hs, hrd⟩
      exact ⟨A, c, rows, e, hA, .inr ⟨ad, eA, hs, hc'⟩, fun e => by rw [eA] at e; cases e⟩
  cases x with
  | nil =>
    have : [] = ys := Option.some.inj h
    subst this
    exact ⟨none, 0, [], hv, .nil, .inl rfl, fun _ => rfl⟩
  | ro row' l =>
    obtain ⟨e, e2⟩ := castL_some (show castL row' row l = some ys from h)
    subst e
    subst e2
    exact hrd hv
  | own ob =>
    have h' : (match s.obj ob with | .arr row' l _ => castL row' row l | _ => none) = some ys := h
    split at h'
    case h_2 => cases h'
    rename_i row' l fz hob
    obtain ⟨e, e2⟩ := castL_some h'
    subst e
    subst e2
    have hor := R.objs ob
    rw [hob] at hor
    obtain ⟨h1, h2, h3, h4⟩ := hor
    obtain ⟨hlt, eu⟩ := hv
    rcases ea : (m ob).addr with _ | ad
    · rw [ea] at h4 eu
      have h4' : (m ob).cap = 0 := h4
      have hl0 : ys.length = 0 := by have : ys.length = (m ob).len := h1.symm; omega
      have := List.length_eq_zero_iff.1 hl0
      subst this
      exact ⟨none, _, [], by rw [eu, h1], .nil, .inl rfl, fun _ => rfl⟩
    · rw [ea] at h4 eu
      obtain ⟨h5, _⟩ := h4
      obtain ⟨rows, hA, hc'⟩ := RowsAt.rows hr h5
      exact ⟨some ad, _, rows, by rw [eu, h1], hA, .inr ⟨ad, rfl, h5.1, hc'⟩, fun e => by cases e⟩
  | _ => exact absurd (show (none : Option (List (Row row))) = some ys from h) nofun

theorem zeroCells_len (z : Array Value) (n : Nat) : (Builtin.zeroCells z n).toList.length = n * z.size := by rw [Array.length_toList, size_zeroCells]
theorem grew_drew (F : Nat → Prop) (w : World) (ob : Go.Obj) : Grew F w (w.drew.alloc ob) :=
  ⟨rfl, rfl, rfl, by show w.heap.size ≤ (w.heap.push ob).size; simp, fun k hk _ => by show (w.heap.push ob)[k]? = w.heap[k]?; simp [Array.getElem?_push, Nat.ne_of_lt hk]⟩
theorem All2.flatten_len {row : List CK} {l : List (Row row)} {rows : List (List Value)} (h : All2 (RowCells w ok row) l rows) : rows.flatten.length = l.length * row.length := by
  rw [flatten_length _ (rows_lengths h), h.length]

/-- append, with room -/
theorem run_append_in {t t' ty e e' : TypeId} {i : TypeInfo} (ht : P.underlying t = some (.slice e)) (ht' : P.underlying t' = some (.slice e')) (hi : P.info? e = some i) {b off sLen sCap : Nat} {A : Option Addr} {n c : Nat} {news : List Value}
    {cur : Array Value} {ty' : TypeId} {fr : Nat × Nat} (hh : w.heap[b]? = some (.cells cur ty' fr)) (hcl : Clean cur fr) (hl : news.length = n * i.size) (hlie : Lie w A news) (hA : A = none → n = 0) (hone : ∀ v ∈ news, v.oneCell' = true)
    (hn : sLen + n ≤ sCap) (hcap : off + sCap * i.size ≤ cur.size) :
    (Builtin.append_ #[t, t'] ty #[.slice (some ⟨b, off, none⟩) sLen sCap, .slice A n c]).run P w =
      .ok (.slice (some ⟨b, off, none⟩) (sLen + n) sCap) (w.setRow b (cur.toList.take (off + sLen * i.size) ++ news ++ cur.toList.drop (off + sLen * i.size + news.length)).toArray) := by
  have hf := run_first (P := P) (len := n) (cap := c) hlie hl hA
  have hle : (sLen + n) * i.size ≤ sCap * i.size := Nat.mul_le_mul_right _ hn
  rw [Nat.add_mul] at hle
  have hst := run_storeCells_clean P b (off + sLen * i.size) ty' fr news 0 cur w hh hcl (by omega) hone
  simp only [Nat.add_zero] at hst
  simp [Builtin.append_, run_underlying ht, run_underlying ht', Go.sizeOf, typeInfo, hi, Builtin.lenOf, hn, hf, hst, add_none]
/-- append, without -/
theorem run_append_out {t t' ty e e' : TypeId} {i : TypeInfo} {z : Value} (ht : P.underlying t = some (.slice e)) (ht' : P.underlying t' = some (.slice e')) (hi : P.info? e = some i) (hz : i.zero = some z) {A A' : Option Addr} {sLen sCap n c : Nat} {olds news : List Value}
    (hlo : olds.length = sLen * i.size) (hlieo : Lie w A' olds) (hAo : A' = none → sLen = 0) (hl : news.length = n * i.size) (hlie : Lie w A news) (hA : A = none → n = 0)
    (hn : sCap < sLen + n) (hroom : (sLen + n) * i.bytes ≤ 140737488355328) (hb : 1 ≤ i.bytes) :
    (Builtin.append_ #[t, t'] ty #[.slice A' sLen sCap, .slice A n c]).run P w =
      .ok (.slice (some ⟨w.heap.size, 0, none⟩) (sLen + n) (grownCap w (sLen + n) sCap e)) (w.drew.alloc (.cells (olds ++ (news ++ (Builtin.zeroCells z.cells (grownCap w (sLen + n) sCap e - (sLen + n))).toList)).toArray e)) := by
  have hf : (Builtin.firstCells i.size n (.slice A n c)).run P w.drew = .ok news.toArray w.drew := run_first (P := P) hlie hl hA
  have hfo : (Builtin.firstCells i.size sLen (.slice A' sLen sCap)).run P w.drew = .ok olds.toArray w.drew := run_first (P := P) hlieo hlo hAo
  have hn' : ¬ (sLen + n ≤ sCap) := by omega
  have h2 : (sLen + n) * 1 ≤ (sLen + n) * i.bytes := Nat.mul_le_mul_left _ hb
  have h63' : ¬ (9223372036854775807 < ((sLen : Int) + (n : Int))) := by omega
  have h48' : ¬ (281474976710656 < Builtin.nextslicecap (sLen + n) sCap * i.bytes) := by have := growslice_fits hn hroom; omega
  simp [Builtin.append_, run_underlying ht, run_underlying ht', Go.sizeOf, typeInfo, zeroValue, hi, hz, Builtin.lenOf, hn', h63', h48', Question.forced, hf, hfo, newRow, grownCap]
  congr 2
  apply Array.ext'
  simp

def appendTo (ei : TyI) (va : V) (ys : List (Row ei.cells)) (s : St) (k : V → St → Option ρ) : Option ρ := match va with
  | .nil => dif (droom 0 (dlen (α := Row ei.cells) ys) ei.bytes) (k (.own s.n) (s.new (.arr ei.cells ys false))) none
  | .own ob => match s.obj ob with
    | .arr row' l false => match castL row' ei.cells l with
      | some l => dif (droom (dlen (α := Row ei.cells) l) (dlen (α := Row ei.cells) ys) ei.bytes)
          (k (.own s.n) ((s.setObj ob .dead).new (.arr ei.cells (dapp (α := Row ei.cells) l ys) false))) none
      | none => none
    | _ => none
  | _ => none
theorem append_to {ei : TyI} {va : V} {ys : List (Row ei.cells)} {ua ux : Value} {t t' ty e e' : TypeId} {i : TypeInfo} {z : Value} (ht : P.underlying t = some (.slice e)) (ht' : P.underlying t' = some (.slice e')) (hi : P.info? e = some i) (hz : i.zero = some z)
    (hcells : ZeroAs ei.cells z.cells.toList) (hsz : i.size = ei.cells.length) (hby : i.bytes = ei.bytes) (hp1 : 1 ≤ ei.bytes) (hp2 : 0 < ei.cells.length) (R : Rel w0 F0 s m ok a w)
    (hva : VR w ok m s.n va ua) (hx : ∃ A c rows, ux = .slice A ys.length c ∧ All2 (RowCells w ok ei.cells) ys rows ∧ Lie w A rows.flatten ∧ (A = none → ys.length = 0)) (h : appendTo ei va ys s k = some r) {nx : Value → World → Prop} {q : Bool} (L : Leads w0 F0 s m ok a w q k r nx) :
    ∃ v w', (Builtin.append_ #[t, t'] ty #[ua, ux]).run P w = .ok v w' ∧ nx v w' := by
  have hzl : z.cells.size = ei.cells.length := by rw [← Array.length_toList]; exact hcells.len
  obtain ⟨A, c, rows, eux, hrows, hlie, hAn⟩ := hx
  unfold appendTo at h
  have hll : rows.flatten.length = ys.length * i.size := by rw [hrows.flatten_len, hsz]
  split at h
  · -- onto nothing
    obtain ⟨hroom, h⟩ := dif_none_right h
    have hroom := droom_true hroom
    rw [dlen_eq, Int.zero_add] at hroom
    have eua : ua = .slice none 0 0 := hva
    by_cases hn0 : ys.length = 0
    · have hys0 := List.length_eq_zero_iff.1 hn0
      refine ⟨.slice none 0 0, w, ?_, L _ (.own s.n) (s.new (.arr ei.cells ys false)) (upd m s.n ⟨none, 0, 0, ei.cells.length⟩) ok w (R.new _ _ ?_ nofun) rfl rfl (Nat.le_succ _) (fun _ h => h) (fun o ho => upd_ne m _ (by omega)) (fun _ => ⟨Stay.refl _ _ _ _, fun o cs ho => new_keep R ho⟩) ⟨Nat.lt_succ_self _, by rw [upd_same]⟩ h⟩
      · have hr0 : rows.flatten = [] := List.length_eq_zero_iff.1 (by rw [hll, hn0]; simp)
        have hf := run_first (P := P) (len := ys.length) (cap := c) hlie hll hAn
        rw [eua, eux]
        simp [Builtin.append_, run_underlying ht, run_underlying ht', Go.sizeOf, typeInfo, hi, Builtin.lenOf, hn0]
        rw [hn0] at hf
        rw [hf]
        simp
      · subst hys0
        exact ⟨rfl, Nat.le_refl _, rfl, rfl⟩
    · have hr' : (0 + ys.length) * i.bytes ≤ 140737488355328 := by
        rw [hby, Nat.zero_add]
        have : ((ys.length * ei.bytes : Nat) : Int) ≤ 140737488355328 := by rw [Int.natCast_mul]; exact hroom
        omega
      have hrun := run_append_out (P := P) (w := w) (ty := ty) (A' := none) (sLen := 0) (sCap := 0) (olds := []) (c := c) ht ht' hi hz (by simp) (.inl rfl) (fun _ => rfl) hll hlie hAn (by omega) hr' (by omega)
      have hg : Grew (fun _ => False) w (w.drew.alloc (.cells ([] ++ (rows.flatten ++ (Builtin.zeroCells z.cells (grownCap w (0 + ys.length) 0 e - (0 + ys.length))).toList)).toArray e)) := grew_drew _ w _
      have hge := grownCap_ge w (0 + ys.length) 0 e
      have key := leads_row (cap := grownCap w (0 + ys.length) 0 e) R hg hp2 (heap_alloc w.drew _) hrows (fun j v hv => ?_) (by omega) ?_ h L
      · rw [← eua, ← eux, Nat.zero_add] at hrun
        rw [Nat.zero_add] at key
        exact ⟨_, _, hrun, key⟩
      · have hlt := (List.getElem?_eq_some_iff.1 hv).1
        rw [List.getElem?_toArray, List.nil_append, List.getElem?_append_left hlt]
        exact hv
      · rw [List.size_toArray, List.nil_append, List.length_append, hll, zeroCells_len, hzl, hsz, ← Nat.add_mul]
        exact Nat.mul_le_mul_right _ (by omega)
  · -- onto a row of one's own
    rename_i ob
    split at h
    case h_2 => cases h
    rename_i row' l' hob
    split at h
    case h_2 => cases h
    rename_i l hcast
    obtain ⟨hroom, h⟩ := dif_none_right h
    have hroom := droom_true hroom
    rw [dlen_eq, dlen_eq] at hroom
    obtain ⟨hlt, eua⟩ := hva
    have hget : V.get s (.slice ei.cells) (.own ob) = some l := by
      show (match s.obj ob with | .arr row' l _ => castL row' ei.cells l | _ => none) = some l
      rw [hob]; exact hcast
    obtain ⟨A', c', rowsO, eua', hrowsO, hlieO, hAO⟩ := src_rows hp2 R (x := .own ob) hget ⟨hlt, eua⟩
    obtain ⟨erow, el⟩ := castL_some hcast
    subst erow
    have el : l' = l := el.symm
    subst el
    have hinj := eua.symm.trans eua'
    have hA' : (m ob).addr = A' := by injection hinj
    have hlen : (m ob).len = l'.length := by injection hinj
    rw [← hA'] at hlieO hAO
    have hor := R.objs ob
    rw [hob] at hor
    obtain ⟨_, hcap, hlsz, hor⟩ := hor
    have hlo : rowsO.flatten.length = (m ob).len * i.size := by rw [hrowsO.flatten_len, hsz, hlen]
    have hr' : ((m ob).len + ys.length) * i.bytes ≤ 140737488355328 := by
      rw [hby, hlen]
      have : (((l'.length + ys.length) * ei.bytes : Nat) : Int) ≤ 140737488355328 := by rw [Int.natCast_mul, Int.natCast_add]; exact hroom
      exact Int.ofNat_le.1 this
    have R1 : Rel w0 F0 (s.setObj ob .dead) m ok a w := R.setObj ob .dead (fun _ => rfl) trivial (fun b h => by
      have := h.2
      rw [St.obj_setObj, if_pos rfl] at this
      exact this.elim)
    have hbx : ∀ o cs, s.obj o = .box cs → (s.setObj ob .dead).obj o = .box cs := fun o cs ho => by
      have hne : ob ≠ o := fun e => by subst e; rw [hob] at ho; cases ho
      rw [St.obj_setObj, if_neg hne]; exact ho
    have L1 : Leads w0 F0 (s.setObj ob .dead) m ok a w q k r nx := fun v V s2 m2 ok2 w2 R hN ht hn hok hl hS hV hk => L v V s2 m2 ok2 w2 R hN ht hn hok hl (fun hq => ⟨⟨(hS hq).1.1, fun o b cs ho h => (hS hq).1.2 o b cs (hbx o cs ho) h⟩, fun o cs ho => (hS hq).2 o cs (hbx o cs ho)⟩) hV hk
    have hlenA : (dapp l' ys).length = (m ob).len + ys.length := by unfold dapp; rw [List.length_append, hlen]
    have hlenB : (l' ++ ys).length = (m ob).len + ys.length := hlenA
    by_cases hfit : (m ob).len + ys.length ≤ (m ob).cap
    · rcases ea : (m ob).addr with _ | ad
      · -- nothing onto nothing
        rw [ea] at hor
        have hcap0 : (m ob).cap = 0 := hor
        have hlen0 : (m ob).len = 0 := by omega
        have hn0 : ys.length = 0 := by omega
        have hr0 : rows.flatten = [] := List.length_eq_zero_iff.1 (by rw [hll, hn0]; simp)
        have hf := run_first (P := P) (len := ys.length) (cap := c) hlie hll hAn
        refine ⟨.slice none 0 0, w, ?_, L1 _ (.own s.n) ((s.setObj ob .dead).new (.arr ei.cells (dapp l' ys) false)) (upd m s.n ⟨none, 0, 0, ei.cells.length⟩) ok w (R1.new _ _ ?_ nofun) rfl rfl (Nat.le_succ _) (fun _ h => h) (fun o ho => upd_ne m _ (by have : o < s.n := ho; omega)) (fun _ => ⟨Stay.refl _ _ _ _, fun o cs ho => new_keep R1 ho⟩) ⟨Nat.lt_succ_self _, by rw [upd_same]⟩ h⟩
        · rw [eua, eux, ea, hlen0, hcap0]
          simp [Builtin.append_, run_underlying ht, run_underlying ht', Go.sizeOf, typeInfo, hi, Builtin.lenOf, hn0]
          rw [hn0] at hf
          rw [hf]
          simp
        · exact ⟨by rw [hlenA, hlen0, hn0], Nat.le_refl _, rfl, rfl⟩
      · rw [ea] at hor eua hlieO
        obtain ⟨hra, _, cur, ty', fr, hh, hcl, hle⟩ := hor
        obtain ⟨b, off, sp⟩ := ad
        have hs : sp = none := hra.1
        subst hs
        simp only at hh hle
        have hx : ex s m ob b := ⟨by rw [ea]; rfl, by rw [hob]; trivial⟩
        have hszs : (m ob).sz = i.size := by rw [hlsz, hsz]
        rw [hszs] at hle
        have hrun := run_append_in (P := P) (ty := ty) (c := c) ht ht' hi hh hcl hll hlie hAn (rows_one hrows) hfit hle
        have hle2 : ((m ob).len + ys.length) * i.size ≤ (m ob).cap * i.size := Nat.mul_le_mul_right _ hfit
        rw [Nat.add_mul] at hle2
        refine ⟨_, _, by rw [eua, eux]; exact hrun, ?_⟩
        generalize hnew : (cur.toList.take (off + (m ob).len * i.size) ++ rows.flatten ++ cur.toList.drop (off + (m ob).len * i.size + rows.flatten.length)).toArray = new
        have hnl : new.size = cur.size := by rw [← hnew]; simp [hll]; omega
        have hheap := setRow_heap w b cur new ty' fr hh
        refine L1 _ (.own s.n) ((s.setObj ob .dead).new (.arr ei.cells (dapp l' ys) false)) (upd m s.n ⟨some ⟨b, off, none⟩, (m ob).len + ys.length, (m ob).cap, ei.cells.length⟩) ok _ ((R.write ob b hx new).new _ _ ?_ (fun b' hb' _ => ?_)) rfl rfl (Nat.le_succ _) (fun _ h => h) (fun o ho => upd_ne m _ (by have : o < s.n := ho; omega)) (fun _ => ⟨⟨fun b' hb' => setRow_other w b b' new (fun e => (R.exok ob b hx).1 (e ▸ hb')), fun o b' cs ho hb' => setRow_other w b b' new (fun e => R.nex hx new o (e ▸ ⟨hb', by rw [ho]; trivial⟩))⟩, fun o cs ho => new_keep R1 ho⟩) ⟨Nat.lt_succ_self _, by rw [upd_same]⟩ h
        · refine ⟨hlenA.symm, hfit, rfl, rowsAt_of hp2 rfl ((hrowsO.append hrows).imp fun _ _ h => h.keep (fun b' hb' => setRow_other w b b' new (fun e => (R.exok ob b hx).1 (e ▸ hb'))) (fun _ h => h)) (fun j v hj => ?_), nofun, new, ty', fr, hheap, fun j hj => hcl j (by rw [← hnl]; exact hj), by rw [hnl, ← hsz]; exact hle⟩
          simp only [World.cell?, hheap]
          rw [← hnew, List.getElem?_toArray]
          rw [List.flatten_append] at hj
          have htl : (cur.toList.take (off + (m ob).len * i.size)).length = off + (m ob).len * i.size := by simp; omega
          by_cases hjl : j < rowsO.flatten.length
          · rw [List.getElem?_append_left hjl] at hj
            rw [List.append_assoc, List.getElem?_append_left (by rw [htl]; omega), List.getElem?_take_of_lt (by omega)]
            rcases hlieO with h0 | ⟨ad', e', _, hc'⟩
            · rw [h0] at hjl; simp at hjl
            · cases e'
              have := hc' j v hj
              simp only [World.cell?, hh] at this
              simpa using this
          · have hjl' := Nat.le_of_not_lt hjl
            rw [List.getElem?_append_right hjl'] at hj
            have hlt2 := (List.getElem?_eq_some_iff.1 hj).1
            rw [List.append_assoc, List.getElem?_append_right (by rw [htl]; omega), htl, List.getElem?_append_left (by omega)]
            have : off + j - (off + (m ob).len * i.size) = j - rowsO.flatten.length := by omega
            rw [this]; exact hj
        · have : b = b' := by simpa using hb'
          subst this
          exact ⟨(R.exok ob b hx).1, (R.exok ob b hx).2, R.nex hx new⟩
    · have hrun := run_append_out (P := P) (w := w) (ty := ty) (c := c) (sCap := (m ob).cap) ht ht' hi hz hlo hlieO (fun e => by rw [hlen]; exact hAO e) hll hlie hAn (by omega) hr' (by omega)
      have hg : Grew (fun _ => False) w (w.drew.alloc (.cells (rowsO.flatten ++ (rows.flatten ++ (Builtin.zeroCells z.cells (grownCap w ((m ob).len + ys.length) (m ob).cap e - ((m ob).len + ys.length))).toList)).toArray e)) := grew_drew _ w _
      have hge := grownCap_ge w ((m ob).len + ys.length) (m ob).cap e
      have key := leads_row (cap := grownCap w ((m ob).len + ys.length) (m ob).cap e) R1 hg hp2 (heap_alloc w.drew _) (hrowsO.append hrows) (fun j v hv => ?_) (by rw [hlenB]; omega) ?_ h L1
      · rw [← eua, ← eux] at hrun
        rw [hlenB] at key
        exact ⟨_, _, hrun, key⟩
      · rw [List.flatten_append] at hv
        have hlt := (List.getElem?_eq_some_iff.1 hv).1
        rw [List.getElem?_toArray, ← List.append_assoc, List.getElem?_append_left hlt]
        exact hv
      · rw [List.size_toArray, List.length_append, List.length_append, hlo, hll, zeroCells_len, hzl, hsz, ← Nat.add_mul, ← Nat.add_mul]
        exact Nat.mul_le_mul_right _ (by omega)
  · cases h

theorem append_ok {ei : TyI} {va vx : V} {ua ux : Value} {t t' ty e e' : TypeId} {i : TypeInfo} {z : Value} (ht : P.underlying t = some (.slice e)) (ht' : P.underlying t' = some (.slice e')) (hi : P.info? e = some i) (hz : i.zero = some z)
    (hcells : ZeroAs ei.cells z.cells.toList) (hsz : i.size = ei.cells.length) (hby : i.bytes = ei.bytes) (hp1 : 1 ≤ ei.bytes) (hp2 : 0 < ei.cells.length) (R : Rel w0 F0 s m ok a w)
    (hva : VR w ok m s.n va ua) (hvx : VR w ok m s.n vx ux) (h : doAppend ei va vx s k = some r) {nx : Value → World → Prop} {q : Bool} (L : Leads w0 F0 s m ok a w q k r nx) :
    ∃ v w', (Builtin.append_ #[t, t'] ty #[ua, ux]).run P w = .ok v w' ∧ nx v w' := by
  have hzl : z.cells.size = ei.cells.length := by rw [← Array.length_toList]; exact hcells.len
  cases hys : V.get s (.slice ei.cells) vx with
  | none => unfold doAppend at h; rw [hys] at h; cases h
  | some ys =>
  have h : appendTo ei va ys s k = some r := by unfold doAppend at h; rw [hys] at h; exact h
  exact append_to ht ht' hi hz hcells hsz hby hp1 hp2 R hva (src_rows hp2 R hys (hvx.as1 (get_one hys))) h L

theorem ev_append {args : Array Operand} {ats : Array TypeId} (hΘ : TabOk P Θ) (ho : o.op = .call { callee := .builtin .append, args := args, argTypes := ats }) (R : Rel w0 F0 s m ok a w)
    (h : evBuiltin Θ .append (lmap (eval s) args.toList) ats.toList s k = some r) {q : Bool} (L : Leads w0 F0 s m ok a w q k r (fun v w' => next (a.put o.dst v) w')) : o.wp P a w next Q := by
  have hA := evals R args.toList
  have hargs := toArray_args (a := a) args
  generalize args.toList.map a.eval = us at hA hargs
  simp only [evBuiltin] at h
  split at h
  case h_2 => cases h
  rename_i va vx t t' e1 e2
  have e2 : ats = #[t, t'] := Array.toList_inj.1 e2
  subst e2
  rw [e1] at hA
  obtain ⟨ua, ux, eu, hva, hvx⟩ := hA.two_inv
  subst eu
  split at h
  case h_2 => cases h
  rename_i ei ei' hei hei'
  obtain ⟨ti, hti, ht, he⟩ := elemOf_at hΘ hei
  obtain ⟨ti', hti', ht', _⟩ := elemOf_at hΘ hei'
  obtain ⟨i, z, hi, hsz, hby, hz, hcells⟩ := he.info
  obtain ⟨hp1, hp2⟩ := he.pos
  have hrunb : ∀ (v : Value) (w' : World), (Builtin.append_ #[t, t'] o.type #[ua, ux]).run P w = .ok v w' → (Go.execOp a.eval o).run P w = .ok (.value v) w' := fun v w' h => by
    refine run_builtin ho fun cs => ?_
    rw [hargs]
    simp [builtin, h]
  refine append_ok ht ht' hi hz hcells hsz hby hp1 hp2 R hva hvx h L |>.elim fun v ⟨w', hr, hn⟩ => wp_val (hrunb _ _ hr) hn
end
end Rig
