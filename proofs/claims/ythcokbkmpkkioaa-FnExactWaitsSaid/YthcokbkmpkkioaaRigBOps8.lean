/- Part of Rig, a reflective evaluator of this project's own: a function's code, run over typed data by Lean's kernel, gives its contract. No condition. -/
import Derived.Test.YthcokbkmpkkioaaRigBOps7
set_option linter.unusedVariables false
set_option linter.unusedSimpArgs false
namespace Rig
open Go
theorem splice_get {α : Type} {l news : List α} {p : Nat} (h : p + news.length ≤ l.length) (q : Nat) : (l.take p ++ news ++ l.drop (p + news.length))[q]? = if p ≤ q ∧ q < p + news.length then news[q - p]? else l[q]? := by
  have htl : (l.take p).length = p := by simp; omega
  by_cases h1 : q < p
  · rw [List.append_assoc, List.getElem?_append_left (by rw [htl]; exact h1), List.getElem?_take_of_lt h1, if_neg (by omega)]
  · rw [List.append_assoc, List.getElem?_append_right (by rw [htl]; omega), htl]
    by_cases h2 : q < p + news.length
    · rw [List.getElem?_append_left (by omega), if_pos (by omega)]
    · rw [List.getElem?_append_right (by omega), if_neg (by omega), List.getElem?_drop]
      congr 1
      omega
theorem All2.set {α β : Type} {R : α → β → Prop} {xs : List α} {ys : List β} (h : All2 R xs ys) : ∀ (i : Nat) {x : α} {y : β}, R x y → All2 R (xs.set i x) (ys.set i y) := by
  induction h with
  | nil => intro i x y hxy; exact .nil
  | cons h ht ih => intro i x y hxy; cases i with
    | zero => exact .cons hxy ht
    | succ i => exact .cons h (ih i hxy)
section
variable {P : Program} {w0 w w' : World} {F0 : Own} {s s' : St} {m m' : Nat → Loc} {ok ok' : Nat → Prop} {a : Act} {o : Oper} {next : Act → World → Prop} {Q : Exit → Act → World → Prop}
variable {Θ : Tab} {Γ : Env} {ρ : Type} {k : V → St → Option ρ} {r : ρ}

theorem All2.splice {α β : Type} {R : α → β → Prop} {xs ns : List α} {ys ms : List β} (h : All2 R xs ys) (hn : All2 R ns ms) (c : Nat) : All2 R (xs.take c ++ ns ++ xs.drop (c + ns.length)) (ys.take c ++ ms ++ ys.drop (c + ms.length)) := by

  rw [hn.length]
  exact ((h.take c).append hn).append (h.drop _)

theorem wp_skip_store {t : TypeId} {x y : Operand} (ho : o.op = .store t x y) {ad : Addr} (hx : a.eval x = .pointer (some ad)) (h : (storeVar t ad (a.eval y)).run P w = .ok () w') (hn : next (a.put o.dst undef) w') : o.wp P a w next Q :=
  wp_none (w' := w') (by simp [Go.execOp, ho, hx, Instr.storeAt, Instr.sureAddr, h]) hn

theorem ev_store {t : TypeId} {x y : Operand} (hΘ : TabOk P Θ) (ho : o.op = .store t x y) (R : Rel w0 F0 s m ok a w) (h : evOp Θ Γ (.store t x y) s k = some r)
    {q : Bool} (hq : q = false) (L : Leads w0 F0 s m ok a w q k r (fun v w' => next (a.put o.dst v) w')) : o.wp P a w next Q := by
  have hx := R.eval x
  have hy := R.eval y
  simp only [evOp] at h
  split at h
  case h_2 => cases h
  rename_i ti hti
  have ht := hΘ t ti hti
  split at h
  case h_2 => cases h
  rename_i h1 hn
  have hn : (eval s y).cells.length = ti.cells.length := by
    have := Nat.eq_of_beq_eq_true hn
    simpa [llen_eq] using this
  have hA := VR.cells hy h1
  have hone := hA.ones h1
  have hsz : (a.eval y).cells.size = ti.cells.length := by rw [← hn, hA.length]; simp
  generalize hnews : (a.eval y).cells.toList = news at hA hone
  have hnl : news.length = ti.cells.length := by rw [← hnews]; simpa using hsz
  split at h
  · -- a variable
    rename_i ob c hp
    rw [hp] at hx
    obtain ⟨hlt, ad, had, hv⟩ := hx
    split at h
    case h_2 => cases h
    rename_i cs hob
    split at h
    case h_2 => cases h
    rename_i hf
    have hf := fits_le hf
    rw [V.forces_eq, setRange_eq] at h
    have hor := R.objs ob
    rw [hob] at hor
    obtain ⟨b, vs, ty, fr, he, hh, hcl, ha⟩ := hor
    rw [had] at he
    cases he
    have hex : ex s m ob b := ⟨by rw [had]; rfl, by rw [hob]; trivial⟩
    have hvl : cs.length = vs.size := by rw [ha.length]; simp
    rw [llen_eq] at hf
    have hst := run_storeVar_clean (w := w) ht b c ty fr vs hh hcl (a.eval y) hsz (by omega) (by rw [hnews]; exact hone)
    rw [hnews] at hst
    generalize hnew : (vs.toList.take c ++ news ++ vs.toList.drop (c + (a.eval y).cells.size)).toArray = new at hst
    refine wp_skip_store ho hv (by simpa using hst) ?_
    have hns : new.size = vs.size := by rw [← hnew]; simp; omega
    have R' : Rel w0 F0 (s.setObj ob (.box (cs.take c ++ (eval s y).cells ++ cs.drop (c + (eval s y).cells.length)))) m ok a (w.setRow b new) := by
      refine ((R.write ob b hex new).revive ob hlt (by rw [St.obj_setObj, if_pos rfl]) (.box (cs.take c ++ (eval s y).cells ++ cs.drop (c + (eval s y).cells.length))) (m ob) rfl ⟨b, new, ty, fr, had, setRow_heap w b vs new ty fr hh, fun j hj => hcl j (by rw [← hns]; exact hj), ?_⟩ (fun b' hb' _ => ?_)).same rfl rfl rfl (fun j => ?_)
      · have keep : ∀ v u, VR1 w ok m s.n v u → VR1 (w.setRow b new) ok m s.n v u := fun v u hvu => hvu.keep (fun b' hb' => setRow_other w b b' new (fun e => (R.exok ob b hex).1 (e ▸ hb'))) (fun _ h => h) (Nat.le_refl _) (fun _ _ => rfl)
        have := (((ha.take c).append hA).append (ha.drop (c + (eval s y).cells.length))).imp keep
        have e : new.toList = vs.toList.take c ++ news ++ vs.toList.drop (c + (eval s y).cells.length) := by rw [← hnew, hsz, ← hn]
        rw [e]
        exact this
      · have : b = b' := by rw [had] at hb'; simpa using hb'
        subst this
        exact ⟨(R.exok ob b hex).1, (R.exok ob b hex).2, R.nex hex new⟩
      · simp only [St.obj_setObj]
        by_cases hj : ob = j <;> simp [hj]
    exact L undef .undef _ m ok _ R' rfl rfl (Nat.le_refl _) (fun _ h => h) (fun _ _ => rfl) (fun h => by rw [hq] at h; cases h) trivial h
  · -- an element
    rename_i ob i c hp
    rw [hp] at hx
    obtain ⟨hlt, ad, had, h0, hi1, hv⟩ := hx
    split at h
    case h_2 => cases h
    rename_i row l hob
    split at h
    case h_2 => cases h
    rename_i hf
    have hf := fits_le hf
    rw [llen_eq] at hf
    split at h
    case h_2 => cases h
    rename_i z s2 htk
    have hor := R.objs ob
    rw [hob] at hor
    obtain ⟨hlen, hcap, hlsz, hor⟩ := hor
    rw [had] at hor
    obtain ⟨hra, _, cur, ty, fr, hh, hcl, hle⟩ := hor
    obtain ⟨b, off, sp⟩ := ad
    have hs : sp = none := hra.1
    subst hs
    simp only at hh hle hv
    have hex : ex s m ob b := ⟨by rw [had]; rfl, by rw [hob]; trivial⟩
    have hrp : 0 < row.length := by have := ht.pos.2; omega
    obtain ⟨rows, hrows, hcells⟩ := RowsAt.rows hrp hra
    have hil : i.toNat < l.length := by rw [← hlen]; omega
    obtain ⟨old, hold, holdR⟩ := hrows.get (getq_dget row l i h0 (by rw [dlen_eq]; omega))
    have hil2 : i.toNat < (m ob).cap := by omega
    have hrow_le : (i.toNat + 1) * row.length ≤ (m ob).cap * row.length := Nat.mul_le_mul_right _ hil2
    rw [Nat.add_mul, Nat.one_mul] at hrow_le
    rw [hlsz] at hle hv
    have hst := run_storeVar_clean (w := w) ht b (off + (i.toNat * row.length + c)) ty fr cur hh hcl (a.eval y) hsz (by omega) (by rw [hnews]; exact hone)
    rw [hnews] at hst
    have hsz' : (a.eval y).cells.size = news.length := by rw [hsz, hnl]
    rw [hsz'] at hst
    generalize hnew : (cur.toList.take (off + (i.toNat * row.length + c)) ++ news ++ cur.toList.drop (off + (i.toNat * row.length + c) + news.length)).toArray = new at hst
    refine wp_skip_store ho hv (by simpa using hst) ?_
    have hdset : dset l i z = l.set i.toNat z := rfl
    generalize hI : i.toNat = I at *
    generalize hC : dget row l i = D at *
    clear hI
    have hns : new.size = cur.size := by rw [← hnew]; simp; omega
    have hheap := setRow_heap w b cur new ty fr hh
    have R1 : Rel w0 F0 (s.setObj ob .dead) m ok a w := R.setObj ob .dead (fun _ => rfl) trivial (fun b h => by
      have := h.2
      rw [St.obj_setObj, if_pos rfl] at this
      exact this.elim)
    -- the element's cells as values
    have hofr : All2 (VR1 w ok m s.n) (V.ofRow row D) old := by
      obtain ⟨cs, hl1, hc1, ha1⟩ := rdRow_cells m s.n row _ _ holdR.2
      have : cs = old := List.ext_getElem? fun j => by
        by_cases hj : j < row.length
        · have h1 : cs[j]? = some (cs[j]'(by omega)) := List.getElem?_eq_getElem _
          rw [h1, hc1 j _ h1]
        · rw [List.getElem?_eq_none (by omega), List.getElem?_eq_none (by have := holdR.1; omega)]
      rw [← this]; exact ha1
    have hus : All2 (VR1 w ok m s.n) (setRange (V.ofRow row D) c (eval s y).cells) (old.take c ++ news ++ old.drop (c + news.length)) := by
      rw [setRange_eq]
      exact hofr.splice hA c
    obtain ⟨ok', R2, T, hrow⟩ := rowtake_one R1 htk hus
    generalize hus' : old.take c ++ news ++ old.drop (c + news.length) = us at hrow
    have hokb : ∀ b', ok' b' → b' ≠ b := fun b' hb' e => by
      subst e
      rcases T.okp b' hb' with h | ⟨j, h⟩
      · exact (R.exok ob b' hex).1 h
      · exact R.nex hex new j h
    have hlt2 : ob < s2.n := by rw [T.n]; exact hlt
    have hd2 : s2.obj ob = .dead := T.dead ob (by rw [St.obj_setObj, if_pos rfl])
    have hnex : ∀ j, ¬ ex s2 m j b := fun j h => R.nex hex new j (T.exm j b h)
    have R3 : Rel w0 F0 s2 m ok' a (w.setRow b new) := by
      refine R2.world (fun b' hb' => setRow_other w b b' new (hokb b' hb')) (fun j b' hd hb' => setRow_other w b b' new (fun e => ?_)) (R.grew.trans (Grew.setRow (fun j => j = b) w b new rfl) (fun j hj hjb => ?_)) (by simp [World.setRow])
      · subst e
        rcases OR.block_cases R2 hd hb' with h | h
        · exact hnex j h
        · exact hokb b' h rfl
      · subst hjb
        exact (R.exok ob j hex).2.resolve_left (by omega)
    have R4 : Rel w0 F0 (s2.setObj ob (.arr row (dset l i z) false)) m ok' a (w.setRow b new) := by
      refine R3.revive ob hlt2 hd2 (.arr row (dset l i z) false) (m ob) rfl ?_ (fun b' hb' _ => ?_)
      · refine ⟨by rw [hlen, hdset, List.length_set], hcap, hlsz, ?_⟩
        rw [had, hdset]
        refine ⟨rowsAt_of hrp rfl (rows := rows.set I us) ((hrows.imp fun _ _ h => h.keep (fun b' hb' => setRow_other w b b' new (fun e => (R.exok ob b hex).1 (e ▸ hb'))) T.okm).set I (hrow.keep (fun b' hb' => setRow_other w b b' new (hokb b' hb')) (fun _ h => h))) (fun j v hj => ?_), nofun, new, ty, fr, hheap, fun j hj => hcl j (by rw [← hns]; exact hj), by rw [hns, hlsz]; exact hle⟩
        simp only [World.cell?, hheap, Option.isSome_none, Bool.false_eq_true, if_false]
        rw [← hnew, List.getElem?_toArray, splice_get (by simp; omega)]
        have hsetl : ∀ u ∈ rows.set I us, u.length = row.length := fun u hu => by
          rcases List.mem_or_eq_of_mem_set hu with h | h
          · exact rows_lengths hrows u h
          · rw [h]; exact hrow.1
        rw [flatten_get hrp _ hsetl] at hj
        obtain ⟨cs, hcs, hjv⟩ := Option.bind_eq_some_iff.1 hj
        clear hj
        have hjm : j / row.length * row.length + j % row.length = j := Nat.div_add_mod' j row.length
        have hjlt : j % row.length < row.length := Nat.mod_lt _ hrp
        have hfl := flatten_get hrp rows (rows_lengths hrows) j
        generalize j / row.length = q at *
        generalize j % row.length = rr at *
        by_cases hij : I = q
        · subst hij
          rw [List.getElem?_set, if_pos rfl, if_pos (by rw [hrows.length] at hil; exact hil)] at hcs
          cases hcs
          rw [← hus', splice_get (by rw [holdR.1]; omega)] at hjv
          by_cases hin : c ≤ rr ∧ rr < c + news.length
          · rw [if_pos hin] at hjv
            rw [if_pos (by omega)]
            have : off + j - (off + (I * row.length + c)) = rr - c := by omega
            rw [this]; exact hjv
          · rw [if_neg hin] at hjv
            rw [if_neg (by omega)]
            have hj2 : rows.flatten[j]? = some v := by
              rw [hfl, hold]; exact hjv
            have := hcells j v hj2
            simp only [World.cell?, hh] at this
            simpa using this
        · rw [List.getElem?_set, if_neg hij] at hcs
          have hne : ¬ (off + (I * row.length + c) ≤ off + j ∧ off + j < off + (I * row.length + c) + news.length) := by
            rcases Nat.lt_or_gt_of_ne hij with h | h
            · have : (I + 1) * row.length ≤ q * row.length := Nat.mul_le_mul_right _ h
              rw [Nat.add_mul, Nat.one_mul] at this
              omega
            · have : (q + 1) * row.length ≤ I * row.length := Nat.mul_le_mul_right _ h
              rw [Nat.add_mul, Nat.one_mul] at this
              omega
          rw [if_neg hne]
          have hj2 : rows.flatten[j]? = some v := by
            rw [hfl, hcs]; exact hjv
          have := hcells j v hj2
          simp only [World.cell?, hh] at this
          simpa using this
      · have : b = b' := by rw [had] at hb'; simpa using hb'
        subst this
        exact ⟨fun h => hokb b h rfl, (R.exok ob b hex).2, hnex⟩
    exact L undef .undef _ m ok' _ R4 T.N T.tmps (Nat.le_of_eq T.n.symm) T.okm (fun _ _ => rfl) (fun h => by rw [hq] at h; cases h) trivial h
  · cases h
end
end Rig
