/- Part of Rig, a reflective evaluator of this project's own: a function's code, run over typed data by Lean's kernel, gives its contract. No condition. -/
import Derived.Test.YthcokbkmpkkioaaRigBRows
import Derived.Great.BuildSlice
import Derived.Laws.Slices
set_option linter.unusedVariables false
set_option linter.unusedSimpArgs false
namespace Rig
open Go
section
variable {P : Program} {w0 w w' : World} {F0 : Own} {s s' : St} {m m' : Nat → Loc} {ok ok' : Nat → Prop} {a : Act} {o : Oper} {next : Act → World → Prop} {Q : Exit → Act → World → Prop}
variable {Θ : Tab} {Γ : Env} {ρ : Type} {k : V → St → Option ρ} {r : ρ}

theorem droom_true {x y : Int} {b : Nat} (h : droom x y b = true) : (x + y) * (b : Int) ≤ 140737488355328 := by
  unfold droom at h
  rw [stuck_eq] at h
  exact of_decide_eq_true h
theorem room_le {x : Int} {b : Nat} (hb : 1 ≤ b) (h0 : 0 ≤ x) (h : x * (b : Int) ≤ 140737488355328) : x ≤ 140737488355328 := by
  have : x * 1 ≤ x * (b : Int) := Int.mul_le_mul_of_nonneg_left (by omega) h0
  omega

/-- a new row in a new block -/
theorem leads_row (R : Rel w0 F0 s m ok a w) (hg : Grew (fun _ => False) w w') {row : List CK} {l : List (Row row)} {rows : List (List Value)} (hr : 0 < row.length) {cells : Array Value} {e : TypeId} (hh : w'.heap[w.heap.size]? = some (.cells cells e (0, 0))) {cap : Nat}
    (hA : All2 (RowCells w ok row) l rows) (hc : ∀ (j : Nat) (v : Value), rows.flatten[j]? = some v → cells[j]? = some v) (hcap : l.length ≤ cap) (hsz : cap * row.length ≤ cells.size)
    (h : k (.own s.n) (s.new (.arr row l false)) = some r) {nx : Value → World → Prop} {q : Bool} (L : Leads w0 F0 s m ok a w q k r nx) : nx (.slice (some ⟨w.heap.size, 0, none⟩) l.length cap) w' := by
  refine L _ (.own s.n) (s.new (.arr row l false)) (upd m s.n ⟨some ⟨w.heap.size, 0, none⟩, l.length, cap, row.length⟩) ok _ (R.newBlock hg _ _ (fun b hb => by simpa using hb.symm) ?_) rfl rfl (Nat.le_succ _) (fun _ h => h) (fun o ho => upd_ne m _ (by omega)) (fun _ => ⟨R.stay hg, fun o cs ho => new_keep R ho⟩)
    ⟨Nat.lt_succ_self _, by rw [upd_same]⟩ h
  refine ⟨rfl, hcap, rfl, rowsAt_of hr rfl (hA.imp fun _ _ h => h.keep (fun b hb => hg.block b (R.okold b hb) (fun h => h)) (fun _ h => h)) (fun k v hk => ?_), nofun, cells, e, (0, 0), hh, Clean.zero _, by simpa using hsz⟩
  simp only [World.cell?, hh, Nat.zero_add]
  exact hc k v hk

theorem zeros_flat {α : Type} (n : Nat) (z : List α) (k : Nat) (v : α) (hz : 0 < z.length) (h : (List.replicate n z).flatten[k]? = some v) : z[k % z.length]? = some v := by
  rw [flatten_get hz _ (fun u hu => by rw [List.eq_of_mem_replicate hu])] at h
  obtain ⟨cs, h1, h2⟩ := Option.bind_eq_some_iff.1 h
  have := List.eq_of_mem_replicate (List.mem_of_getElem? h1)
  rw [this] at h2
  exact h2
theorem All2.replicate {α β : Type} {R : α → β → Prop} {x : α} {y : β} (h : R x y) : ∀ n, All2 R (List.replicate n x) (List.replicate n y)
  | 0 => .nil
  | n + 1 => .cons h (All2.replicate h n)

theorem ev_makeSlice {t : TypeId} {n c : Operand} (hΘ : TabOk P Θ) (ho : o.op = .makeSlice t n c) (R : Rel w0 F0 s m ok a w) (h : evOp Θ Γ (.makeSlice t n c) s k = some r)
    {q : Bool} (L : Leads w0 F0 s m ok a w q k r (fun v w' => next (a.put o.dst v) w')) : o.wp P a w next Q := by
  have hn := R.eval n
  have hc := R.eval c
  simp only [evOp] at h
  split at h
  case h_2 => cases h
  rename_i ei hei
  obtain ⟨ti, hti, ht, he⟩ := elemOf_at hΘ hei
  obtain ⟨i, z, hi, hsz, hby, hz, hcells⟩ := he.info
  obtain ⟨hp1, hp2⟩ := he.pos
  split at h
  case h_2 => cases h
  rename_i l c' e1 e2
  rw [e1] at hn
  rw [e2] at hc
  have hn := VR_int hn
  have hc := VR_int hc
  split at h
  case h_2 => cases h
  rename_i hnm
  have hcells := hcells.eq hnm
  obtain ⟨h0, h⟩ := dif_none_right h
  obtain ⟨h1, h⟩ := dif_none_right h
  obtain ⟨h2, h⟩ := dif_none_right h
  have h0 := ile_true h0
  have h1 := ile_true h1
  have h2 := droom_true h2
  rw [Int.add_zero] at h2
  have h3 := room_le hp1 (by omega) h2
  have hrun := run_make (P := P) w t ti.elem i z ht hi hz .i64 .i64 l c' h0 h1 (by rw [hby, Int.mul_comm]; omega) (by omega)
  have hlen : (dmake l (CK.zeros ei.cells)).length = l.toNat := by simp [dmake]
  have hzl : z.cells.size = ei.cells.length := by rw [← Array.length_toList, hcells]; simp
  have hzl' : (ei.cells.map CK.zeroVal).length = ei.cells.length := by simp
  have key := leads_row (w' := w.alloc (.cells (madeCells z.cells (c'.toNat * i.size)) ti.elem)) (cap := c'.toNat) R (grew_alloc _ w _) (row := ei.cells) (l := dmake l (CK.zeros ei.cells)) (rows := List.replicate l.toNat (ei.cells.map CK.zeroVal)) hp2 (heap_alloc w _)
    (All2.replicate ⟨by simp, rdRow_zeros _ hnm⟩ _) (fun k v hk => ?_) (by rw [hlen]; omega) (by rw [size_madeCells, hsz]; exact Nat.le_refl _) h L
  · rw [hlen] at key
    exact wp_val (by simp [Go.execOp, ho, hn, hc, hrun]) key
  · have hlt := (List.getElem?_eq_some_iff.1 hk).1
    rw [flatten_length (s := ei.cells.length) _ (fun u hu => by rw [List.eq_of_mem_replicate hu]; simp), List.length_replicate] at hlt
    have hk2 := zeros_flat _ _ _ _ (by rw [hzl']; exact hp2) hk
    rw [hzl'] at hk2
    have hle : l.toNat * ei.cells.length ≤ c'.toNat * ei.cells.length := Nat.mul_le_mul_right _ (by omega)
    have hlt2 : k % ei.cells.length < z.cells.size := by rw [hzl]; exact Nat.mod_lt _ hp2
    have hz' : z.cells[k % ei.cells.length]? = some v := by rw [← Array.getElem?_toList, hcells]; exact hk2
    unfold madeCells
    rw [Array.getElem?_map, Array.getElem?_range, if_pos (by rw [hsz]; omega)]
    simp only [Option.map_some, hzl]
    rw [getElem!_def, hz']

theorem takes_box {md : Nat} : ∀ {row : List CK} {s s' : St} {vs : List V} {x : Row row}, V.takes s md row vs = some (x, s') → ∀ {o : Nat} {cs : List V}, s.obj o = .box cs → s'.obj o = .box cs
  | [], s, s', vs, x, h, o, cs, ho => by
    cases vs with
    | nil =>
      have e : s = s' := congrArg Prod.snd (Option.some.inj (show some ((), s) = some (x, s') from h))
      subst e; exact ho
    | cons _ _ => exact absurd (show none = some (x, s') from h) nofun
  | [c], s, s', vs, x, h, o, cs, ho => by
    match vs with
    | [] => exact absurd (show none = some (x, s') from h) nofun
    | [v] => exact take_box (show V.take s md c v = some (x, s') from h) ho
    | _ :: _ :: _ => exact absurd (show none = some (x, s') from h) nofun
  | c :: c' :: cells, s, s', vs, x, h, o, cs, ho => by
    match vs with
    | [] => exact absurd (show none = some (x, s') from h) nofun
    | v :: vs =>
      have h' : (match V.take s md c v with
        | some (x, s) => match V.takes s md (c' :: cells) vs with
          | some (y, s) => some ((x, y), s)
          | none => none
        | none => none : Option (Row (c :: c' :: cells) × St)) = some (x, s') := h
      split at h'
      case h_2 => cases h'
      rename_i x1 s1 h1
      split at h'
      case h_2 => cases h'
      rename_i x2 s2 h2
      have e : s2 = s' := congrArg Prod.snd (Option.some.inj h')
      subst e
      exact takes_box h2 (take_box h1 ho)
theorem Leads.took {F : List Nat} {q : Bool} {nx : Value → World → Prop} (L : Leads w0 F0 s m ok a w q k r nx) (T : Took s m ok F s' ok') (hb : ∀ o cs, s.obj o = .box cs → s'.obj o = .box cs) : Leads w0 F0 s' m ok' a w q k r nx :=
  fun v V s2 m2 ok2 w2 R hN ht hn hok hl hS hV hk => L v V s2 m2 ok2 w2 R (hN.trans T.N) (ht.trans T.tmps) (by rw [← T.n]; exact hn) (fun b h => hok b (T.okm b h)) (fun o ho => hl o (by rw [T.n]; exact ho))
    (fun hq => ⟨⟨fun b h => (hS hq).1.1 b (T.okm b h), fun o b cs ho h => (hS hq).1.2 o b cs (hb o cs ho) h⟩, fun o cs ho => (hS hq).2 o cs (hb o cs ho)⟩) hV hk

theorem takes_ones {md : Nat} : ∀ {row : List CK} {s : St} {vs : List V} {x : Row row × St}, V.takes s md row vs = some x → ones vs = true
  | [], s, vs, x, h => by
    cases vs with
    | nil => rfl
    | cons _ _ => exact absurd (show none = some x from h) nofun
  | [c], s, vs, x, h => by
    match vs with
    | [] => exact absurd (show none = some x from h) nofun
    | [v] =>
      have := take_isone (show V.take s md c v = some x from h)
      simp [ones, this]
    | _ :: _ :: _ => exact absurd (show none = some x from h) nofun
  | c :: c' :: cs, s, vs, x, h => by
    match vs with
    | [] => exact absurd (show none = some x from h) nofun
    | v :: vs =>
      have h' : (match V.take s md c v with
        | some (x, s) => match V.takes s md (c' :: cs) vs with
          | some (y, s) => some ((x, y), s)
          | none => none
        | none => none : Option (Row (c :: c' :: cs) × St)) = some x := h
      split at h'
      case h_2 => cases h'
      rename_i x1 s1 h1
      split at h'
      case h_2 => cases h'
      rename_i x2 s2 h2
      simp [ones, take_isone h1, takes_ones h2]

theorem litRows_ok {row : List CK} {ev : Operand → V} {f : Operand → Value} : ∀ {parts : List (Nat × Operand)} {i : Nat} {s s' : St} {ok : Nat → Prop} {l : List (Row row)} (R : Rel w0 F0 s m ok a w) (hev : ∀ x, VR w ok m s.n (ev x) (f x)),
    litRows row ev s i parts = some (l, s') → ∃ ok', Rel w0 F0 s' m ok' a w ∧ Took s m ok [] s' ok' ∧ (∀ o cs, s.obj o = .box cs → s'.obj o = .box cs) ∧ All2 (RowCells w ok' row) l (parts.map fun p => (f p.2).cells.toList) ∧
      parts.map (fun p => (p.1, f p.2)) = ((parts.map fun p => f p.2).zipIdx i).map fun x => (x.2, x.1)
  | [], i, s, s', ok, l, R, hev, h => by
    have he := Option.some.inj (show some (([] : List (Row row)), s) = some (l, s') from h)
    have e1 : [] = l := congrArg Prod.fst he
    have e2 : s = s' := congrArg Prod.snd he
    subst e1
    subst e2
    exact ⟨ok, R, Took.refl _ _ _, fun _ _ h => h, .nil, rfl⟩
  | p :: ps, i, s, s', ok, l, R, hev, h => by
    unfold litRows at h
    split at h
    case h_2 => cases h
    rename_i hp
    split at h
    case h_2 => cases h
    rename_i x s1 h1
    split at h
    case h_2 => cases h
    rename_i l2 s2 h2
    have he := Option.some.inj h
    have e1 : x :: l2 = l := congrArg Prod.fst he
    have e2 : s2 = s' := congrArg Prod.snd he
    subst e1
    subst e2
    obtain ⟨ok1, R1, T1, hrow⟩ := rowtake_one R h1 (VR.cells (hev p.2) (takes_ones h1))
    obtain ⟨ok2, R2, T2, hbx, hrows, hz⟩ := litRows_ok R1 (fun x => T1.keepVRx (hev x)) h2
    refine ⟨ok2, R2, T1.trans T2, fun o cs ho => hbx o cs (takes_box h1 ho), .cons (hrow.keep (fun _ _ => rfl) T2.okm) hrows, ?_⟩
    have hpi : p.1 = i := Nat.eq_of_beq_eq_true hp
    simp only [List.map_cons, List.zipIdx_cons, hz, hpi]

theorem ev_buildSlice {t : TypeId} {n : Nat} {parts : Array (Nat × Operand)} (hΘ : TabOk P Θ) (ho : o.op = .buildSlice t n parts) (R : Rel w0 F0 s m ok a w) (h : evOp Θ Γ (.buildSlice t n parts) s k = some r)
    {q : Bool} (L : Leads w0 F0 s m ok a w q k r (fun v w' => next (a.put o.dst v) w')) : o.wp P a w next Q := by
  simp only [evOp] at h
  split at h
  case h_2 => cases h
  rename_i ei hei
  obtain ⟨ti, hti, ht, he⟩ := elemOf_at hΘ hei
  obtain ⟨i, z, hi, hsz, hby, hz, hcells⟩ := he.info
  obtain ⟨hp1, hp2⟩ := he.pos
  split at h
  case h_2 => cases h
  rename_i hn hsmall
  split at h
  case h_2 => cases h
  rename_i l s1 hl
  have hn : n = parts.toList.length := by rw [← llen_eq]; exact Nat.eq_of_beq_eq_true hn
  have hsmall : n * ei.cells.length ≤ 16777216 := by
    have := Nat.le_of_ble_eq_true hsmall
    rw [llen_eq] at this
    exact this
  obtain ⟨ok1, R1, T1, hbx, hrows, hz2⟩ := litRows_ok (f := a.eval) R (fun x => R.eval x) hl
  have hll : l.length = n := by rw [hrows.length, List.length_map, hn]
  have hlens := rows_lengths hrows
  have hfl : ((parts.toList.map fun p => (a.eval p.2).cells.toList).flatten).length = n * ei.cells.length := by
    rw [flatten_length _ hlens, List.length_map, hn]
  have hrun : (Instr.buildSlice t n (parts.map fun p => (p.1, a.eval p.2))).run P w = .ok (.slice (some ⟨w.heap.size, 0, none⟩) n n) (w.alloc (.cells ((parts.toList.map fun p => (a.eval p.2).cells.toList).flatten).toArray ti.elem)) := by
    by_cases h0 : n = 0
    · subst h0
      have hpn : parts.toList = [] := List.length_eq_zero_iff.1 hn.symm
      have hpa : parts = #[] := Array.toList_inj.1 hpn
      subst hpa
      simp [Instr.buildSlice, run_underlying ht, Go.sizeOf, typeInfo, hi, newRow, Instr.fill, Array.range_zero']
    · have hpos : ¬ n * i.size = 0 := by
        rw [hsz]
        intro e
        rcases Nat.mul_eq_zero.1 e with e | e <;> omega
      refine run_buildSlice w t ti.elem n _ _ i z ht hi hz (by rw [hsz]; omega) hpos ?_
      have e1 : (parts.map fun p => (p.1, a.eval p.2)).toList = ((parts.toList.map fun p => a.eval p.2).zipIdx 0).map fun x => (x.2, x.1) := by
        rw [Array.toList_map]; exact hz2
      rw [e1, hsz]
      have := Go.Great.fill_whole hp2 (parts.toList.map fun p => a.eval p.2) ((Array.range (n * ei.cells.length)).map (z.cells[· % z.cells.size]!)) (fun v hv => ?_) (by simp [hn])
      · rw [this, List.flatMap_def, List.map_map]
        rfl
      · obtain ⟨p, hp, e⟩ := List.mem_map.1 hv
        subst e
        have := hlens _ (List.mem_map.2 ⟨p, hp, rfl⟩)
        simpa using this
  have key := leads_row (w' := w.alloc (.cells ((parts.toList.map fun p => (a.eval p.2).cells.toList).flatten).toArray ti.elem)) (cap := n) R1 (grew_alloc _ w _) hp2 (heap_alloc w _) hrows (fun j v hv => by simpa using hv) (by omega) (by simp [hfl]) h (L.took T1 hbx)
  rw [hll] at key
  refine wp_val ?_ key
  simp [Go.execOp, ho, hrun]

theorem bound_ok (R : Rel w0 F0 s m ok a w) {d n : Int} {x : Option Operand} (h : bound s d x = some n) : (x = none ∧ n = d) ∨ ∃ y kd, x = some y ∧ a.eval y = .int kd n := by
  unfold bound at h
  split at h
  · exact .inl ⟨rfl, (Option.some.inj h).symm⟩
  · rename_i y
    split at h
    · rename_i kd n' e
      have hy := R.eval y
      rw [e] at hy
      have := Option.some.inj h
      subst this
      exact .inr ⟨y, kd, rfl, hy⟩
    · cases h

theorem run_bounds {b : Bool} {len cap : Nat} {lo hi : Option Value} {x y : Int} (hlo : (lo = none ∧ x = 0) ∨ ∃ kd, lo = some (.int kd x)) (hhi : (hi = none ∧ y = (len : Int)) ∨ ∃ kd, hi = some (.int kd y))
    (h0 : 0 ≤ x) (h1 : x ≤ y) (h2 : y ≤ (len : Int)) (h3 : len ≤ cap) : (Instr.sliceBounds b len cap lo hi none).run P w = .ok (x.toNat, y.toNat, cap) w := by
  have e1 : (y.toNat : Int) = y := by omega
  have c1 : y ≤ (cap : Int) := by omega
  rcases hhi with ⟨e, hy⟩ | ⟨kh, e⟩ <;> rcases hlo with ⟨e', hx⟩ | ⟨kl, e'⟩ <;> subst e <;> subst e'
  · subst hx
    subst hy
    simp [Instr.sliceBounds]
  · subst hy
    simp [Instr.sliceBounds, run_sliceBound w kl x len .sliceB h0 h1]
  · subst hx
    cases b <;> simp [Instr.sliceBounds, run_sliceBound w kh y cap _ (by omega) c1]
  · cases b <;> simp [Instr.sliceBounds, run_sliceBound w kh y cap _ (by omega) c1, run_sliceBound w kl x y.toNat .sliceB h0 (by omega)]

theorem rd_cut {row : List CK} {l : List (Row row)} {A : Option Addr} {n c : Nat} (h : CK.rd w ok (.slice row) l (.slice A n c)) {x y : Int} (h0 : 0 ≤ x) (h1 : x ≤ y) (h2 : y ≤ dlen l) :
    CK.rd w ok (.slice row) (dcut l x y) (.slice (if c = x.toNat then A else A.map (·.add (x.toNat * row.length))) (y.toNat - x.toNat) (c - x.toNat)) := by
  obtain ⟨A', c', e, hc, hz⟩ := h
  cases e
  rw [dlen_eq] at h2
  have hlen : (dcut l x y).length = y.toNat - x.toNat := by
    unfold dcut
    rw [List.length_take, List.length_drop]
    omega
  refine ⟨_, _, by rw [show List.length (α := CK.rowTy row) (dcut l x y) = y.toNat - x.toNat from hlen], by rw [show List.length (α := CK.rowTy row) (dcut l x y) = y.toNat - x.toNat from hlen]; have hc' : l.length ≤ c := hc; omega, ?_⟩
  rw [show List.length (α := CK.rowTy row) (dcut l x y) = y.toNat - x.toNat from hlen]
  by_cases hyx : y.toNat - x.toNat = 0
  · exact .inl hyx
  right
  have hc' : l.length ≤ c := hc
  rw [if_neg (by omega)]
  rcases hz with hz | ⟨ad, eA, hs, hok, hrd⟩
  · have hz' : l.length = 0 := hz
    omega
  subst eA
  obtain ⟨b, off, sp⟩ := ad
  simp only at hs
  subst hs
  refine ⟨⟨b, off + x.toNat * row.length, none⟩, by simp [add_none], rfl, hok, fun i z hz => ?_⟩
  have hz' : l[x.toNat + i]? = some z := by
    have : (dcut l x y)[i]? = some z := hz
    unfold dcut at this
    rw [List.getElem?_take] at this
    split at this
    · rwa [List.getElem?_drop] at this
    · cases this
  have := hrd (x.toNat + i) z hz'
  have e : ∀ j, off + ((x.toNat + i) * row.length + j) = off + x.toNat * row.length + (i * row.length + j) := fun j => by rw [Nat.add_mul]; omega
  simpa only [e] using this

theorem ev_slice {t : TypeId} {x : Operand} {lo hi : Option Operand} (hΘ : TabOk P Θ) (ho : o.op = .slice t x lo hi none) (R : Rel w0 F0 s m ok a w) (h : evOp Θ Γ (.slice t x lo hi none) s k = some r)
    {q : Bool} (L : Leads w0 F0 s m ok a w q k r (fun v w' => next (a.put o.dst v) w')) : o.wp P a w next Q := by
  have hx := R.eval x
  have hb : ∀ {d n : Int} {y : Option Operand}, bound s d y = some n → (y.map a.eval = none ∧ n = d) ∨ ∃ kd, y.map a.eval = some (.int kd n) := fun hb => by
    rcases bound_ok R hb with ⟨e, e'⟩ | ⟨y, kd, e, e'⟩
    · subst e; exact .inl ⟨rfl, e'⟩
    · subst e; exact .inr ⟨kd, by simp [e']⟩
  simp only [evOp] at h
  split at h
  · rename_i str e1
    rw [e1] at hx
    have hx := VR_str hx
    split at h
    case h_2 => cases h
    rename_i A B hty hA hB
    have ht := isTy_str hΘ hty
    obtain ⟨h0, h⟩ := dif_none_right h
    obtain ⟨h1, h⟩ := dif_none_right h
    obtain ⟨h2, h⟩ := dif_none_right h
    refine wp_val ?_ (L.stay R (VRs (x := dsub str A B)) h)
    have hrb := run_bounds (P := P) (w := w) (b := false) (len := str.size) (cap := str.size) (hb hA) (by rcases hb hB with ⟨e, e'⟩ | e'; exact .inl ⟨e, e'⟩; exact .inr e') (ile_true h0) (ile_true h1) (ile_true h2) (Nat.le_refl _)
    simp [Go.execOp, ho, hx, Instr.sliceAt, Instr.slice, run_underlying ht, hrb, dsub]
  · rename_i row l e1
    rw [e1] at hx
    split at h
    case h_2 => cases h
    rename_i ei A B hei hA hB
    obtain ⟨ti, hti, ht, he⟩ := elemOf_at hΘ hei
    split at h
    case h_2 => cases h
    rename_i hrow
    have hrow := CK.eqs_of_beqs hrow
    obtain ⟨h0, h⟩ := dif_none_right h
    obtain ⟨h1, h⟩ := dif_none_right h
    obtain ⟨h2, h⟩ := dif_none_right h
    have hrd : CK.rd w ok (.slice row) l (a.eval x) := hx
    obtain ⟨ad, c, ev, hc, _⟩ := hx
    rw [ev] at hrd
    have hcut := rd_cut hrd (ile_true h0) (ile_true h1) (ile_true h2)
    refine wp_val ?_ (L.stay (V := .ro row (dcut l A B)) R hcut h)
    have hrb := run_bounds (P := P) (w := w) (b := true) (len := l.length) (cap := c) (hb hA) (by rcases hb hB with ⟨e, e'⟩ | e'; exact .inl ⟨e, e'⟩; exact .inr e') (ile_true h0) (ile_true h1) (ile_true h2) hc
    have ev' : a.eval x = .slice ad l.length c := ev
    simp [Go.execOp, ho, ev', Instr.sliceAt, Instr.slice, run_underlying ht, hrb, run_size he w, hrow]
  · rename_i ob e1
    rw [e1] at hx
    obtain ⟨hlt, ev⟩ := hx
    split at h
    case h_2 => cases h
    rename_i row l fz hob
    split at h
    case h_2 => cases h
    rename_i ei A B hei hA hB
    obtain ⟨ti, hti, ht, he⟩ := elemOf_at hΘ hei
    split at h
    case h_2 => cases h
    rename_i hrow
    have hrow := CK.eqs_of_beqs hrow
    obtain ⟨h0, h⟩ := dif_none_right h
    obtain ⟨h1, h⟩ := dif_none_right h
    obtain ⟨h2, h⟩ := dif_none_right h
    have R' := R.freeze ob hob
    have hor := R.objs ob
    rw [hob] at hor
    have hrd := OR.rd hor (okx := fun b => ok b ∨ (m ob).addr.map (·.block) = some b) (fun _ h => .inl h) (fun _ h => .inr h)
    obtain ⟨hlen, hcap, _⟩ := hor
    have hcut := rd_cut hrd (ile_true h0) (ile_true h1) (ile_true h2)
    refine wp_val ?_ (L _ (.ro row (dcut l A B)) _ m _ w R' rfl rfl (Nat.le_refl _) (fun _ h => .inl h) (fun _ _ => rfl) (fun _ => ⟨Stay.refl _ _ _ _, fun o cs ho => by
      have hne : ob ≠ o := fun e => by subst e; rw [hob] at ho; cases ho
      rw [St.obj_setObj, if_neg hne]; exact ho⟩) hcut h)
    have hrb := run_bounds (P := P) (w := w) (b := true) (len := (m ob).len) (cap := (m ob).cap) (hb hA) (by rcases hb hB with ⟨e, e'⟩ | e'; exact .inl ⟨e, by rw [e', hlen]; rfl⟩; exact .inr e') (ile_true h0) (ile_true h1) (by rw [hlen]; exact ile_true h2) hcap
    simp [Go.execOp, ho, ev, Instr.sliceAt, Instr.slice, run_underlying ht, hrb, run_size he w, hrow]
  · cases h
end
end Rig
