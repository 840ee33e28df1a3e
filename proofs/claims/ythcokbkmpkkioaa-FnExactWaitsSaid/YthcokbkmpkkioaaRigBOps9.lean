/- Part of Rig, a reflective evaluator of this project's own: a function's code, run over typed data by Lean's kernel, gives its contract. No condition. -/
import Derived.Test.YthcokbkmpkkioaaRigBOps8
import Derived.Test.YthcokbkmpkkioaaRigBOps10
set_option linter.unusedVariables false
set_option linter.unusedSimpArgs false
namespace Rig
open Go
theorem fill_step (cells v : Array Value) (off : Nat) (h : off + v.size ≤ cells.size) :
    (v.zipIdx.foldl (fun cs (x : Value × Nat) => cs.setIfInBounds (off + x.2) x.1) cells).toList = cells.toList.take off ++ v.toList ++ cells.toList.drop (off + v.toList.length) := by
  have e : v.zipIdx.foldl (fun cs (x : Value × Nat) => cs.setIfInBounds (off + x.2) x.1) cells = (v.toList.zipIdx 0).foldl (fun cs (x : Value × Nat) => cs.setIfInBounds (off + x.2) x.1) cells := by
    rw [← Array.foldl_toList, Array.toList_zipIdx]
  rw [e]
  obtain ⟨h1, h2⟩ := Go.Great.foldl_set off v.toList 0 cells
  refine List.ext_getElem? fun k => ?_
  rw [Array.getElem?_toList, h2 k, splice_get (by simpa using h)]
  by_cases hk : off ≤ k ∧ k < off + v.toList.length
  · rw [if_pos hk, if_pos ⟨by omega, by omega, by have := hk.2; simp at this; omega⟩]
    simp
  · rw [if_neg hk, if_neg (by omega)]
    simp
section
variable {P : Program} {w0 w w' : World} {F0 : Own} {s s' : St} {m m' : Nat → Loc} {ok ok' : Nat → Prop} {a : Act} {o : Oper} {next : Act → World → Prop} {Q : Exit → Act → World → Prop}
variable {Θ : Tab} {Γ : Env} {ρ : Type} {k : V → St → Option ρ} {r : ρ}

theorem fill_ok {n : Nat} {flds : List (Nat × Nat)} {ev : Operand → V} {f : Operand → Value} (hev : ∀ x, VR w ok m n (ev x) (f x)) : ∀ {parts : List (Nat × Operand)} {cs cs' : List V} {zs : Array Value},
    fillParts flds ev parts cs = some cs' → All2 (VR1 w ok m n) cs zs.toList → (∀ (i : Nat) (p : Nat × Nat), flds[i]? = some p → p.1 + p.2 ≤ cs.length) →
    ∃ zs', Instr.fill (flds.toArray[·]?) zs (parts.map fun p => (p.1, f p.2)) = some zs' ∧ All2 (VR1 w ok m n) cs' zs'.toList
  | [], cs, cs', zs, h, hA, _ => by
    have := Option.some.inj (show some cs = some cs' from h)
    subst this
    exact ⟨zs, rfl, hA⟩
  | p :: ps, cs, cs', zs, h, hA, hb => by
    unfold fillParts at h
    split at h
    case h_2 => cases h
    rename_i off size hf
    rw [lget?_eq] at hf
    split at h
    case h_2 => cases h
    rename_i hl h1
    have hl : (ev p.2).cells.length = size := by rw [← llen_eq]; exact Nat.eq_of_beq_eq_true hl
    have hB := VR.cells (hev p.2) h1
    have hvl : (f p.2).cells.size = size := by rw [← hl, hB.length]; simp
    have hle : off + size ≤ cs.length := hb _ _ hf
    have hcl : cs.length = zs.size := by rw [hA.length]; simp
    have hst := fill_step zs (f p.2).cells off (by rw [hvl]; omega)
    generalize hnew : (f p.2).cells.zipIdx.foldl (fun cs (x : Value × Nat) => cs.setIfInBounds (off + x.2) x.1) zs = new at hst
    rw [setRange_eq] at h
    have hA2 : All2 (VR1 w ok m n) (cs.take off ++ (ev p.2).cells ++ cs.drop (off + (ev p.2).cells.length)) new.toList := by
      rw [hst]
      exact hA.splice hB off
    have hnl : (cs.take off ++ (ev p.2).cells ++ cs.drop (off + (ev p.2).cells.length)).length = cs.length := by simp; omega
    obtain ⟨zs', h3, h4⟩ := fill_ok hev h hA2 (fun i p hp => by rw [hnl]; exact hb i p hp)
    refine ⟨zs', ?_, h4⟩
    have hf' : flds.toArray[p.1]? = some (off, size) := by rw [List.getElem?_toArray]; exact hf
    simp only [List.map_cons, Instr.fill, hf', hvl]
    rw [if_neg (by simp; omega), ← h3, ← hnew]

theorem ev_build {t : TypeId} {parts : Array (Nat × Operand)} (hΘ : TabOk P Θ) (ho : o.op = .build t parts) (R : Rel w0 F0 s m ok a w) (h : evOp Θ Γ (.build t parts) s k = some r)
    : Quiet P s m ok w o a k r := by
  simp only [evOp] at h
  split at h
  case h_2 => cases h
  rename_i ti hti
  have ht := hΘ t ti hti
  split at h
  case h_2 => cases h
  rename_i hagg
  split at h
  case h_2 => cases h
  rename_i cs hcs
  obtain ⟨d, hd, _, _, _, _, _, _, h7, h8⟩ := ht.desc
  obtain ⟨fs, efs, hfs⟩ := h7 hagg
  subst efs
  obtain ⟨i, z, hi, hsz, hby, hz, hcells⟩ := ht.info
  have hzc : (V.zeroCells ti.cells).length = ti.cells.length := zeroVs_len _
  obtain ⟨zs', h3, h4⟩ := fill_ok (n := s.n) (fun x => R.eval x) hcs (zs := z.cells) (zeroCells_VR hcells) (fun i p hp => by rw [hzc]; exact h8 hagg i p hp)
  have hbuilt : P.built t (parts.map fun p => (p.1, a.eval p.2)).toList = some zs' := by
    unfold Program.built
    rw [hi, hd]
    simp only [hz, hfs]
    rw [Array.toList_map]
    exact h3
  refine ⟨.agg zs', .agg cs, fun w' _ => ?_, ⟨zs'.toList, rfl, h4⟩, h⟩
  have := run_build (P := P) w' t _ zs' hbuilt
  simp [Go.execOp, ho, this]

theorem ev_builtin {b : Builtin} {args : Array Operand} {ats : Array TypeId} (hΘ : TabOk P Θ) (ho : o.op = .call { callee := .builtin b, args := args, argTypes := ats }) (R : Rel w0 F0 s m ok a w)
    (h : evBuiltin Θ b (lmap (eval s) args.toList) ats.toList s k = some r) {q : Bool} (L : Leads w0 F0 s m ok a w q k r (fun v w' => next (a.put o.dst v) w')) : o.wp P a w next Q := by
  cases b with
  | len => exact (ev_len hΘ ho R h).wp R L
  | min => exact (ev_minmax (.inl rfl) ho R h).wp R L
  | max => exact (ev_minmax (.inr rfl) ho R h).wp R L
  | append => exact ev_append hΘ ho R h L
  | _ => exact absurd (show (none : Option ρ) = some r from h) nofun

theorem ev_op (hΘ : TabOk P Θ) (hΓ : EnvOk P Γ) (R : Rel w0 F0 s m ok a w) (h : evOp Θ Γ o.op s k = some r) {q : Bool} (hq : q = true → softOp Γ o.op = true) (L : Leads w0 F0 s m ok a w q k r (fun v w' => next (a.put o.dst v) w')) : o.wp P a w next Q := by
  have hop : ∃ p, o.op = p := ⟨_, rfl⟩
  obtain ⟨p, hop⟩ := hop
  rw [hop] at h hq
  match p, hop, h, hq with
  | .move x, hop, h, hq => exact (ev_move (.inl hop) R h).wp R L
  | .assign x, hop, h, hq => exact (ev_move (.inr hop) R h).wp R L
  | .pick c x y, hop, h, hq => exact (ev_pick hop R h).wp R L
  | .alloc t, hop, h, hq => exact ev_alloc hΘ hop R h L
  | .box t x, hop, h, hq => exact ev_box hop R h L
  | .build t parts, hop, h, hq => exact (ev_build hΘ hop R h).wp R L
  | .load t x, hop, h, hq => exact ev_load hΘ hop R h L
  | .store t x y, hop, h, hq => exact ev_store hΘ hop R h (by cases q with | false => rfl | true => cases hq rfl) L
  | .fieldAddr t x f, hop, h, hq => exact (ev_field hΘ hop R h).wp R L
  | .indexAddr t x i, hop, h, hq => exact (ev_indexAddr hΘ hop R h).wp R L
  | .index t x i, hop, h, hq => exact (ev_index hΘ hop R h).wp R L
  | .binOp op t x y t2, hop, h, hq => exact (ev_bin hΘ hop R h).wp R L
  | .unOp op t x, hop, h, hq => exact (ev_un hop R h).wp R L
  | .convert src dst x, hop, h, hq => exact (ev_convert hΘ hop R h).wp R L
  | .extract t i, hop, h, hq => exact (ev_extract hop R h).wp R L
  | .makeSlice t n c, hop, h, hq => exact ev_makeSlice hΘ hop R h L
  | .buildSlice t n parts, hop, h, hq => exact ev_buildSlice hΘ hop R h L
  | .slice t x lo hi none, hop, h, hq => exact ev_slice hΘ hop R h L
  | .call { callee := .builtin b, args, argTypes }, hop, h, hq => exact ev_builtin hΘ hop R h L
  | .call { callee := .value (.func f), args, argTypes }, hop, h, hq => exact ev_call hΓ hop R h (fun e sp hsp => by have h2 := hq e; simp only [softOp, hsp] at h2; cases e3 : sp.ins.ptrs with | nil => rfl | cons _ _ => rw [e3] at h2; cases h2) L
  | .call { callee := .invoke _ _, args, argTypes }, hop, h, hq => exact absurd (show (none : Option ρ) = some r from h) nofun
  | .call { callee := .value (.tmp t), args, argTypes }, hop, h, hq => exact ev_callTmp hΓ hop R h (by cases q with | false => rfl | true => cases hq rfl) L
  | .call { callee := .value (.const _), args, argTypes }, hop, h, hq => exact absurd (show (none : Option ρ) = some r from h) nofun
  | .call { callee := .value (.global _), args, argTypes }, hop, h, hq => exact absurd (show (none : Option ρ) = some r from h) nofun
  | .slice t x lo hi (some _), hop, h, hq => exact absurd (show (none : Option ρ) = some r from h) nofun
  | .ready _, hop, h, hq => exact absurd (show (none : Option ρ) = some r from h) nofun
  | .waits _, hop, h, hq => exact absurd (show (none : Option ρ) = some r from h) nofun
  | .nilCheck x, hop, h, hq => exact (ev_nilCheck hop R h).wp R L
  | .sliceToArrayPointer _ _, hop, h, hq => exact absurd (show (none : Option ρ) = some r from h) nofun
  | .makeInterface _ _, hop, h, hq => exact absurd (show (none : Option ρ) = some r from h) nofun
  | .makeFunc f x y, hop, h, hq => exact (ev_makeFunc hop R h).wp R L
  | .makeMap t x, hop, h, hq => exact ev_makeMap hΘ hop R h L
  | .makeChan _ _, hop, h, hq => exact absurd (show (none : Option ρ) = some r from h) nofun
  | .field _ _ _, hop, h, hq => exact absurd (show (none : Option ρ) = some r from h) nofun
  | .lookup t x i b, hop, h, hq => exact ev_lookup hΘ hop R h L
  | .mapUpdate t x i v, hop, h, hq => exact ev_update hΘ (.inl hop) R h L
  | .insert t x i v, hop, h, hq => exact ev_update (Γ := Γ) hΘ (.inr hop) R h L
  | .mapEntry _ _ _, hop, h, hq => exact absurd (show (none : Option ρ) = some r from h) nofun
  | .entryStore _ _ _ _, hop, h, hq => exact absurd (show (none : Option ρ) = some r from h) nofun
  | .range _ _, hop, h, hq => exact absurd (show (none : Option ρ) = some r from h) nofun
  | .next _ _, hop, h, hq => exact absurd (show (none : Option ρ) = some r from h) nofun
  | .entry _, hop, h, hq => exact absurd (show (none : Option ρ) = some r from h) nofun
  | .typeAssert _ _ _ _, hop, h, hq => exact absurd (show (none : Option ρ) = some r from h) nofun
  | .go _, hop, h, hq => exact absurd (show (none : Option ρ) = some r from h) nofun
  | .defer _, hop, h, hq => exact absurd (show (none : Option ρ) = some r from h) nofun
  | .panic _, hop, h, hq => exact absurd (show (none : Option ρ) = some r from h) nofun
  | .send _ _, hop, h, hq => exact absurd (show (none : Option ρ) = some r from h) nofun
  | .recv _ _ _, hop, h, hq => exact absurd (show (none : Option ρ) = some r from h) nofun
  | .select _ _, hop, h, hq => exact absurd (show (none : Option ρ) = some r from h) nofun
end
end Rig
