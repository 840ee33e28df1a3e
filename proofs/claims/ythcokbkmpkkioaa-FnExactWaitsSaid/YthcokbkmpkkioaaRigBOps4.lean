/- Part of Rig, a reflective evaluator of this project's own: a function's code, run over typed data by Lean's kernel, gives its contract. No condition. -/
import Derived.Test.YthcokbkmpkkioaaRigBCall2
import Derived.Laws.Strings
set_option linter.unusedVariables false
set_option linter.unusedSimpArgs false
namespace Rig
open Go
section
variable {P : Program} {w0 w w' : World} {F0 : Own} {s s' : St} {m m' : Nat → Loc} {ok ok' : Nat → Prop} {a : Act} {o : Oper} {next : Act → World → Prop} {Q : Exit → Act → World → Prop}
variable {Θ : Tab} {Γ : Env} {ρ : Type} {k : V → St → Option ρ} {r : ρ}

theorem isTy_at {t : Nat} {c : CK} (h : isTy Θ t c = true) : ∃ ti, Θ.at t = some ti ∧ ti.agg = false ∧ ti.cells = [c] := by
  unfold isTy at h
  split at h
  · rename_i ti e
    split at h
    · rename_i c' ha hc
      split at h
      · rename_i hb _
        exact ⟨ti, e, ha, by rw [hc, CK.eq_of_beq hb]⟩
      · cases h
    · cases h
  · cases h
theorem isTy_elem {t : Nat} {c : CK} {ti : TyI} (h : isTy Θ t c = true) (ht : Θ.at t = some ti) : ti.elem = 0 := by
  unfold isTy at h
  rw [ht] at h
  simp only at h
  split at h
  · split at h
    · rename_i he; exact Nat.eq_of_beq_eq_true he
    · cases h
  · cases h
theorem isTy_bool (hΘ : TabOk P Θ) {t : Nat} (h : isTy Θ t .bool = true) : P.underlying t = some .bool := by
  obtain ⟨ti, e, ha, hc⟩ := isTy_at h
  obtain ⟨d, hd, _, _, _, _, _, h1, _⟩ := (hΘ t ti e).desc
  rw [hd, h1 hc ha]
theorem isTy_str (hΘ : TabOk P Θ) {t : Nat} (h : isTy Θ t .str = true) : P.underlying t = some .string := by
  obtain ⟨ti, e, ha, hc⟩ := isTy_at h
  obtain ⟨d, hd, _, _, _, _, h1, _⟩ := (hΘ t ti e).desc
  rw [hd, h1 hc ha]
theorem elemOf_at (hΘ : TabOk P Θ) {t : Nat} {ei : TyI} (h : elemOf Θ t = some ei) : ∃ ti, Θ.at t = some ti ∧ P.underlying t = some (.slice ti.elem) ∧ TyOk P ti.elem ei := by
  unfold elemOf at h
  split at h
  case h_2 => cases h
  rename_i ti e
  split at h
  case h_2 => cases h
  rename_i row ha hc
  split at h
  case h_2 => cases h
  rename_i ei' he
  split at h
  case h_2 => cases h
  cases h
  obtain ⟨d, hd, _, _, _, h1, _⟩ := (hΘ t ti e).desc
  exact ⟨ti, e, by rw [hd, h1 row hc ha], hΘ _ _ he⟩

theorem VR_int {n : Nat} {kd : IntKind} {x : Int} {u : Value} (h : VR w ok m n (.int kd x) u) : u = .int kd x := h
theorem VR_str {n : Nat} {x : ByteArray} {u : Value} (h : VR w ok m n (.str x) u) : u = .string x := h
theorem asBool_some {n : Nat} {v : V} {b : Bool} {u : Value} (hv : v.asBool = some b) (h : VR w ok m n v u) : u = .bool b := by
  cases v <;> simp [V.asBool] at hv
  case bool => subst hv; exact h
  case lit => subst hv; exact h

theorem VRi {n : Nat} {kd : IntKind} {x : Int} : VR w ok m n (.int kd x) (.int kd x) := rfl
theorem VRb {n : Nat} {x : Bool} : VR w ok m n (.bool x) (.bool x) := rfl
theorem VRl {n : Nat} {x : Bool} : VR w ok m n (.lit x) (.bool x) := rfl
theorem VRs {n : Nat} {x : ByteArray} : VR w ok m n (.str x) (.string x) := rfl
theorem evBin_ok {tb : Bool} {op : BinOp} {x y : V} {u v : Value} {t : TypeId} {n : Nat} (htb : tb = true → P.underlying t = some .bool) (hx : VR w ok m n x u) (hy : VR w ok m n y v) (h : evBin tb op x y s k = some r) :
    ∃ V val, (∀ w, (binOp op t u v).run P w = .ok val w) ∧ VR w ok m n V val ∧ k V s = some r ∧ ∀ X Y, eqGuard op t X Y u v = pure () := by
  unfold evBin at h
  split at h
  · rename_i kx xa ky yb
    have e1 := VR_int hx
    have e2 := VR_int hy
    subst e1
    subst e2
    have hg : ∀ X Y, eqGuard op t X Y (.int kx xa) (.int ky yb) = pure () := fun X Y => eqGuard_at_int op t X Y _ kx xa
    split at h
    · obtain ⟨hb, h⟩ := dif_none_left h
      refine ⟨_, _, fun w => ?_, VRi, h, hg⟩
      have := ilt_false hb
      simp [binOp, Op.shift, this, ishl]
    · obtain ⟨hb, h⟩ := dif_none_left h
      refine ⟨_, _, fun w => ?_, VRi, h, hg⟩
      have := ilt_false hb
      simp [binOp, Op.shift, this, ishr]
    · split at h
      · cases h
      rename_i hk
      have := ikb_eq hk
      subst this
      split at h
      · exact ⟨_, _, fun w => by rw [binOp_and]; rfl, VRi, h, hg⟩
      · exact ⟨_, _, fun w => by rw [binOp_xor]; rfl, VRi, h, hg⟩
      · exact ⟨_, _, fun w => by rw [binOp_or]; rfl, VRi, h, hg⟩
      · exact ⟨_, _, fun w => by rw [binOp_add]; rfl, VRi, h, hg⟩
      · exact ⟨_, _, fun w => by rw [binOp_sub]; rfl, VRi, h, hg⟩
      · exact ⟨_, _, fun w => by rw [binOp_mul]; rfl, VRi, h, hg⟩
      · exact ⟨_, _, fun w => by rw [binOp_eql]; rfl, VRb, h, hg⟩
      · exact ⟨_, _, fun w => by rw [binOp_neq]; rfl, VRb, h, hg⟩
      · exact ⟨_, _, fun w => by rw [binOp_lss]; rfl, VRb, h, hg⟩
      · exact ⟨_, _, fun w => by rw [binOp_leq]; rfl, VRb, h, hg⟩
      · exact ⟨_, _, fun w => by rw [binOp_gtr]; rfl, VRb, h, hg⟩
      · exact ⟨_, _, fun w => by rw [binOp_geq]; rfl, VRb, h, hg⟩
      · obtain ⟨hb, h⟩ := dif_none_left h
        refine ⟨_, _, fun w => ?_, VRi, h, hg⟩
        rw [binOp_quo]
        simp [Op.intDiv, ieq_false hb, iquo]
      · obtain ⟨hb, h⟩ := dif_none_left h
        refine ⟨_, _, fun w => ?_, VRi, h, hg⟩
        rw [binOp_rem]
        simp [Op.intDiv, ieq_false hb, irem]
      · cases h
  · rename_i xa yb
    have e1 := VR_str hx
    have e2 := VR_str hy
    subst e1
    subst e2
    have hg : ∀ X Y, eqGuard op t X Y (.string xa) (.string yb) = pure () := fun X Y => eqGuard_at_string op t X Y _ xa
    split at h
    · exact ⟨_, _, fun w => by simp [binOp, Op.stringOp, deqs], VRb, h, hg⟩
    · exact ⟨_, _, fun w => by simp [binOp, Op.stringOp, dnes], VRb, h, hg⟩
    · obtain ⟨hb, h⟩ := dif_none_right h
      refine ⟨_, _, fun w => ?_, VRs, h, hg⟩
      have hb' := of_decide_eq_true hb
      have : ¬ (9223372036854775807 : Int) < ((xa.size : Int) + (yb.size : Int)) := by omega
      simp [binOp, Op.stringOp, dcat, this]
    · cases h
  · split at h
    · rename_i b1 b2 e1 e2
      have e1 := asBool_some e1 hx
      have e2 := asBool_some e2 hy
      subst e1
      subst e2
      have ht := htb rfl
      have hg : ∀ X Y, eqGuard op t X Y (.bool b1) (.bool b2) = pure () := fun X Y => eqGuard_at_bool op t X Y _ b1
      split at h
      · exact ⟨_, _, fun w => by simp [binOp, run_equal_bool w t b1 b2 ht, deqb], VRb, h, hg⟩
      · exact ⟨_, _, fun w => by simp [binOp, run_equal_bool w t b1 b2 ht, dneb, bne], VRb, h, hg⟩
      · cases h
    · cases h

theorem ev_bin {op : BinOp} {t : TypeId} {x y : Operand} {p : TypeId} (hΘ : TabOk P Θ) (ho : o.op = .binOp op t x y p) (R : Rel w0 F0 s m ok a w) (h : evOp Θ Γ (.binOp op t x y p) s k = some r)
    : Quiet P s m ok w o a k r := by
  simp only [evOp] at h
  obtain ⟨V, val, hr, hV, hk, hg⟩ := evBin_ok (t := t) (isTy_bool hΘ) (R.eval x) (R.eval y) h
  exact ⟨_, _, fun w' _ => (by simp [Go.execOp, ho, hg, hr]), hV, hk⟩

theorem ev_un {op : UnOp} {t : TypeId} {x : Operand} (ho : o.op = .unOp op t x) (R : Rel w0 F0 s m ok a w) (h : evOp Θ Γ (.unOp op t x) s k = some r)
    : Quiet P s m ok w o a k r := by
  have hx := R.eval x
  cases op with
  | not =>
    simp only [evOp] at h
    split at h
    · rename_i b hb
      rw [hb] at hx
      have e : a.eval x = .bool b := hx
      exact ⟨_, _, fun w' _ => (by simp [Go.execOp, ho, e, Op.unary, dnot]), (VRb (x := dnot b)), h⟩
    · rename_i hb
      rw [hb] at hx
      have e : a.eval x = .bool true := hx
      exact ⟨.bool false, _, fun w' _ => (by simp [Go.execOp, ho, e, Op.unary]), VRl, h⟩
    · rename_i hb
      rw [hb] at hx
      have e : a.eval x = .bool false := hx
      exact ⟨.bool true, _, fun w' _ => (by simp [Go.execOp, ho, e, Op.unary]), VRl, h⟩
    · cases h
  | neg =>
    simp only [evOp] at h
    split at h
    · rename_i kx n hb
      rw [hb] at hx
      have e : a.eval x = .int kx n := hx
      exact ⟨_, _, fun w' _ => (by simp [Go.execOp, ho, e, Op.unary, Op.intArith, isub]), (VRi (kd := kx) (x := isub kx 0 n)), h⟩
    · cases h
  | _ => simp only [evOp] at h; cases h

theorem ev_convert {src dst : TypeId} {x : Operand} (hΘ : TabOk P Θ) (ho : o.op = .convert src dst x) (R : Rel w0 F0 s m ok a w) (h : evOp Θ Γ (.convert src dst x) s k = some r)
    : Quiet P s m ok w o a k r := by
  have hx := R.eval x
  simp only [evOp] at h
  split at h
  · rename_i ts td n kx e1 e2 e3
    rw [e3] at hx
    have e : a.eval x = .int n kx := hx
    obtain ⟨ds, hs, _⟩ := (hΘ _ _ e1).desc
    obtain ⟨dd, hd, _, _, h1, _⟩ := (hΘ _ _ e2).desc
    split at h
    · rename_i kd ha hc
      have hd' := h1 kd hc ha
      subst hd'
      exact ⟨_, _, fun w' _ => (by simp [Go.execOp, ho, e, convert, run_underlying hs, run_underlying hd, Conv.intToInt, iconv]), (VRi (kd := kd) (x := iconv kd kx)), h⟩
    · cases h
  · rename_i ts td n e1 e2 e3
    rw [e3] at hx
    have e : a.eval x = .string n := hx
    obtain ⟨ds, hs, _⟩ := (hΘ _ _ e1).desc
    obtain ⟨dd, hd, _, _, _, _, h1, _⟩ := (hΘ _ _ e2).desc
    split at h
    · rename_i ha hc
      have hd' := h1 hc ha
      subst hd'
      exact ⟨_, _, fun w' _ => (by simp [Go.execOp, ho, e, convert, run_underlying hs, run_underlying hd]), VRs, h⟩
    · cases h
  · cases h

theorem ev_extract {t : Operand} {i : Nat} (ho : o.op = .extract t i) (R : Rel w0 F0 s m ok a w) (h : evOp Θ Γ (.extract t i) s k = some r)
    : Quiet P s m ok w o a k r := by
  have hx := R.eval t
  simp only [evOp] at h
  split at h
  case h_2 => cases h
  rename_i vs hvs
  split at h
  case h_2 => cases h
  rename_i v hv
  rw [hvs] at hx
  obtain ⟨cs, e, hA⟩ := hx
  rw [lget?_eq] at hv
  obtain ⟨u, hu, hVR⟩ := hA.get hv
  exact ⟨u, _, fun w' _ => (by simp [Go.execOp, ho, e, Instr.extract, hu]), (VR_of_a hVR), h⟩

theorem ev_index {t : TypeId} {x i : Operand} (hΘ : TabOk P Θ) (ho : o.op = .index t x i) (R : Rel w0 F0 s m ok a w) (h : evOp Θ Γ (.index t x i) s k = some r)
    : Quiet P s m ok w o a k r := by
  have hx := R.eval x
  have hi := R.eval i
  simp only [evOp] at h
  split at h
  case h_2 => cases h
  rename_i b kn n ht e1 e2
  rw [e1] at hx
  rw [e2] at hi
  have hx := VR_str hx
  have hi := VR_int hi
  obtain ⟨h0, h⟩ := dif_none_right h
  obtain ⟨h1, h⟩ := dif_none_right h
  have h0 := ile_true h0
  have h1 := ilt_true h1
  unfold dsize at h1
  have hlt : n.toNat < b.size := by omega
  refine ⟨.int .u8 (dbyte b n), _, fun w' _ => (by simp [Go.execOp, ho, hx, hi, run_index_string w' t b kn n (isTy_str hΘ ht), h0, h1, dbyte, hlt]), VRi, h⟩

theorem run_field {t : TypeId} {ti : TyI} {x : Operand} {f off size b c : Nat} (ht : TyOk P t ti) (hf : ti.flds[f]? = some (off, size)) (hagg : ti.agg = true) (hz : Nat.beq size 0 = false)
    (ho : o.op = .fieldAddr t x f) (he : a.eval x = .pointer (some ⟨b, c, none⟩)) : (Go.execOp a.eval o).run P w = .ok (.value (.pointer (some ⟨b, c + off, none⟩))) w := by
  obtain ⟨d, hd, ha, h1, _, _, _, _, h7, h8⟩ := ht.desc
  obtain ⟨fs, efs, hfs⟩ := h7 hagg
  subst efs
  obtain ⟨fd, hfd, hfx⟩ := mapM_get hfs hf
  rw [Array.getElem?_toList] at hfd
  obtain ⟨i, hi, hfx⟩ := Option.map_eq_some_iff.1 hfx
  have hoff : fd.offset = off := congrArg Prod.fst hfx
  have hsz : i.size = size := congrArg Prod.snd hfx
  have hz' : ¬ size = 0 := fun e => by subst e; cases hz
  simp [Go.execOp, ho, he, Instr.fieldAt, run_underlying hd, hfd, Instr.sureAddr, fieldPlace, Go.sizeOf, typeInfo, hi, hsz, hz', hoff, add_none]

theorem ev_field {t : TypeId} {x : Operand} {f : Nat} (hΘ : TabOk P Θ) (ho : o.op = .fieldAddr t x f) (R : Rel w0 F0 s m ok a w) (h : evOp Θ Γ (.fieldAddr t x f) s k = some r)
    : Quiet P s m ok w o a k r := by
  have hx := R.eval x
  simp only [evOp] at h
  split at h
  case h_2 => cases h
  rename_i ti hti
  split at h
  case h_2 => cases h
  rename_i off size hf
  rw [lget?_eq] at hf
  have ht := hΘ t ti hti
  split at h
  · rename_i ob c hagg hz hp
    rw [hp] at hx
    obtain ⟨hlt, ad, had, hv⟩ := hx
    exact ⟨_, .ptr ob (c + off), fun w' _ => (run_field ht hf hagg hz ho hv), ⟨hlt, ad, had, by rw [← Nat.add_assoc]⟩, h⟩
  · rename_i row l i c hagg hz hp
    rw [hp] at hx
    obtain ⟨ad, hra, hok, h0, h1, hv⟩ := hx
    exact ⟨_, .rp row l i (c + off), fun w' _ => (run_field ht hf hagg hz ho hv), ⟨ad, hra, hok, h0, h1, by simp [Nat.add_assoc]⟩, h⟩
  · rename_i ob i c hagg hz hp
    rw [hp] at hx
    obtain ⟨hlt, ad, had, h0, h1, hv⟩ := hx
    exact ⟨_, .op ob i (c + off), fun w' _ => (run_field ht hf hagg hz ho hv), ⟨hlt, ad, had, h0, h1, by simp [Nat.add_assoc]⟩, h⟩
  · cases h
end
end Rig
