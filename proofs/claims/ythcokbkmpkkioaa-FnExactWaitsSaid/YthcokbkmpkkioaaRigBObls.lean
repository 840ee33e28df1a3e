/- Part of Rig, a reflective evaluator of this project's own: a function's code, run over typed data by Lean's kernel, gives its contract. No condition. -/
import Derived.Test.YthcokbkmpkkioaaRigBTab
import Derived.Test.YthcokbkmpkkioaaRigBMono
set_option linter.unusedVariables false
set_option linter.unusedSimpArgs false
noncomputable section
namespace Rig
open Go
section
variable {ρ : Type}
structure LCtx (ρ : Type) where
  b : Code
  ke : KE ρ
  kr : KS ρ
/-- the loops of c, with what follows them -/
def loops (Θ : Tab) (Γ : Env) (Φ : LFams ρ) : Code → KS ρ → KE ρ → KS ρ → List (LCtx ρ)
  | .seq x y, kn, ke, kr => lapp (loops Θ Γ Φ x (fun n s => evC Θ Γ (Φ.at n) y (kn n) (ke n) (kr n) s) ke kr) (loops Θ Γ Φ y kn ke kr)
  | .cond _ x y, kn, ke, kr => lapp (loops Θ Γ Φ x kn ke kr) (loops Θ Γ Φ y kn ke kr)
  | .block id b, kn, ke, kr => loops Θ Γ Φ b kn (fun n j s => sel (Nat.beq j id) (kn n s) (ke n j s)) kr
  | .loop b, kn, ke, kr => ⟨b, ke, kr⟩ :: (match findF Φ (firstRegion b) with
    | some fam => loops Θ Γ Φ b (fun n s => toLoop s ⟨fam.slots, fam.f n⟩) ke kr
    | none => [])
  | _, _, _, _ => []
def parsAt (kp : Nat) (Φ : LFams ρ) (l : LCtx ρ) : Bool := match findF Φ (firstRegion l.b) with
  | some fam => parsOk kp fam.slots
  | none => true
def specAt (Φ : LFams ρ) (n : Nat) (l : LCtx ρ) : LSpec ρ := match findF Φ (firstRegion l.b) with
  | some fam => ⟨fam.slots, fam.f n⟩
  | none => ⟨[], fun _ => none⟩
def zeroAt (Φ : LFams ρ) (l : LCtx ρ) : LSpec ρ := match findF Φ (firstRegion l.b) with
  | some fam => ⟨fam.slots, fun _ => none⟩
  | none => ⟨[], fun _ => none⟩
def roundAt (N kp : Nat) (Θ : Tab) (Γ : Env) (Φ : LFams ρ) (n : Nat) (l : LCtx ρ) : LSpec ρ := match findF Φ (firstRegion l.b) with
  | some fam => ⟨fam.slots, fun x => round N kp Θ Γ (Φ.at n) l.b (fun s => toLoop s ⟨fam.slots, fam.f n⟩) (l.ke n) (l.kr n) fam.slots x⟩
  | none => ⟨[], fun _ => none⟩
theorem lmap_inj {α β : Type} {f g : α → β} : ∀ {l : List α}, lmap f l = lmap g l → ∀ x ∈ l, f x = g x
  | [], _, _, h => by cases h
  | y :: l, h, x, hx => by
    have h' : f y :: lmap f l = g y :: lmap g l := h
    injection h' with h1 h2
    rcases List.mem_cons.1 hx with rfl | hx
    · exact h1
    · exact lmap_inj h2 x hx
theorem lspec_inj {slots : Slots} {f g : slots.T → Option ρ} (h : (⟨slots, f⟩ : LSpec ρ) = ⟨slots, g⟩) : f = g := by
  injection h
theorem obl_mem {N kp : Nat} {Θ : Tab} {Γ : Env} {Φ : LFams ρ} : ∀ (c : Code) (kn : KS ρ) (ke : KE ρ) (kr : KS ρ),
    (∀ l ∈ loops Θ Γ Φ c kn ke kr, parsAt kp Φ l = true ∧ specAt Φ 0 l = zeroAt Φ l ∧ ∀ n, specAt Φ (n + 1) l = roundAt N kp Θ Γ Φ n l) → Obl N kp Θ Γ Φ c kn ke kr
  | .seq x y, kn, ke, kr, h => ⟨obl_mem x _ ke kr fun l hl => h l (by unfold loops; rw [lapp_eq]; exact List.mem_append_left _ hl), obl_mem y kn ke kr fun l hl => h l (by unfold loops; rw [lapp_eq]; exact List.mem_append_right _ hl)⟩
  | .cond c x y, kn, ke, kr, h => ⟨obl_mem x kn ke kr fun l hl => h l (by unfold loops; rw [lapp_eq]; exact List.mem_append_left _ hl), obl_mem y kn ke kr fun l hl => h l (by unfold loops; rw [lapp_eq]; exact List.mem_append_right _ hl)⟩
  | .block id b, kn, ke, kr, h => obl_mem b kn _ kr fun l hl => h l hl
  | .loop b, kn, ke, kr, h => by
    intro fam hfam
    obtain ⟨h1, h2, h3⟩ := h ⟨b, ke, kr⟩ (by unfold loops; simp)
    refine ⟨?_, ?_, ?_, obl_mem b _ ke kr fun l hl => h l (by unfold loops; rw [hfam]; exact List.mem_cons_of_mem _ hl)⟩
    · simpa only [parsAt, hfam] using h1
    · simp only [specAt, zeroAt, hfam] at h2
      exact fun x => congrFun (lspec_inj h2) x
    · intro n x
      have h3 := h3 n
      simp only [specAt, roundAt, hfam] at h3
      exact congrFun (lspec_inj h3) x
  | .skip, _, _, _, _ => trivial
  | .region _ _ _, _, _, _, _ => trivial
  | .exit _, _, _, _, _ => trivial
  | .ret, _, _, _, _ => trivial
  | .label _, _, _, _, _ => trivial
  | .goto _, _, _, _, _ => trivial
  | .rangeFunc _ _ _ _, _, _, _, _ => trivial
  | .scope _, _, _, _, _ => trivial
  | .refuse _, _, _, _, _ => trivial
/-- the loops' obligations, as equations for the kernel -/
theorem obl_of {N kp : Nat} {Θ : Tab} {Γ : Env} {Φ : LFams ρ} {c : Code} {kn : KS ρ} {ke : KE ρ} {kr : KS ρ} (h1 : lall (parsAt kp Φ) (loops Θ Γ Φ c kn ke kr) = true)
    (h2 : lmap (specAt Φ 0) (loops Θ Γ Φ c kn ke kr) = lmap (zeroAt Φ) (loops Θ Γ Φ c kn ke kr))
    (h3 : ∀ n, lmap (specAt Φ (n + 1)) (loops Θ Γ Φ c kn ke kr) = lmap (roundAt N kp Θ Γ Φ n) (loops Θ Γ Φ c kn ke kr)) : Obl N kp Θ Γ Φ c kn ke kr :=
  obl_mem c kn ke kr fun l hl => ⟨lall_mem h1 l hl, lmap_inj h2 l hl, fun n => lmap_inj (h3 n) l hl⟩

/-- the contract of a function -/
theorem fn_ok {P : Program} {f : Nat} {fn : Func} {c : Code} {sp : FSpec} {Θ : Tab} {Γ : Env} {Φ : LFams (Args.R sp.outs sp.ins.ptrs)} (hf : P.funcs[f]? = some fn) (hb : fn.body = some c) (hN : Nat.ble (llen sp.ins) fn.ntmps = true) (hΘ : TabOk P Θ) (hΓ : EnvOk P Γ) (hm : P.follows .mixedOrders = true)
    (h1 : lall (parsAt (llen sp.ins.ptrs) Φ) (loops Θ Γ Φ c (fun _ => ret Θ fn sp.ins sp.outs) (fun _ _ _ => none) (fun _ => ret Θ fn sp.ins sp.outs)) = true)
    (h2 : lmap (specAt Φ 0) (loops Θ Γ Φ c (fun _ => ret Θ fn sp.ins sp.outs) (fun _ _ _ => none) (fun _ => ret Θ fn sp.ins sp.outs)) = lmap (zeroAt Φ) (loops Θ Γ Φ c (fun _ => ret Θ fn sp.ins sp.outs) (fun _ _ _ => none) (fun _ => ret Θ fn sp.ins sp.outs)))
    (h3 : ∀ n, lmap (specAt Φ (n + 1)) (loops Θ Γ Φ c (fun _ => ret Θ fn sp.ins sp.outs) (fun _ _ _ => none) (fun _ => ret Θ fn sp.ins sp.outs)) = lmap (roundAt fn.ntmps (llen sp.ins.ptrs) Θ Γ Φ n) (loops Θ Γ Φ c (fun _ => ret Θ fn sp.ins sp.outs) (fun _ _ _ => none) (fun _ => ret Θ fn sp.ins sp.outs)))
    (hr : ∀ x y, sp.f x = some y → ∃ n, run Θ Γ fn c sp.ins sp.outs (Φ.at n) x = some y) : FnOk P f sp :=
  fnOk_of hf hb (by have := Nat.le_of_ble_eq_true hN; rwa [llen_eq] at this) hΘ hΓ hm (obl_of h1 h2 h3) hr
theorem FnOk.none {P : Program} {f : Nat} {ins outs : Args} {g : ins.T → Option (Args.R outs ins.ptrs)} (h : ∀ x, g x = .none) : FnOk P f ⟨ins, outs, g⟩ := fun w ok us x y F _ _ _ _ hy => by
  have hy : g x = some y := hy
  rw [h x] at hy
  cases hy
theorem FnOk.lim {P : Program} {f : Nat} {ins outs : Args} {g : Nat → ins.T → Option (Args.R outs ins.ptrs)} (h : ∀ k, FnOk P f ⟨ins, outs, g k⟩) : FnOk P f ⟨ins, outs, fun x => Rig.lim fun k => g k x⟩ := fun w ok us x y F h1 h2 h3 h4 hy => by
  obtain ⟨k, hk⟩ := lim_some hy
  exact h k w ok us x y F h1 h2 h3 h4 hk
end
end Rig
