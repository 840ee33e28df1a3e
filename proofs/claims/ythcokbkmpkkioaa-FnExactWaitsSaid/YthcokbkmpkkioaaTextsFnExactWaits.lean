/- What each function computes, as a plain function: printed by gen.py out of what Lean's kernel makes of its code. -/
import Derived.Test.YthcokbkmpkkioaaRigBMono
set_option linter.unusedVariables false
open Go (IntKind)
noncomputable section
namespace Rig.Pure
/- loop.example/g00492/laws.szByteS -/
def z_bLu8R : Bool × (List Int) := (false, [])
def z_bbLiiiiiR : Bool × Bool × (List (Int × Int × Int × Int × Int)) := (false, false, [])
def z_i : Int := 0
def z_iLu8R : Int × (List Int) := (0, [])
def z_iiiii : Int × Int × Int × Int × Int := (0, 0, 0, 0, 0)
def z_u8 : Int := 0
def laws_szByteS : (((List Int)) × Int) → Option Int := fun (a0, a1) => dif (ilt (isub .i64 a1 (dlen a0)) (0 : Int)) (some (-1 : Int)) (some (isub .i64 a1 (dlen a0)))
/- loop.example/g00492/laws.szCell -/
def laws_szCell : ((Bool × (List Int)) × Int) → Option Int := fun (a0, a1) => dbind (laws_szByteS (a0.2, a1)) fun r => dif (ilt r (0 : Int)) (some (-1 : Int)) (some r)
/- loop.example/g00492/laws.szCellS -/
def laws_szCellS_L5 : Nat → (((List (Bool × (List Int)))) × Int × Int) → Option Int
  | 0, _ => none
  | n + 1, (a0, a1, a2) => dif (ilt a2 (dlen a0)) (dif (ile (0 : Int) a2) (dif (ilt a2 (dlen a0)) (dbind (laws_szCell (dat z_bLu8R a0 a2, a1)) fun r => dif (ilt r (0 : Int)) (some (-1 : Int)) (laws_szCellS_L5 n (a0, r, iadd .i64 a2 (1 : Int)))) none) none) (some a1)
def laws_szCellS_N (n : Nat) : (((List (Bool × (List Int)))) × Int) → Option Int := fun (a0, a1) => dif (ilt (isub .i64 a1 (dlen a0)) (0 : Int)) (some (-1 : Int)) (laws_szCellS_L5 n (a0, isub .i64 a1 (dlen a0), (0 : Int)))
def laws_szCellS : (((List (Bool × (List Int)))) × Int) → Option Int := fun x => lim fun n => laws_szCellS_N n x
theorem laws_szCellS_mono : ∀ n x, Le (laws_szCellS_L5 n x) (laws_szCellS_L5 (n + 1) x)
  | 0, _ => Le.none _
  | n + 1, x => by
    have ih := laws_szCellS_mono n
    simp only [laws_szCellS_L5]
    repeat' first | exact ih _ | apply Le.dif | (refine Le.dbind fun _ => ?_) | exact Le.refl _
theorem laws_szCellS_monoN (n : Nat) (x) : Le (laws_szCellS_N n x) (laws_szCellS_N (n + 1) x) := by
  have ih := laws_szCellS_mono n
  simp only [laws_szCellS_N]
  repeat' first | exact ih _ | apply Le.dif | (refine Le.dbind fun _ => ?_) | exact Le.refl _
theorem laws_szCellS_of {n : Nat} {x y} (h : laws_szCellS_N n x = some y) : laws_szCellS x = some y := lim_of (fun n => laws_szCellS_monoN n x) h
/- loop.example/g00492/laws.szWet -/
def laws_szWet : ((Int × (List Int)) × Int) → Option Int := fun (a0, a1) => dbind (laws_szByteS (a0.2, a1)) fun r => dif (ilt r (0 : Int)) (some (-1 : Int)) (some r)
/- loop.example/g00492/laws.szWetS -/
def laws_szWetS_L5 : Nat → (((List (Int × (List Int)))) × Int × Int) → Option Int
  | 0, _ => none
  | n + 1, (a0, a1, a2) => dif (ilt a2 (dlen a0)) (dif (ile (0 : Int) a2) (dif (ilt a2 (dlen a0)) (dbind (laws_szWet (dat z_iLu8R a0 a2, a1)) fun r => dif (ilt r (0 : Int)) (some (-1 : Int)) (laws_szWetS_L5 n (a0, r, iadd .i64 a2 (1 : Int)))) none) none) (some a1)
def laws_szWetS_N (n : Nat) : (((List (Int × (List Int)))) × Int) → Option Int := fun (a0, a1) => dif (ilt (isub .i64 a1 (dlen a0)) (0 : Int)) (some (-1 : Int)) (laws_szWetS_L5 n (a0, isub .i64 a1 (dlen a0), (0 : Int)))
def laws_szWetS : (((List (Int × (List Int)))) × Int) → Option Int := fun x => lim fun n => laws_szWetS_N n x
theorem laws_szWetS_mono : ∀ n x, Le (laws_szWetS_L5 n x) (laws_szWetS_L5 (n + 1) x)
  | 0, _ => Le.none _
  | n + 1, x => by
    have ih := laws_szWetS_mono n
    simp only [laws_szWetS_L5]
    repeat' first | exact ih _ | apply Le.dif | (refine Le.dbind fun _ => ?_) | exact Le.refl _
theorem laws_szWetS_monoN (n : Nat) (x) : Le (laws_szWetS_N n x) (laws_szWetS_N (n + 1) x) := by
  have ih := laws_szWetS_mono n
  simp only [laws_szWetS_N]
  repeat' first | exact ih _ | apply Le.dif | (refine Le.dbind fun _ => ?_) | exact Le.refl _
theorem laws_szWetS_of {n : Nat} {x y} (h : laws_szWetS_N n x = some y) : laws_szWetS x = some y := lim_of (fun n => laws_szWetS_monoN n x) h
/- loop.example/g00492/laws.szDisk -/
def laws_szDisk : (((List (Bool × (List Int))) × (List (Int × (List Int))) × Int × Bool) × Int) → Option Int := fun (a0, a1) => dbind (laws_szCellS (a0.1, a1)) fun r => dif (ilt r (0 : Int)) (some (-1 : Int)) (dbind (laws_szWetS (a0.2.1, r)) fun r => dif (ilt r (0 : Int)) (some (-1 : Int)) (some r))
/- loop.example/g00492/laws.szEntryS -/
def laws_szEntryS : (((List (Int × Int × Int × Int × Int))) × Int) → Option Int := fun (a0, a1) => dif (ilt (isub .i64 a1 (dlen a0)) (0 : Int)) (some (-1 : Int)) (some (isub .i64 a1 (dlen a0)))
/- loop.example/g00492/laws.szNode -/
def laws_szNode : ((Bool × (List (Int × Int × Int × Int × Int))) × Int) → Option Int := fun (a0, a1) => dbind (laws_szEntryS (a0.2, a1)) fun r => dif (ilt r (0 : Int)) (some (-1 : Int)) (some r)
/- loop.example/g00492/laws.szPage -/
def laws_szPage : ((Bool × Bool × (List (Int × Int × Int × Int × Int))) × Int) → Option Int := fun (a0, a1) => dbind (laws_szNode (a0.2, a1)) fun r => dif (ilt r (0 : Int)) (some (-1 : Int)) (some r)
/- loop.example/g00492/laws.szPageS -/
def laws_szPageS_L5 : Nat → (((List (Bool × Bool × (List (Int × Int × Int × Int × Int))))) × Int × Int) → Option Int
  | 0, _ => none
  | n + 1, (a0, a1, a2) => dif (ilt a2 (dlen a0)) (dif (ile (0 : Int) a2) (dif (ilt a2 (dlen a0)) (dbind (laws_szPage (dat z_bbLiiiiiR a0 a2, a1)) fun r => dif (ilt r (0 : Int)) (some (-1 : Int)) (laws_szPageS_L5 n (a0, r, iadd .i64 a2 (1 : Int)))) none) none) (some a1)
def laws_szPageS_N (n : Nat) : (((List (Bool × Bool × (List (Int × Int × Int × Int × Int))))) × Int) → Option Int := fun (a0, a1) => dif (ilt (isub .i64 a1 (dlen a0)) (0 : Int)) (some (-1 : Int)) (laws_szPageS_L5 n (a0, isub .i64 a1 (dlen a0), (0 : Int)))
def laws_szPageS : (((List (Bool × Bool × (List (Int × Int × Int × Int × Int))))) × Int) → Option Int := fun x => lim fun n => laws_szPageS_N n x
theorem laws_szPageS_mono : ∀ n x, Le (laws_szPageS_L5 n x) (laws_szPageS_L5 (n + 1) x)
  | 0, _ => Le.none _
  | n + 1, x => by
    have ih := laws_szPageS_mono n
    simp only [laws_szPageS_L5]
    repeat' first | exact ih _ | apply Le.dif | (refine Le.dbind fun _ => ?_) | exact Le.refl _
theorem laws_szPageS_monoN (n : Nat) (x) : Le (laws_szPageS_N n x) (laws_szPageS_N (n + 1) x) := by
  have ih := laws_szPageS_mono n
  simp only [laws_szPageS_N]
  repeat' first | exact ih _ | apply Le.dif | (refine Le.dbind fun _ => ?_) | exact Le.refl _
theorem laws_szPageS_of {n : Nat} {x y} (h : laws_szPageS_N n x = some y) : laws_szPageS x = some y := lim_of (fun n => laws_szPageS_monoN n x) h
/- loop.example/g00492/laws.szBook -/
def laws_szBook : ((Int × (List (Bool × Bool × (List (Int × Int × Int × Int × Int))))) × Int) → Option Int := fun (a0, a1) => dbind (laws_szPageS (a0.2, a1)) fun r => dif (ilt r (0 : Int)) (some (-1 : Int)) (some r)
/- loop.example/g00492/laws.szIntS -/
def laws_szIntS : (((List Int)) × Int) → Option Int := fun (a0, a1) => dif (ilt (isub .i64 a1 (dlen a0)) (0 : Int)) (some (-1 : Int)) (some (isub .i64 a1 (dlen a0)))
/- loop.example/g00492/laws.szItemS -/
def laws_szItemS : (((List (Int × Int × Int × Int × Int))) × Int) → Option Int := fun (a0, a1) => dif (ilt (isub .i64 a1 (dlen a0)) (0 : Int)) (some (-1 : Int)) (some (isub .i64 a1 (dlen a0)))
/- loop.example/g00492/laws.szVac -/
def laws_szVac : ((Int × (List Int) × (List (Int × Int × Int × Int × Int)) × (List (Int × Int × Int × Int × Int)) × (List (Int × Int × Int × Int × Int)) × (List Int)) × Int) → Option Int := fun (a0, a1) => dbind (laws_szIntS (a0.2.1, a1)) fun r => dif (ilt r (0 : Int)) (some (-1 : Int)) (dbind (laws_szItemS (a0.2.2.1, r)) fun r => dif (ilt r (0 : Int)) (some (-1 : Int)) (dbind (laws_szEntryS (a0.2.2.2.1, r)) fun r => dif (ilt r (0 : Int)) (some (-1 : Int)) (dbind (laws_szEntryS (a0.2.2.2.2.1, r)) fun r => dif (ilt r (0 : Int)) (some (-1 : Int)) (dbind (laws_szIntS (a0.2.2.2.2.2, r)) fun r => dif (ilt r (0 : Int)) (some (-1 : Int)) (some r)))))
/- loop.example/g00492/laws.szBase -/
def laws_szBase : (((List (Bool × (List Int))) × (List (Int × (List Int))) × Int × Bool × Int × (List (Bool × Bool × (List (Int × Int × Int × Int × Int)))) × Int × Int × Int × Int × Int × Int × (List Int) × Int × Int × (List Int) × (List (Int × Int × Int × Int × Int)) × (List (Int × Int × Int × Int × Int)) × (List (Int × Int × Int × Int × Int)) × (List Int)) × Int) → Option Int := fun (a0, a1) => dbind (laws_szDisk ((a0.1, a0.2.1, a0.2.2.1, a0.2.2.2.1), a1)) fun r => dif (ilt r (0 : Int)) (some (-1 : Int)) (dbind (laws_szBook ((a0.2.2.2.2.1, a0.2.2.2.2.2.1), r)) fun r => dif (ilt r (0 : Int)) (some (-1 : Int)) (dbind (laws_szIntS (a0.2.2.2.2.2.2.2.2.2.2.2.2.1, r)) fun r => dif (ilt r (0 : Int)) (some (-1 : Int)) (dbind (laws_szVac (a0.2.2.2.2.2.2.2.2.2.2.2.2.2.2, r)) fun r => dif (ilt r (0 : Int)) (some (-1 : Int)) (some r))))
/- loop.example/g00492/spec.l1In -/
def spec_l1In : (Int × Int × Int) → Option Bool := fun (a0, a1, a2) => dif (ile a1 a0) (some (ile a0 a2)) (some false)
/- loop.example/g00492/spec.Most -/
def spec_Most : (Int × Int) → Option Int := fun (a0, a1) => dif (ilt a0 a1) (some a1) (some a0)
/- loop.example/g00492/spec.Up -/
def spec_Up : (Int × Int) → Option Int := fun (a0, a1) => dif (ilt a0 (1 : Int)) (some (0 : Int)) (dif (ilt a1 (1 : Int)) (some (0 : Int)) (dif (ieq a1 (0 : Int)) none (dif (ilt (0 : Int) (irem a0 a1)) (dif (ieq a1 (0 : Int)) none (some (iadd .i64 (iquo .i64 a0 a1) (1 : Int)))) (dif (ieq a1 (0 : Int)) none (some (iquo .i64 a0 a1))))))
/- loop.example/g00492/spec.PagesFor -/
def spec_PagesFor_L5 : Nat → (Int × Int) → Option Int
  | 0, _ => none
  | n + 1, (a0, a1) => dif (ilt (1 : Int) a0) (dbind (spec_Up (a0, (4 : Int))) fun r => spec_PagesFor_L5 n (r, iadd .i64 a1 r)) (some a1)
def spec_PagesFor_N (n : Nat) : Int → Option Int := fun a0 => dbind (spec_l1In (a0, (0 : Int), (40 : Int))) fun r => dif (dnot r) (some (0 : Int)) (dbind (spec_Up (a0, (4 : Int))) fun r => dbind (spec_Most ((1 : Int), r)) fun r => spec_PagesFor_L5 n (r, r))
def spec_PagesFor : Int → Option Int := fun x => lim fun n => spec_PagesFor_N n x
theorem spec_PagesFor_mono : ∀ n x, Le (spec_PagesFor_L5 n x) (spec_PagesFor_L5 (n + 1) x)
  | 0, _ => Le.none _
  | n + 1, x => by
    have ih := spec_PagesFor_mono n
    simp only [spec_PagesFor_L5]
    repeat' first | exact ih _ | apply Le.dif | (refine Le.dbind fun _ => ?_) | exact Le.refl _
theorem spec_PagesFor_monoN (n : Nat) (x) : Le (spec_PagesFor_N n x) (spec_PagesFor_N (n + 1) x) := by
  have ih := spec_PagesFor_mono n
  simp only [spec_PagesFor_N]
  repeat' first | exact ih _ | apply Le.dif | (refine Le.dbind fun _ => ?_) | exact Le.refl _
theorem spec_PagesFor_of {n : Nat} {x y} (h : spec_PagesFor_N n x = some y) : spec_PagesFor x = some y := lim_of (fun n => spec_PagesFor_monoN n x) h
/- loop.example/g00492/spec.StepsFor -/
def spec_StepsFor : (Int × Int) → Option Int := fun (a0, a1) => dbind (spec_l1In (a0, (0 : Int), (40 : Int))) fun r => dif (dnot r) (some (0 : Int)) (dbind (spec_l1In (a1, (0 : Int), (48 : Int))) fun r => dif (dnot r) (some (0 : Int)) (dbind (spec_PagesFor a0) fun r => some (iadd .i64 (iadd .i64 (iadd .i64 a1 r) (48 : Int)) (4 : Int))))
/- loop.example/g00492/spec.l7Has -/
def spec_l7Has_L2 : Nat → (((List Int)) × Int × Int) → Option Bool
  | 0, _ => none
  | n + 1, (a0, a1, a2) => dif (ilt a2 (dlen a0)) (dif (ile (0 : Int) a2) (dif (ilt a2 (dlen a0)) (dif (ieq (dat z_i a0 a2) a1) (some true) (spec_l7Has_L2 n (a0, a1, iadd .i64 a2 (1 : Int)))) none) none) (some false)
def spec_l7Has_N (n : Nat) : (((List Int)) × Int) → Option Bool := fun (a0, a1) => spec_l7Has_L2 n (a0, a1, (0 : Int))
def spec_l7Has : (((List Int)) × Int) → Option Bool := fun x => lim fun n => spec_l7Has_N n x
theorem spec_l7Has_mono : ∀ n x, Le (spec_l7Has_L2 n x) (spec_l7Has_L2 (n + 1) x)
  | 0, _ => Le.none _
  | n + 1, x => by
    have ih := spec_l7Has_mono n
    simp only [spec_l7Has_L2]
    repeat' first | exact ih _ | apply Le.dif | (refine Le.dbind fun _ => ?_) | exact Le.refl _
theorem spec_l7Has_monoN (n : Nat) (x) : Le (spec_l7Has_N n x) (spec_l7Has_N (n + 1) x) := by
  have ih := spec_l7Has_mono n
  simp only [spec_l7Has_N]
  repeat' first | exact ih _ | apply Le.dif | (refine Le.dbind fun _ => ?_) | exact Le.refl _
theorem spec_l7Has_of {n : Nat} {x y} (h : spec_l7Has_N n x = some y) : spec_l7Has x = some y := lim_of (fun n => spec_l7Has_monoN n x) h
/- loop.example/g00492/spec.l7Walk -/
def spec_l7Walk_L6 (self : ((Int × (List (Bool × Bool × (List (Int × Int × Int × Int × Int))))) × Int × (List Int)) → Option ((List Int))) : Nat → (((List Int)) × (Int × (List (Bool × Bool × (List (Int × Int × Int × Int × Int))))) × (Bool × (List (Int × Int × Int × Int × Int))) × Int) → Option ((List Int))
  | 0, _ => none
  | n + 1, (a0, a1, a2, a3) => dif (ilt a3 (dlen a2.2)) (dif (dnot a2.1) (dif (ile (0 : Int) a3) (dif (ilt a3 (dlen a2.2)) (dbind (self (a1, (dat z_iiiii a2.2 a3).1, a0)) fun r => spec_l7Walk_L6 self n (r, a1, a2, iadd .i64 a3 (1 : Int))) none) none) (some a0)) (some a0)
def spec_l7Walk_N (self : ((Int × (List (Bool × Bool × (List (Int × Int × Int × Int × Int))))) × Int × (List Int)) → Option ((List Int))) (n : Nat) : ((Int × (List (Bool × Bool × (List (Int × Int × Int × Int × Int))))) × Int × (List Int)) → Option ((List Int)) := fun (a0, a1, a2) => dbind (spec_l1In (a1, (0 : Int), isub .i64 (dlen a0.2) (1 : Int))) fun r => dif (dnot r) (some a2) (dif (ile (0 : Int) a1) (dif (ilt a1 (dlen a0.2)) (dif (dnot (dat z_bbLiiiiiR a0.2 a1).1) (some a2) (dbind (spec_l7Has (a2, a1)) fun r => dif r (some a2) (dif (droom (dlen a2) (dlen (dcons a1 dnil)) 8) (dif (ile (0 : Int) a1) (dif (ilt a1 (dlen a0.2)) (spec_l7Walk_L6 self n (dapp a2 (dcons a1 dnil), a0, (dat z_bbLiiiiiR a0.2 a1).2, (0 : Int))) none) none) none))) none) none)
def spec_l7Walk_R : Nat → ((Int × (List (Bool × Bool × (List (Int × Int × Int × Int × Int))))) × Int × (List Int)) → Option ((List Int))
  | 0, _ => none
  | k + 1, x => lim fun n => spec_l7Walk_N (spec_l7Walk_R k) n x
def spec_l7Walk : ((Int × (List (Bool × Bool × (List (Int × Int × Int × Int × Int))))) × Int × (List Int)) → Option ((List Int)) := fun x => lim fun k => spec_l7Walk_R k x
theorem spec_l7Walk_mono {self self' : ((Int × (List (Bool × Bool × (List (Int × Int × Int × Int × Int))))) × Int × (List Int)) → Option ((List Int))} (h : ∀ x, Le (self x) (self' x)) : ∀ n x, Le (spec_l7Walk_L6 self n x) (spec_l7Walk_L6 self' (n + 1) x)
  | 0, _ => Le.none _
  | n + 1, x => by
    have ih := spec_l7Walk_mono h n
    simp only [spec_l7Walk_L6]
    repeat' first | exact ih _ | exact h _ | (refine Le.dbind2 (h _) fun _ => ?_) | apply Le.dif | (refine Le.dbind fun _ => ?_) | exact Le.refl _
theorem spec_l7Walk_monoN {self self' : ((Int × (List (Bool × Bool × (List (Int × Int × Int × Int × Int))))) × Int × (List Int)) → Option ((List Int))} (h : ∀ x, Le (self x) (self' x)) (n : Nat) (x) : Le (spec_l7Walk_N self n x) (spec_l7Walk_N self' (n + 1) x) := by
  have ih := spec_l7Walk_mono h n
  simp only [spec_l7Walk_N]
  repeat' first | exact ih _ | exact h _ | (refine Le.dbind2 (h _) fun _ => ?_) | apply Le.dif | (refine Le.dbind fun _ => ?_) | exact Le.refl _
theorem spec_l7Walk_monoR : ∀ k x, Le (spec_l7Walk_R k x) (spec_l7Walk_R (k + 1) x)
  | 0, _ => Le.none _
  | k + 1, x => Le.lim (fun n => spec_l7Walk_monoN (spec_l7Walk_monoR k) n x) (fun n => spec_l7Walk_monoN (fun _ => Le.refl _) n x)
theorem spec_l7Walk_of {k : Nat} {x y} (h : spec_l7Walk_R k x = some y) : spec_l7Walk x = some y := lim_of (fun k => spec_l7Walk_monoR k x) h
theorem spec_l7Walk_ofN {k n : Nat} {x y} (h : spec_l7Walk_N (spec_l7Walk_R k) n x = some y) : spec_l7Walk_R (k + 1) x = some y := lim_of (fun n => spec_l7Walk_monoN (fun _ => Le.refl _) n x) h
/- loop.example/g00492/spec.Reach -/
def spec_Reach : (Int × (List (Bool × Bool × (List (Int × Int × Int × Int × Int))))) → Option ((List Int)) := fun a0 => dbind (spec_l7Walk (a0, a0.1, dnil)) fun r => some r
/- loop.example/g00492/spec.Leaves -/
def spec_Leaves_L4 : Nat → ((Int × (List (Bool × Bool × (List (Int × Int × Int × Int × Int))))) × ((List Int)) × ((List Int)) × Int) → Option ((List Int))
  | 0, _ => none
  | n + 1, (a0, a1, a2, a3) => dif (ilt a3 (dlen a2)) (dif (ile (0 : Int) a3) (dif (ilt a3 (dlen a2)) (dif (ile (0 : Int) (dat z_i a2 a3)) (dif (ilt (dat z_i a2 a3) (dlen a0.2)) (dif (dat z_bbLiiiiiR a0.2 (dat z_i a2 a3)).2.1 (dif (ile (0 : Int) a3) (dif (ilt a3 (dlen a2)) (dif (droom (dlen a1) (dlen (dcons (dat z_i a2 a3) dnil)) 8) (spec_Leaves_L4 n (a0, dapp a1 (dcons (dat z_i a2 a3) dnil), a2, iadd .i64 a3 (1 : Int))) none) none) none) (spec_Leaves_L4 n (a0, a1, a2, iadd .i64 a3 (1 : Int)))) none) none) none) none) (some a1)
def spec_Leaves_N (n : Nat) : (Int × (List (Bool × Bool × (List (Int × Int × Int × Int × Int))))) → Option ((List Int)) := fun a0 => dbind (spec_Reach a0) fun r => spec_Leaves_L4 n (a0, dnil, r, (0 : Int))
def spec_Leaves : (Int × (List (Bool × Bool × (List (Int × Int × Int × Int × Int))))) → Option ((List Int)) := fun x => lim fun n => spec_Leaves_N n x
theorem spec_Leaves_mono : ∀ n x, Le (spec_Leaves_L4 n x) (spec_Leaves_L4 (n + 1) x)
  | 0, _ => Le.none _
  | n + 1, x => by
    have ih := spec_Leaves_mono n
    simp only [spec_Leaves_L4]
    repeat' first | exact ih _ | apply Le.dif | (refine Le.dbind fun _ => ?_) | exact Le.refl _
theorem spec_Leaves_monoN (n : Nat) (x) : Le (spec_Leaves_N n x) (spec_Leaves_N (n + 1) x) := by
  have ih := spec_Leaves_mono n
  simp only [spec_Leaves_N]
  repeat' first | exact ih _ | apply Le.dif | (refine Le.dbind fun _ => ?_) | exact Le.refl _
theorem spec_Leaves_of {n : Nat} {x y} (h : spec_Leaves_N n x = some y) : spec_Leaves x = some y := lim_of (fun n => spec_Leaves_monoN n x) h
/- loop.example/g00492/spec.ItemsOf -/
def spec_ItemsOf_L3 : Nat → ((Bool × (List (Int × Int × Int × Int × Int))) × ((List (Int × Int × Int × Int × Int))) × Int) → Option ((List (Int × Int × Int × Int × Int)))
  | 0, _ => none
  | n + 1, (a0, a1, a2) => dif (ilt a2 (dlen a0.2)) (dif a0.1 (dif (ile (0 : Int) a2) (dif (ilt a2 (dlen a0.2)) (dif (ile (0 : Int) a2) (dif (ilt a2 (dlen a0.2)) (dif (droom (dlen a1) (dlen (dcons (dat z_iiiii a0.2 a2) dnil)) 40) (spec_ItemsOf_L3 n (a0, dapp a1 (dcons (dat z_iiiii a0.2 a2) dnil), iadd .i64 a2 (1 : Int))) none) none) none) none) none) (some a1)) (some a1)
def spec_ItemsOf_N (n : Nat) : (Bool × (List (Int × Int × Int × Int × Int))) → Option ((List (Int × Int × Int × Int × Int))) := fun a0 => spec_ItemsOf_L3 n (a0, dnil, (0 : Int))
def spec_ItemsOf : (Bool × (List (Int × Int × Int × Int × Int))) → Option ((List (Int × Int × Int × Int × Int))) := fun x => lim fun n => spec_ItemsOf_N n x
theorem spec_ItemsOf_mono : ∀ n x, Le (spec_ItemsOf_L3 n x) (spec_ItemsOf_L3 (n + 1) x)
  | 0, _ => Le.none _
  | n + 1, x => by
    have ih := spec_ItemsOf_mono n
    simp only [spec_ItemsOf_L3]
    repeat' first | exact ih _ | apply Le.dif | (refine Le.dbind fun _ => ?_) | exact Le.refl _
theorem spec_ItemsOf_monoN (n : Nat) (x) : Le (spec_ItemsOf_N n x) (spec_ItemsOf_N (n + 1) x) := by
  have ih := spec_ItemsOf_mono n
  simp only [spec_ItemsOf_N]
  repeat' first | exact ih _ | apply Le.dif | (refine Le.dbind fun _ => ?_) | exact Le.refl _
theorem spec_ItemsOf_of {n : Nat} {x y} (h : spec_ItemsOf_N n x = some y) : spec_ItemsOf x = some y := lim_of (fun n => spec_ItemsOf_monoN n x) h
/- loop.example/g00492/spec.All -/
def spec_All_L4 : Nat → ((Int × (List (Bool × Bool × (List (Int × Int × Int × Int × Int))))) × ((List (Int × Int × Int × Int × Int))) × ((List Int)) × Int) → Option ((List (Int × Int × Int × Int × Int)))
  | 0, _ => none
  | n + 1, (a0, a1, a2, a3) => dif (ilt a3 (dlen a2)) (dif (ile (0 : Int) a3) (dif (ilt a3 (dlen a2)) (dif (ile (0 : Int) (dat z_i a2 a3)) (dif (ilt (dat z_i a2 a3) (dlen a0.2)) (dbind (spec_ItemsOf (dat z_bbLiiiiiR a0.2 (dat z_i a2 a3)).2) fun r => dif (droom (dlen a1) (dlen r) 40) (spec_All_L4 n (a0, dapp a1 r, a2, iadd .i64 a3 (1 : Int))) none) none) none) none) none) (some a1)
def spec_All_N (n : Nat) : (Int × (List (Bool × Bool × (List (Int × Int × Int × Int × Int))))) → Option ((List (Int × Int × Int × Int × Int))) := fun a0 => dbind (spec_Leaves a0) fun r => spec_All_L4 n (a0, dnil, r, (0 : Int))
def spec_All : (Int × (List (Bool × Bool × (List (Int × Int × Int × Int × Int))))) → Option ((List (Int × Int × Int × Int × Int))) := fun x => lim fun n => spec_All_N n x
theorem spec_All_mono : ∀ n x, Le (spec_All_L4 n x) (spec_All_L4 (n + 1) x)
  | 0, _ => Le.none _
  | n + 1, x => by
    have ih := spec_All_mono n
    simp only [spec_All_L4]
    repeat' first | exact ih _ | apply Le.dif | (refine Le.dbind fun _ => ?_) | exact Le.refl _
theorem spec_All_monoN (n : Nat) (x) : Le (spec_All_N n x) (spec_All_N (n + 1) x) := by
  have ih := spec_All_mono n
  simp only [spec_All_N]
  repeat' first | exact ih _ | apply Le.dif | (refine Le.dbind fun _ => ?_) | exact Le.refl _
theorem spec_All_of {n : Nat} {x y} (h : spec_All_N n x = some y) : spec_All x = some y := lim_of (fun n => spec_All_monoN n x) h
/- loop.example/g00492/spec.Waits -/
def spec_Waits : ((List (Bool × (List Int))) × (List (Int × (List Int))) × Int × Bool × Int × (List (Bool × Bool × (List (Int × Int × Int × Int × Int)))) × Int × Int × Int × Int × Int × Int × (List Int) × Int × Int × (List Int) × (List (Int × Int × Int × Int × Int)) × (List (Int × Int × Int × Int × Int)) × (List (Int × Int × Int × Int × Int)) × (List Int)) → Option Int := fun a0 => dbind (spec_All (a0.2.2.2.2.1, a0.2.2.2.2.2.1)) fun r => dbind (spec_StepsFor (dlen r, dlen a0.2.2.2.2.2.1)) fun r => some r
/- loop.example/g00492/laws.toByteS -/
def laws_toByteS_L3 : Nat → (((List Int)) × ((List Int)) × Int) → Option ((List Int))
  | 0, _ => none
  | n + 1, (a0, a1, a2) => dif (ilt a2 (dlen a0)) (dif (ile (0 : Int) a2) (dif (ilt a2 (dlen a0)) (dif (ile (0 : Int) a2) (dif (ilt a2 (dlen a1)) (laws_toByteS_L3 n (a0, dset a1 a2 (dat z_u8 a0 a2), iadd .i64 a2 (1 : Int))) none) none) none) none) (some a1)
def laws_toByteS_N (n : Nat) : ((List Int)) → Option ((List Int)) := fun a0 => dif (ile (0 : Int) (dlen a0)) (dif (ile (dlen a0) (dlen a0)) (dif (droom (dlen a0) (0 : Int) 1) (laws_toByteS_L3 n (a0, dmake (dlen a0) (0 : Int), (0 : Int))) none) none) none
def laws_toByteS : ((List Int)) → Option ((List Int)) := fun x => lim fun n => laws_toByteS_N n x
theorem laws_toByteS_mono : ∀ n x, Le (laws_toByteS_L3 n x) (laws_toByteS_L3 (n + 1) x)
  | 0, _ => Le.none _
  | n + 1, x => by
    have ih := laws_toByteS_mono n
    simp only [laws_toByteS_L3]
    repeat' first | exact ih _ | apply Le.dif | (refine Le.dbind fun _ => ?_) | exact Le.refl _
theorem laws_toByteS_monoN (n : Nat) (x) : Le (laws_toByteS_N n x) (laws_toByteS_N (n + 1) x) := by
  have ih := laws_toByteS_mono n
  simp only [laws_toByteS_N]
  repeat' first | exact ih _ | apply Le.dif | (refine Le.dbind fun _ => ?_) | exact Le.refl _
theorem laws_toByteS_of {n : Nat} {x y} (h : laws_toByteS_N n x = some y) : laws_toByteS x = some y := lim_of (fun n => laws_toByteS_monoN n x) h
/- loop.example/g00492/laws.toCell -/
def laws_toCell : (Bool × (List Int)) → Option (Bool × (List Int)) := fun a0 => dbind (laws_toByteS a0.2) fun r => some (a0.1, r)
/- loop.example/g00492/laws.toCellS -/
def laws_toCellS_L3 : Nat → (((List (Bool × (List Int)))) × ((List (Bool × (List Int)))) × Int) → Option ((List (Bool × (List Int))))
  | 0, _ => none
  | n + 1, (a0, a1, a2) => dif (ilt a2 (dlen a0)) (dif (ile (0 : Int) a2) (dif (ilt a2 (dlen a0)) (dbind (laws_toCell (dat z_bLu8R a0 a2)) fun r => dif (ile (0 : Int) a2) (dif (ilt a2 (dlen a1)) (laws_toCellS_L3 n (a0, dset a1 a2 r, iadd .i64 a2 (1 : Int))) none) none) none) none) (some a1)
def laws_toCellS_N (n : Nat) : ((List (Bool × (List Int)))) → Option ((List (Bool × (List Int)))) := fun a0 => dif (ile (0 : Int) (dlen a0)) (dif (ile (dlen a0) (dlen a0)) (dif (droom (dlen a0) (0 : Int) 32) (laws_toCellS_L3 n (a0, dmake (dlen a0) (false, []), (0 : Int))) none) none) none
def laws_toCellS : ((List (Bool × (List Int)))) → Option ((List (Bool × (List Int)))) := fun x => lim fun n => laws_toCellS_N n x
theorem laws_toCellS_mono : ∀ n x, Le (laws_toCellS_L3 n x) (laws_toCellS_L3 (n + 1) x)
  | 0, _ => Le.none _
  | n + 1, x => by
    have ih := laws_toCellS_mono n
    simp only [laws_toCellS_L3]
    repeat' first | exact ih _ | apply Le.dif | (refine Le.dbind fun _ => ?_) | exact Le.refl _
theorem laws_toCellS_monoN (n : Nat) (x) : Le (laws_toCellS_N n x) (laws_toCellS_N (n + 1) x) := by
  have ih := laws_toCellS_mono n
  simp only [laws_toCellS_N]
  repeat' first | exact ih _ | apply Le.dif | (refine Le.dbind fun _ => ?_) | exact Le.refl _
theorem laws_toCellS_of {n : Nat} {x y} (h : laws_toCellS_N n x = some y) : laws_toCellS x = some y := lim_of (fun n => laws_toCellS_monoN n x) h
/- loop.example/g00492/laws.toWet -/
def laws_toWet : (Int × (List Int)) → Option (Int × (List Int)) := fun a0 => dbind (laws_toByteS a0.2) fun r => some (a0.1, r)
/- loop.example/g00492/laws.toWetS -/
def laws_toWetS_L3 : Nat → (((List (Int × (List Int)))) × ((List (Int × (List Int)))) × Int) → Option ((List (Int × (List Int))))
  | 0, _ => none
  | n + 1, (a0, a1, a2) => dif (ilt a2 (dlen a0)) (dif (ile (0 : Int) a2) (dif (ilt a2 (dlen a0)) (dbind (laws_toWet (dat z_iLu8R a0 a2)) fun r => dif (ile (0 : Int) a2) (dif (ilt a2 (dlen a1)) (laws_toWetS_L3 n (a0, dset a1 a2 r, iadd .i64 a2 (1 : Int))) none) none) none) none) (some a1)
def laws_toWetS_N (n : Nat) : ((List (Int × (List Int)))) → Option ((List (Int × (List Int)))) := fun a0 => dif (ile (0 : Int) (dlen a0)) (dif (ile (dlen a0) (dlen a0)) (dif (droom (dlen a0) (0 : Int) 32) (laws_toWetS_L3 n (a0, dmake (dlen a0) ((0 : Int), []), (0 : Int))) none) none) none
def laws_toWetS : ((List (Int × (List Int)))) → Option ((List (Int × (List Int)))) := fun x => lim fun n => laws_toWetS_N n x
theorem laws_toWetS_mono : ∀ n x, Le (laws_toWetS_L3 n x) (laws_toWetS_L3 (n + 1) x)
  | 0, _ => Le.none _
  | n + 1, x => by
    have ih := laws_toWetS_mono n
    simp only [laws_toWetS_L3]
    repeat' first | exact ih _ | apply Le.dif | (refine Le.dbind fun _ => ?_) | exact Le.refl _
theorem laws_toWetS_monoN (n : Nat) (x) : Le (laws_toWetS_N n x) (laws_toWetS_N (n + 1) x) := by
  have ih := laws_toWetS_mono n
  simp only [laws_toWetS_N]
  repeat' first | exact ih _ | apply Le.dif | (refine Le.dbind fun _ => ?_) | exact Le.refl _
theorem laws_toWetS_of {n : Nat} {x y} (h : laws_toWetS_N n x = some y) : laws_toWetS x = some y := lim_of (fun n => laws_toWetS_monoN n x) h
/- loop.example/g00492/laws.toDisk -/
def laws_toDisk : ((List (Bool × (List Int))) × (List (Int × (List Int))) × Int × Bool) → Option ((List (Bool × (List Int))) × (List (Int × (List Int))) × Int × Bool) := fun a0 => dbind (laws_toCellS a0.1) fun r => dbind (laws_toWetS a0.2.1) fun r_1 => some (r, r_1, a0.2.2)
/- loop.example/g00492/laws.toBox -/
def laws_toBox : (Int × Int × Int × Int) → Option (Int × Int × Int × Int) := fun a0 => some a0
/- loop.example/g00492/laws.toEntry -/
def laws_toEntry : (Int × Int × Int × Int × Int) → Option (Int × Int × Int × Int × Int) := fun a0 => dbind (laws_toBox a0.2) fun r => some (a0.1, r)
/- loop.example/g00492/laws.toEntryS -/
def laws_toEntryS_L3 : Nat → (((List (Int × Int × Int × Int × Int))) × ((List (Int × Int × Int × Int × Int))) × Int) → Option ((List (Int × Int × Int × Int × Int)))
  | 0, _ => none
  | n + 1, (a0, a1, a2) => dif (ilt a2 (dlen a0)) (dif (ile (0 : Int) a2) (dif (ilt a2 (dlen a0)) (dbind (laws_toEntry (dat z_iiiii a0 a2)) fun r => dif (ile (0 : Int) a2) (dif (ilt a2 (dlen a1)) (laws_toEntryS_L3 n (a0, dset a1 a2 r, iadd .i64 a2 (1 : Int))) none) none) none) none) (some a1)
def laws_toEntryS_N (n : Nat) : ((List (Int × Int × Int × Int × Int))) → Option ((List (Int × Int × Int × Int × Int))) := fun a0 => dif (ile (0 : Int) (dlen a0)) (dif (ile (dlen a0) (dlen a0)) (dif (droom (dlen a0) (0 : Int) 40) (laws_toEntryS_L3 n (a0, dmake (dlen a0) ((0 : Int), (0 : Int), (0 : Int), (0 : Int), (0 : Int)), (0 : Int))) none) none) none
def laws_toEntryS : ((List (Int × Int × Int × Int × Int))) → Option ((List (Int × Int × Int × Int × Int))) := fun x => lim fun n => laws_toEntryS_N n x
theorem laws_toEntryS_mono : ∀ n x, Le (laws_toEntryS_L3 n x) (laws_toEntryS_L3 (n + 1) x)
  | 0, _ => Le.none _
  | n + 1, x => by
    have ih := laws_toEntryS_mono n
    simp only [laws_toEntryS_L3]
    repeat' first | exact ih _ | apply Le.dif | (refine Le.dbind fun _ => ?_) | exact Le.refl _
theorem laws_toEntryS_monoN (n : Nat) (x) : Le (laws_toEntryS_N n x) (laws_toEntryS_N (n + 1) x) := by
  have ih := laws_toEntryS_mono n
  simp only [laws_toEntryS_N]
  repeat' first | exact ih _ | apply Le.dif | (refine Le.dbind fun _ => ?_) | exact Le.refl _
theorem laws_toEntryS_of {n : Nat} {x y} (h : laws_toEntryS_N n x = some y) : laws_toEntryS x = some y := lim_of (fun n => laws_toEntryS_monoN n x) h
/- loop.example/g00492/laws.toNode -/
def laws_toNode : (Bool × (List (Int × Int × Int × Int × Int))) → Option (Bool × (List (Int × Int × Int × Int × Int))) := fun a0 => dbind (laws_toEntryS a0.2) fun r => some (a0.1, r)
/- loop.example/g00492/laws.toPage -/
def laws_toPage : (Bool × Bool × (List (Int × Int × Int × Int × Int))) → Option (Bool × Bool × (List (Int × Int × Int × Int × Int))) := fun a0 => dbind (laws_toNode a0.2) fun r => some (a0.1, r)
/- loop.example/g00492/laws.toPageS -/
def laws_toPageS_L3 : Nat → (((List (Bool × Bool × (List (Int × Int × Int × Int × Int))))) × ((List (Bool × Bool × (List (Int × Int × Int × Int × Int))))) × Int) → Option ((List (Bool × Bool × (List (Int × Int × Int × Int × Int)))))
  | 0, _ => none
  | n + 1, (a0, a1, a2) => dif (ilt a2 (dlen a0)) (dif (ile (0 : Int) a2) (dif (ilt a2 (dlen a0)) (dbind (laws_toPage (dat z_bbLiiiiiR a0 a2)) fun r => dif (ile (0 : Int) a2) (dif (ilt a2 (dlen a1)) (laws_toPageS_L3 n (a0, dset a1 a2 r, iadd .i64 a2 (1 : Int))) none) none) none) none) (some a1)
def laws_toPageS_N (n : Nat) : ((List (Bool × Bool × (List (Int × Int × Int × Int × Int))))) → Option ((List (Bool × Bool × (List (Int × Int × Int × Int × Int))))) := fun a0 => dif (ile (0 : Int) (dlen a0)) (dif (ile (dlen a0) (dlen a0)) (dif (droom (dlen a0) (0 : Int) 40) (laws_toPageS_L3 n (a0, dmake (dlen a0) (false, false, []), (0 : Int))) none) none) none
def laws_toPageS : ((List (Bool × Bool × (List (Int × Int × Int × Int × Int))))) → Option ((List (Bool × Bool × (List (Int × Int × Int × Int × Int))))) := fun x => lim fun n => laws_toPageS_N n x
theorem laws_toPageS_mono : ∀ n x, Le (laws_toPageS_L3 n x) (laws_toPageS_L3 (n + 1) x)
  | 0, _ => Le.none _
  | n + 1, x => by
    have ih := laws_toPageS_mono n
    simp only [laws_toPageS_L3]
    repeat' first | exact ih _ | apply Le.dif | (refine Le.dbind fun _ => ?_) | exact Le.refl _
theorem laws_toPageS_monoN (n : Nat) (x) : Le (laws_toPageS_N n x) (laws_toPageS_N (n + 1) x) := by
  have ih := laws_toPageS_mono n
  simp only [laws_toPageS_N]
  repeat' first | exact ih _ | apply Le.dif | (refine Le.dbind fun _ => ?_) | exact Le.refl _
theorem laws_toPageS_of {n : Nat} {x y} (h : laws_toPageS_N n x = some y) : laws_toPageS x = some y := lim_of (fun n => laws_toPageS_monoN n x) h
/- loop.example/g00492/laws.toBook -/
def laws_toBook : (Int × (List (Bool × Bool × (List (Int × Int × Int × Int × Int))))) → Option (Int × (List (Bool × Bool × (List (Int × Int × Int × Int × Int))))) := fun a0 => dbind (laws_toPageS a0.2) fun r => some (a0.1, r)
/- loop.example/g00492/laws.toHead -/
def laws_toHead : (Int × Int × Int × Int) → Option (Int × Int × Int × Int) := fun a0 => some a0
/- loop.example/g00492/laws.toIntS -/
def laws_toIntS_L3 : Nat → (((List Int)) × ((List Int)) × Int) → Option ((List Int))
  | 0, _ => none
  | n + 1, (a0, a1, a2) => dif (ilt a2 (dlen a0)) (dif (ile (0 : Int) a2) (dif (ilt a2 (dlen a0)) (dif (ile (0 : Int) a2) (dif (ilt a2 (dlen a1)) (laws_toIntS_L3 n (a0, dset a1 a2 (dat z_i a0 a2), iadd .i64 a2 (1 : Int))) none) none) none) none) (some a1)
def laws_toIntS_N (n : Nat) : ((List Int)) → Option ((List Int)) := fun a0 => dif (ile (0 : Int) (dlen a0)) (dif (ile (dlen a0) (dlen a0)) (dif (droom (dlen a0) (0 : Int) 8) (laws_toIntS_L3 n (a0, dmake (dlen a0) (0 : Int), (0 : Int))) none) none) none
def laws_toIntS : ((List Int)) → Option ((List Int)) := fun x => lim fun n => laws_toIntS_N n x
theorem laws_toIntS_mono : ∀ n x, Le (laws_toIntS_L3 n x) (laws_toIntS_L3 (n + 1) x)
  | 0, _ => Le.none _
  | n + 1, x => by
    have ih := laws_toIntS_mono n
    simp only [laws_toIntS_L3]
    repeat' first | exact ih _ | apply Le.dif | (refine Le.dbind fun _ => ?_) | exact Le.refl _
theorem laws_toIntS_monoN (n : Nat) (x) : Le (laws_toIntS_N n x) (laws_toIntS_N (n + 1) x) := by
  have ih := laws_toIntS_mono n
  simp only [laws_toIntS_N]
  repeat' first | exact ih _ | apply Le.dif | (refine Le.dbind fun _ => ?_) | exact Le.refl _
theorem laws_toIntS_of {n : Nat} {x y} (h : laws_toIntS_N n x = some y) : laws_toIntS x = some y := lim_of (fun n => laws_toIntS_monoN n x) h
/- loop.example/g00492/laws.toItem -/
def laws_toItem : (Int × Int × Int × Int × Int) → Option (Int × Int × Int × Int × Int) := fun a0 => dbind (laws_toBox a0.2) fun r => some (a0.1, r)
/- loop.example/g00492/laws.toItemS -/
def laws_toItemS_L3 : Nat → (((List (Int × Int × Int × Int × Int))) × ((List (Int × Int × Int × Int × Int))) × Int) → Option ((List (Int × Int × Int × Int × Int)))
  | 0, _ => none
  | n + 1, (a0, a1, a2) => dif (ilt a2 (dlen a0)) (dif (ile (0 : Int) a2) (dif (ilt a2 (dlen a0)) (dbind (laws_toItem (dat z_iiiii a0 a2)) fun r => dif (ile (0 : Int) a2) (dif (ilt a2 (dlen a1)) (laws_toItemS_L3 n (a0, dset a1 a2 r, iadd .i64 a2 (1 : Int))) none) none) none) none) (some a1)
def laws_toItemS_N (n : Nat) : ((List (Int × Int × Int × Int × Int))) → Option ((List (Int × Int × Int × Int × Int))) := fun a0 => dif (ile (0 : Int) (dlen a0)) (dif (ile (dlen a0) (dlen a0)) (dif (droom (dlen a0) (0 : Int) 40) (laws_toItemS_L3 n (a0, dmake (dlen a0) ((0 : Int), (0 : Int), (0 : Int), (0 : Int), (0 : Int)), (0 : Int))) none) none) none
def laws_toItemS : ((List (Int × Int × Int × Int × Int))) → Option ((List (Int × Int × Int × Int × Int))) := fun x => lim fun n => laws_toItemS_N n x
theorem laws_toItemS_mono : ∀ n x, Le (laws_toItemS_L3 n x) (laws_toItemS_L3 (n + 1) x)
  | 0, _ => Le.none _
  | n + 1, x => by
    have ih := laws_toItemS_mono n
    simp only [laws_toItemS_L3]
    repeat' first | exact ih _ | apply Le.dif | (refine Le.dbind fun _ => ?_) | exact Le.refl _
theorem laws_toItemS_monoN (n : Nat) (x) : Le (laws_toItemS_N n x) (laws_toItemS_N (n + 1) x) := by
  have ih := laws_toItemS_mono n
  simp only [laws_toItemS_N]
  repeat' first | exact ih _ | apply Le.dif | (refine Le.dbind fun _ => ?_) | exact Le.refl _
theorem laws_toItemS_of {n : Nat} {x y} (h : laws_toItemS_N n x = some y) : laws_toItemS x = some y := lim_of (fun n => laws_toItemS_monoN n x) h
/- loop.example/g00492/laws.toVac -/
def laws_toVac : (Int × (List Int) × (List (Int × Int × Int × Int × Int)) × (List (Int × Int × Int × Int × Int)) × (List (Int × Int × Int × Int × Int)) × (List Int)) → Option (Int × (List Int) × (List (Int × Int × Int × Int × Int)) × (List (Int × Int × Int × Int × Int)) × (List (Int × Int × Int × Int × Int)) × (List Int)) := fun a0 => dbind (laws_toIntS a0.2.1) fun r => dbind (laws_toItemS a0.2.2.1) fun r_1 => dbind (laws_toEntryS a0.2.2.2.1) fun r_2 => dbind (laws_toEntryS a0.2.2.2.2.1) fun r_3 => dbind (laws_toIntS a0.2.2.2.2.2) fun r_4 => some (a0.1, r, r_1, r_2, r_3, r_4)
/- loop.example/g00492/laws.toBase -/
def laws_toBase : ((List (Bool × (List Int))) × (List (Int × (List Int))) × Int × Bool × Int × (List (Bool × Bool × (List (Int × Int × Int × Int × Int)))) × Int × Int × Int × Int × Int × Int × (List Int) × Int × Int × (List Int) × (List (Int × Int × Int × Int × Int)) × (List (Int × Int × Int × Int × Int)) × (List (Int × Int × Int × Int × Int)) × (List Int)) → Option ((List (Bool × (List Int))) × (List (Int × (List Int))) × Int × Bool × Int × (List (Bool × Bool × (List (Int × Int × Int × Int × Int)))) × Int × Int × Int × Int × Int × Int × (List Int) × Int × Int × (List Int) × (List (Int × Int × Int × Int × Int)) × (List (Int × Int × Int × Int × Int)) × (List (Int × Int × Int × Int × Int)) × (List Int)) := fun a0 => dbind (laws_toDisk (a0.1, a0.2.1, a0.2.2.1, a0.2.2.2.1)) fun r => dbind (laws_toBook (a0.2.2.2.2.1, a0.2.2.2.2.2.1)) fun r_1 => dbind (laws_toHead (a0.2.2.2.2.2.2.1, a0.2.2.2.2.2.2.2.1, a0.2.2.2.2.2.2.2.2.1, a0.2.2.2.2.2.2.2.2.2.1)) fun r_2 => dbind (laws_toIntS a0.2.2.2.2.2.2.2.2.2.2.2.2.1) fun r_3 => dbind (laws_toVac a0.2.2.2.2.2.2.2.2.2.2.2.2.2.2) fun r_4 => some (r.1, r.2.1, r.2.2.1, r.2.2.2, r_1.1, r_1.2, r_2.1, r_2.2.1, r_2.2.2.1, r_2.2.2.2, a0.2.2.2.2.2.2.2.2.2.2.1, a0.2.2.2.2.2.2.2.2.2.2.2.1, r_3, a0.2.2.2.2.2.2.2.2.2.2.2.2.2.1, r_4)
/- loop.example/g00492/impl.in -/
def impl_in : (Int × Int × Int) → Option Bool := fun (a0, a1, a2) => dif (ile a1 a0) (some (ile a0 a2)) (some false)
/- loop.example/g00492/impl.Up -/
def impl_Up : (Int × Int) → Option Int := fun (a0, a1) => dif (ilt a0 (1 : Int)) (some (0 : Int)) (dif (ilt a1 (1 : Int)) (some (0 : Int)) (dif (ieq a1 (0 : Int)) none (some (iadd .i64 (iquo .i64 (isub .i64 a0 (1 : Int)) a1) (1 : Int)))))
/- loop.example/g00492/impl.PagesFor -/
def impl_PagesFor_N (self : Int → Option Int) : Int → Option Int := fun a0 => dbind (impl_in (a0, (0 : Int), (40 : Int))) fun r => dif (dnot r) (some (0 : Int)) (dif (ile a0 (4 : Int)) (some (1 : Int)) (dbind (impl_Up (a0, (4 : Int))) fun r => dbind (impl_Up (a0, (4 : Int))) fun r_1 => dbind (self r_1) fun r_2 => some (iadd .i64 r r_2)))
def impl_PagesFor_R : Nat → Int → Option Int
  | 0, _ => none
  | k + 1, x => impl_PagesFor_N (impl_PagesFor_R k) x
def impl_PagesFor : Int → Option Int := fun x => lim fun k => impl_PagesFor_R k x
theorem impl_PagesFor_monoN {self self' : Int → Option Int} (h : ∀ x, Le (self x) (self' x)) (x) : Le (impl_PagesFor_N self x) (impl_PagesFor_N self' x) := by
  simp only [impl_PagesFor_N]
  repeat' first | exact h _ | (refine Le.dbind2 (h _) fun _ => ?_) | apply Le.dif | (refine Le.dbind fun _ => ?_) | exact Le.refl _
theorem impl_PagesFor_monoR : ∀ k x, Le (impl_PagesFor_R k x) (impl_PagesFor_R (k + 1) x)
  | 0, _ => Le.none _
  | k + 1, x => impl_PagesFor_monoN (impl_PagesFor_monoR k) x
theorem impl_PagesFor_of {k : Nat} {x y} (h : impl_PagesFor_R k x = some y) : impl_PagesFor x = some y := lim_of (fun k => impl_PagesFor_monoR k x) h
/- loop.example/g00492/impl.StepsFor -/
def impl_StepsFor : (Int × Int) → Option Int := fun (a0, a1) => dbind (impl_in (a0, (0 : Int), (40 : Int))) fun r => dif (dnot r) (some (0 : Int)) (dbind (impl_in (a1, (0 : Int), (48 : Int))) fun r => dif (dnot r) (some (0 : Int)) (dbind (impl_PagesFor a0) fun r => some (iadd .i64 (iadd .i64 (iadd .i64 a1 r) (48 : Int)) (4 : Int))))
/- loop.example/g00492/impl.exists -/
def impl_exists : ((Int × (List (Bool × Bool × (List (Int × Int × Int × Int × Int))))) × Int) → Option Bool := fun (a0, a1) => dif (ile (0 : Int) a1) (some (ilt a1 (dlen a0.2))) (some false)
/- loop.example/g00492/impl.used -/
def impl_used : ((Int × (List (Bool × Bool × (List (Int × Int × Int × Int × Int))))) × Int) → Option Bool := fun (a0, a1) => dbind (impl_exists (a0, a1)) fun r => dif r (dif (ile (0 : Int) a1) (dif (ilt a1 (dlen a0.2)) (some (dat z_bbLiiiiiR a0.2 a1).1) none) none) (some false)
/- loop.example/g00492/impl.reachFrom$1 -/
def impl_reachFrom_1_L5 (self : (Int × (Int × (List (Bool × Bool × (List (Int × Int × Int × Int × Int))))) × ((Int → Int)) × (List Int)) → Option (((Int → Int)) × (List Int))) : Nat → ((Int × (List (Bool × Bool × (List (Int × Int × Int × Int × Int))))) × ((Int → Int)) × ((List Int)) × ((List (Int × Int × Int × Int × Int))) × Int × Int) → Option (((Int → Int)) × (List Int))
  | 0, _ => none
  | n + 1, (a0, a1, a2, a3, a4, a5) => dif (ilt a5 a4) (dif (ile (0 : Int) a5) (dif (ilt a5 (dlen a3)) (dbind (self ((dat z_iiiii a3 a5).1, a0, a1, a2)) fun r => impl_reachFrom_1_L5 self n (a0, r.1, r.2, a3, a4, iadd .i64 a5 (1 : Int))) none) none) (some (a1, a2))
def impl_reachFrom_1_N (self : (Int × (Int × (List (Bool × Bool × (List (Int × Int × Int × Int × Int))))) × ((Int → Int)) × (List Int)) → Option (((Int → Int)) × (List Int))) (n : Nat) : (Int × (Int × (List (Bool × Bool × (List (Int × Int × Int × Int × Int))))) × ((Int → Int)) × (List Int)) → Option (((Int → Int)) × (List Int)) := fun (a0, a1, a2, a3) => dbind (impl_used (a1, a0)) fun r => dif (dnot r) (some (a2, a3)) (dif (ieq (mget a2 a0) (1 : Int)) (some (a2, a3)) (dif (droom (dlen a3) (dlen (dcons a0 dnil)) 8) (dif (ile (0 : Int) a0) (dif (ilt a0 (dlen a1.2)) (dif (dnot (dat z_bbLiiiiiR a1.2 a0).2.1) (dif (ile (0 : Int) a0) (dif (ilt a0 (dlen a1.2)) (impl_reachFrom_1_L5 self n (a1, mput a2 a0 (1 : Int), dapp a3 (dcons a0 dnil), (dat z_bbLiiiiiR a1.2 a0).2.2, dlen (dat z_bbLiiiiiR a1.2 a0).2.2, (0 : Int))) none) none) (some (mput a2 a0 (1 : Int), dapp a3 (dcons a0 dnil)))) none) none) none))
def impl_reachFrom_1_R : Nat → (Int × (Int × (List (Bool × Bool × (List (Int × Int × Int × Int × Int))))) × ((Int → Int)) × (List Int)) → Option (((Int → Int)) × (List Int))
  | 0, _ => none
  | k + 1, x => lim fun n => impl_reachFrom_1_N (impl_reachFrom_1_R k) n x
def impl_reachFrom_1 : (Int × (Int × (List (Bool × Bool × (List (Int × Int × Int × Int × Int))))) × ((Int → Int)) × (List Int)) → Option (((Int → Int)) × (List Int)) := fun x => lim fun k => impl_reachFrom_1_R k x
theorem impl_reachFrom_1_mono {self self' : (Int × (Int × (List (Bool × Bool × (List (Int × Int × Int × Int × Int))))) × ((Int → Int)) × (List Int)) → Option (((Int → Int)) × (List Int))} (h : ∀ x, Le (self x) (self' x)) : ∀ n x, Le (impl_reachFrom_1_L5 self n x) (impl_reachFrom_1_L5 self' (n + 1) x)
  | 0, _ => Le.none _
  | n + 1, x => by
    have ih := impl_reachFrom_1_mono h n
    simp only [impl_reachFrom_1_L5]
    repeat' first | exact ih _ | exact h _ | (refine Le.dbind2 (h _) fun _ => ?_) | apply Le.dif | (refine Le.dbind fun _ => ?_) | exact Le.refl _
theorem impl_reachFrom_1_monoN {self self' : (Int × (Int × (List (Bool × Bool × (List (Int × Int × Int × Int × Int))))) × ((Int → Int)) × (List Int)) → Option (((Int → Int)) × (List Int))} (h : ∀ x, Le (self x) (self' x)) (n : Nat) (x) : Le (impl_reachFrom_1_N self n x) (impl_reachFrom_1_N self' (n + 1) x) := by
  have ih := impl_reachFrom_1_mono h n
  simp only [impl_reachFrom_1_N]
  repeat' first | exact ih _ | exact h _ | (refine Le.dbind2 (h _) fun _ => ?_) | apply Le.dif | (refine Le.dbind fun _ => ?_) | exact Le.refl _
theorem impl_reachFrom_1_monoR : ∀ k x, Le (impl_reachFrom_1_R k x) (impl_reachFrom_1_R (k + 1) x)
  | 0, _ => Le.none _
  | k + 1, x => Le.lim (fun n => impl_reachFrom_1_monoN (impl_reachFrom_1_monoR k) n x) (fun n => impl_reachFrom_1_monoN (fun _ => Le.refl _) n x)
theorem impl_reachFrom_1_of {k : Nat} {x y} (h : impl_reachFrom_1_R k x = some y) : impl_reachFrom_1 x = some y := lim_of (fun k => impl_reachFrom_1_monoR k x) h
theorem impl_reachFrom_1_ofN {k n : Nat} {x y} (h : impl_reachFrom_1_N (impl_reachFrom_1_R k) n x = some y) : impl_reachFrom_1_R (k + 1) x = some y := lim_of (fun n => impl_reachFrom_1_monoN (fun _ => Le.refl _) n x) h
/- loop.example/g00492/impl.reachFrom -/
def impl_reachFrom : ((Int × (List (Bool × Bool × (List (Int × Int × Int × Int × Int))))) × Int) → Option ((List Int)) := fun (a0, a1) => dbind (impl_reachFrom_1 (a1, a0, mnil, dnil)) fun r => some r.2
/- loop.example/g00492/impl.ItemsOf -/
def impl_ItemsOf_L4 : Nat → (((List (Int × Int × Int × Int × Int))) × ((List (Int × Int × Int × Int × Int))) × Int × Int) → Option ((List (Int × Int × Int × Int × Int)))
  | 0, _ => none
  | n + 1, (a0, a1, a2, a3) => dif (ilt a3 a2) (dif (ile (0 : Int) a3) (dif (ilt a3 (dlen a1)) (dif (droom (dlen a0) (dlen (dcons (dat z_iiiii a1 a3) dnil)) 40) (impl_ItemsOf_L4 n (dapp a0 (dcons (dat z_iiiii a1 a3) dnil), a1, a2, iadd .i64 a3 (1 : Int))) none) none) none) (some a0)
def impl_ItemsOf_N (n : Nat) : (Bool × (List (Int × Int × Int × Int × Int))) → Option ((List (Int × Int × Int × Int × Int))) := fun a0 => dif a0.1 (impl_ItemsOf_L4 n (dnil, a0.2, dlen a0.2, (0 : Int))) (some dnil)
def impl_ItemsOf : (Bool × (List (Int × Int × Int × Int × Int))) → Option ((List (Int × Int × Int × Int × Int))) := fun x => lim fun n => impl_ItemsOf_N n x
theorem impl_ItemsOf_mono : ∀ n x, Le (impl_ItemsOf_L4 n x) (impl_ItemsOf_L4 (n + 1) x)
  | 0, _ => Le.none _
  | n + 1, x => by
    have ih := impl_ItemsOf_mono n
    simp only [impl_ItemsOf_L4]
    repeat' first | exact ih _ | apply Le.dif | (refine Le.dbind fun _ => ?_) | exact Le.refl _
theorem impl_ItemsOf_monoN (n : Nat) (x) : Le (impl_ItemsOf_N n x) (impl_ItemsOf_N (n + 1) x) := by
  have ih := impl_ItemsOf_mono n
  simp only [impl_ItemsOf_N]
  repeat' first | exact ih _ | apply Le.dif | (refine Le.dbind fun _ => ?_) | exact Le.refl _
theorem impl_ItemsOf_of {n : Nat} {x y} (h : impl_ItemsOf_N n x = some y) : impl_ItemsOf x = some y := lim_of (fun n => impl_ItemsOf_monoN n x) h
/- loop.example/g00492/impl.itemsFrom -/
def impl_itemsFrom_L3 : Nat → ((Int × (List (Bool × Bool × (List (Int × Int × Int × Int × Int))))) × ((List (Int × Int × Int × Int × Int))) × ((List Int)) × Int × Int) → Option ((List (Int × Int × Int × Int × Int)))
  | 0, _ => none
  | n + 1, (a0, a1, a2, a3, a4) => dif (ilt a4 a3) (dif (ile (0 : Int) a4) (dif (ilt a4 (dlen a2)) (dif (ile (0 : Int) (dat z_i a2 a4)) (dif (ilt (dat z_i a2 a4) (dlen a0.2)) (dbind (impl_ItemsOf (dat z_bbLiiiiiR a0.2 (dat z_i a2 a4)).2) fun r => dif (droom (dlen a1) (dlen r) 40) (impl_itemsFrom_L3 n (a0, dapp a1 r, a2, a3, iadd .i64 a4 (1 : Int))) none) none) none) none) none) (some a1)
def impl_itemsFrom_N (n : Nat) : ((Int × (List (Bool × Bool × (List (Int × Int × Int × Int × Int))))) × Int) → Option ((List (Int × Int × Int × Int × Int))) := fun (a0, a1) => dbind (impl_reachFrom (a0, a1)) fun r => impl_itemsFrom_L3 n (a0, dnil, r, dlen r, (0 : Int))
def impl_itemsFrom : ((Int × (List (Bool × Bool × (List (Int × Int × Int × Int × Int))))) × Int) → Option ((List (Int × Int × Int × Int × Int))) := fun x => lim fun n => impl_itemsFrom_N n x
theorem impl_itemsFrom_mono : ∀ n x, Le (impl_itemsFrom_L3 n x) (impl_itemsFrom_L3 (n + 1) x)
  | 0, _ => Le.none _
  | n + 1, x => by
    have ih := impl_itemsFrom_mono n
    simp only [impl_itemsFrom_L3]
    repeat' first | exact ih _ | apply Le.dif | (refine Le.dbind fun _ => ?_) | exact Le.refl _
theorem impl_itemsFrom_monoN (n : Nat) (x) : Le (impl_itemsFrom_N n x) (impl_itemsFrom_N (n + 1) x) := by
  have ih := impl_itemsFrom_mono n
  simp only [impl_itemsFrom_N]
  repeat' first | exact ih _ | apply Le.dif | (refine Le.dbind fun _ => ?_) | exact Le.refl _
theorem impl_itemsFrom_of {n : Nat} {x y} (h : impl_itemsFrom_N n x = some y) : impl_itemsFrom x = some y := lim_of (fun n => impl_itemsFrom_monoN n x) h
/- loop.example/g00492/impl.All -/
def impl_All : (Int × (List (Bool × Bool × (List (Int × Int × Int × Int × Int))))) → Option ((List (Int × Int × Int × Int × Int))) := fun a0 => dbind (impl_itemsFrom (a0, a0.1)) fun r => some r
/- loop.example/g00492/impl.Waits -/
def impl_Waits : ((List (Bool × (List Int))) × (List (Int × (List Int))) × Int × Bool × Int × (List (Bool × Bool × (List (Int × Int × Int × Int × Int)))) × Int × Int × Int × Int × Int × Int × (List Int) × Int × Int × (List Int) × (List (Int × Int × Int × Int × Int)) × (List (Int × Int × Int × Int × Int)) × (List (Int × Int × Int × Int × Int)) × (List Int)) → Option Int := fun a0 => dbind (impl_All (a0.2.2.2.2.1, a0.2.2.2.2.2.1)) fun r => dbind (impl_StepsFor (dlen r, dlen a0.2.2.2.2.2.1)) fun r => some r
/- loop.example/g00492/laws.eqByteS -/
def laws_eqByteS_L4 : Nat → (((List Int)) × ((List Int)) × Int) → Option Bool
  | 0, _ => none
  | n + 1, (a0, a1, a2) => dif (ilt a2 (dlen a0)) (dif (ile (0 : Int) a2) (dif (ilt a2 (dlen a0)) (dif (ile (0 : Int) a2) (dif (ilt a2 (dlen a1)) (dif (ine (dat z_u8 a0 a2) (dat z_u8 a1 a2)) (some false) (laws_eqByteS_L4 n (a0, a1, iadd .i64 a2 (1 : Int)))) none) none) none) none) (some true)
def laws_eqByteS_N (n : Nat) : (((List Int)) × (List Int)) → Option Bool := fun (a0, a1) => dif (ine (dlen a0) (dlen a1)) (some false) (laws_eqByteS_L4 n (a0, a1, (0 : Int)))
def laws_eqByteS : (((List Int)) × (List Int)) → Option Bool := fun x => lim fun n => laws_eqByteS_N n x
theorem laws_eqByteS_mono : ∀ n x, Le (laws_eqByteS_L4 n x) (laws_eqByteS_L4 (n + 1) x)
  | 0, _ => Le.none _
  | n + 1, x => by
    have ih := laws_eqByteS_mono n
    simp only [laws_eqByteS_L4]
    repeat' first | exact ih _ | apply Le.dif | (refine Le.dbind fun _ => ?_) | exact Le.refl _
theorem laws_eqByteS_monoN (n : Nat) (x) : Le (laws_eqByteS_N n x) (laws_eqByteS_N (n + 1) x) := by
  have ih := laws_eqByteS_mono n
  simp only [laws_eqByteS_N]
  repeat' first | exact ih _ | apply Le.dif | (refine Le.dbind fun _ => ?_) | exact Le.refl _
theorem laws_eqByteS_of {n : Nat} {x y} (h : laws_eqByteS_N n x = some y) : laws_eqByteS x = some y := lim_of (fun n => laws_eqByteS_monoN n x) h
/- loop.example/g00492/laws.eqCell -/
def laws_eqCell : ((Bool × (List Int)) × Bool × (List Int)) → Option Bool := fun (a0, a1) => dif (dneb a0.1 a1.1) (some false) (dbind (laws_eqByteS (a0.2, a1.2)) fun r => dif (dnot r) (some false) (some true))
/- loop.example/g00492/laws.eqCellS -/
def laws_eqCellS_L4 : Nat → (((List (Bool × (List Int)))) × ((List (Bool × (List Int)))) × Int) → Option Bool
  | 0, _ => none
  | n + 1, (a0, a1, a2) => dif (ilt a2 (dlen a0)) (dif (ile (0 : Int) a2) (dif (ilt a2 (dlen a0)) (dif (ile (0 : Int) a2) (dif (ilt a2 (dlen a1)) (dbind (laws_eqCell (dat z_bLu8R a0 a2, dat z_bLu8R a1 a2)) fun r => dif (dnot r) (some false) (laws_eqCellS_L4 n (a0, a1, iadd .i64 a2 (1 : Int)))) none) none) none) none) (some true)
def laws_eqCellS_N (n : Nat) : (((List (Bool × (List Int)))) × (List (Bool × (List Int)))) → Option Bool := fun (a0, a1) => dif (ine (dlen a0) (dlen a1)) (some false) (laws_eqCellS_L4 n (a0, a1, (0 : Int)))
def laws_eqCellS : (((List (Bool × (List Int)))) × (List (Bool × (List Int)))) → Option Bool := fun x => lim fun n => laws_eqCellS_N n x
theorem laws_eqCellS_mono : ∀ n x, Le (laws_eqCellS_L4 n x) (laws_eqCellS_L4 (n + 1) x)
  | 0, _ => Le.none _
  | n + 1, x => by
    have ih := laws_eqCellS_mono n
    simp only [laws_eqCellS_L4]
    repeat' first | exact ih _ | apply Le.dif | (refine Le.dbind fun _ => ?_) | exact Le.refl _
theorem laws_eqCellS_monoN (n : Nat) (x) : Le (laws_eqCellS_N n x) (laws_eqCellS_N (n + 1) x) := by
  have ih := laws_eqCellS_mono n
  simp only [laws_eqCellS_N]
  repeat' first | exact ih _ | apply Le.dif | (refine Le.dbind fun _ => ?_) | exact Le.refl _
theorem laws_eqCellS_of {n : Nat} {x y} (h : laws_eqCellS_N n x = some y) : laws_eqCellS x = some y := lim_of (fun n => laws_eqCellS_monoN n x) h
/- loop.example/g00492/laws.eqWet -/
def laws_eqWet : ((Int × (List Int)) × Int × (List Int)) → Option Bool := fun (a0, a1) => dif (ine a0.1 a1.1) (some false) (dbind (laws_eqByteS (a0.2, a1.2)) fun r => dif (dnot r) (some false) (some true))
/- loop.example/g00492/laws.eqWetS -/
def laws_eqWetS_L4 : Nat → (((List (Int × (List Int)))) × ((List (Int × (List Int)))) × Int) → Option Bool
  | 0, _ => none
  | n + 1, (a0, a1, a2) => dif (ilt a2 (dlen a0)) (dif (ile (0 : Int) a2) (dif (ilt a2 (dlen a0)) (dif (ile (0 : Int) a2) (dif (ilt a2 (dlen a1)) (dbind (laws_eqWet (dat z_iLu8R a0 a2, dat z_iLu8R a1 a2)) fun r => dif (dnot r) (some false) (laws_eqWetS_L4 n (a0, a1, iadd .i64 a2 (1 : Int)))) none) none) none) none) (some true)
def laws_eqWetS_N (n : Nat) : (((List (Int × (List Int)))) × (List (Int × (List Int)))) → Option Bool := fun (a0, a1) => dif (ine (dlen a0) (dlen a1)) (some false) (laws_eqWetS_L4 n (a0, a1, (0 : Int)))
def laws_eqWetS : (((List (Int × (List Int)))) × (List (Int × (List Int)))) → Option Bool := fun x => lim fun n => laws_eqWetS_N n x
theorem laws_eqWetS_mono : ∀ n x, Le (laws_eqWetS_L4 n x) (laws_eqWetS_L4 (n + 1) x)
  | 0, _ => Le.none _
  | n + 1, x => by
    have ih := laws_eqWetS_mono n
    simp only [laws_eqWetS_L4]
    repeat' first | exact ih _ | apply Le.dif | (refine Le.dbind fun _ => ?_) | exact Le.refl _
theorem laws_eqWetS_monoN (n : Nat) (x) : Le (laws_eqWetS_N n x) (laws_eqWetS_N (n + 1) x) := by
  have ih := laws_eqWetS_mono n
  simp only [laws_eqWetS_N]
  repeat' first | exact ih _ | apply Le.dif | (refine Le.dbind fun _ => ?_) | exact Le.refl _
theorem laws_eqWetS_of {n : Nat} {x y} (h : laws_eqWetS_N n x = some y) : laws_eqWetS x = some y := lim_of (fun n => laws_eqWetS_monoN n x) h
/- loop.example/g00492/laws.eqDisk -/
def laws_eqDisk : (((List (Bool × (List Int))) × (List (Int × (List Int))) × Int × Bool) × (List (Bool × (List Int))) × (List (Int × (List Int))) × Int × Bool) → Option Bool := fun (a0, a1) => dbind (laws_eqCellS (a0.1, a1.1)) fun r => dif (dnot r) (some false) (dbind (laws_eqWetS (a0.2.1, a1.2.1)) fun r => dif (dnot r) (some false) (dif (ine a0.2.2.1 a1.2.2.1) (some false) (dif (dneb a0.2.2.2 a1.2.2.2) (some false) (some true))))
/- loop.example/g00492/laws.eqBox -/
def laws_eqBox : ((Int × Int × Int × Int) × Int × Int × Int × Int) → Option Bool := fun (a0, a1) => dif (ine a0.1 a1.1) (some false) (dif (ine a0.2.1 a1.2.1) (some false) (dif (ine a0.2.2.1 a1.2.2.1) (some false) (dif (ine a0.2.2.2 a1.2.2.2) (some false) (some true))))
/- loop.example/g00492/laws.eqEntry -/
def laws_eqEntry : ((Int × Int × Int × Int × Int) × Int × Int × Int × Int × Int) → Option Bool := fun (a0, a1) => dif (ine a0.1 a1.1) (some false) (dbind (laws_eqBox (a0.2, a1.2)) fun r => dif (dnot r) (some false) (some true))
/- loop.example/g00492/laws.eqEntryS -/
def laws_eqEntryS_L4 : Nat → (((List (Int × Int × Int × Int × Int))) × ((List (Int × Int × Int × Int × Int))) × Int) → Option Bool
  | 0, _ => none
  | n + 1, (a0, a1, a2) => dif (ilt a2 (dlen a0)) (dif (ile (0 : Int) a2) (dif (ilt a2 (dlen a0)) (dif (ile (0 : Int) a2) (dif (ilt a2 (dlen a1)) (dbind (laws_eqEntry (dat z_iiiii a0 a2, dat z_iiiii a1 a2)) fun r => dif (dnot r) (some false) (laws_eqEntryS_L4 n (a0, a1, iadd .i64 a2 (1 : Int)))) none) none) none) none) (some true)
def laws_eqEntryS_N (n : Nat) : (((List (Int × Int × Int × Int × Int))) × (List (Int × Int × Int × Int × Int))) → Option Bool := fun (a0, a1) => dif (ine (dlen a0) (dlen a1)) (some false) (laws_eqEntryS_L4 n (a0, a1, (0 : Int)))
def laws_eqEntryS : (((List (Int × Int × Int × Int × Int))) × (List (Int × Int × Int × Int × Int))) → Option Bool := fun x => lim fun n => laws_eqEntryS_N n x
theorem laws_eqEntryS_mono : ∀ n x, Le (laws_eqEntryS_L4 n x) (laws_eqEntryS_L4 (n + 1) x)
  | 0, _ => Le.none _
  | n + 1, x => by
    have ih := laws_eqEntryS_mono n
    simp only [laws_eqEntryS_L4]
    repeat' first | exact ih _ | apply Le.dif | (refine Le.dbind fun _ => ?_) | exact Le.refl _
theorem laws_eqEntryS_monoN (n : Nat) (x) : Le (laws_eqEntryS_N n x) (laws_eqEntryS_N (n + 1) x) := by
  have ih := laws_eqEntryS_mono n
  simp only [laws_eqEntryS_N]
  repeat' first | exact ih _ | apply Le.dif | (refine Le.dbind fun _ => ?_) | exact Le.refl _
theorem laws_eqEntryS_of {n : Nat} {x y} (h : laws_eqEntryS_N n x = some y) : laws_eqEntryS x = some y := lim_of (fun n => laws_eqEntryS_monoN n x) h
/- loop.example/g00492/laws.eqNode -/
def laws_eqNode : ((Bool × (List (Int × Int × Int × Int × Int))) × Bool × (List (Int × Int × Int × Int × Int))) → Option Bool := fun (a0, a1) => dif (dneb a0.1 a1.1) (some false) (dbind (laws_eqEntryS (a0.2, a1.2)) fun r => dif (dnot r) (some false) (some true))
/- loop.example/g00492/laws.eqPage -/
def laws_eqPage : ((Bool × Bool × (List (Int × Int × Int × Int × Int))) × Bool × Bool × (List (Int × Int × Int × Int × Int))) → Option Bool := fun (a0, a1) => dif (dneb a0.1 a1.1) (some false) (dbind (laws_eqNode (a0.2, a1.2)) fun r => dif (dnot r) (some false) (some true))
/- loop.example/g00492/laws.eqPageS -/
def laws_eqPageS_L4 : Nat → (((List (Bool × Bool × (List (Int × Int × Int × Int × Int))))) × ((List (Bool × Bool × (List (Int × Int × Int × Int × Int))))) × Int) → Option Bool
  | 0, _ => none
  | n + 1, (a0, a1, a2) => dif (ilt a2 (dlen a0)) (dif (ile (0 : Int) a2) (dif (ilt a2 (dlen a0)) (dif (ile (0 : Int) a2) (dif (ilt a2 (dlen a1)) (dbind (laws_eqPage (dat z_bbLiiiiiR a0 a2, dat z_bbLiiiiiR a1 a2)) fun r => dif (dnot r) (some false) (laws_eqPageS_L4 n (a0, a1, iadd .i64 a2 (1 : Int)))) none) none) none) none) (some true)
def laws_eqPageS_N (n : Nat) : (((List (Bool × Bool × (List (Int × Int × Int × Int × Int))))) × (List (Bool × Bool × (List (Int × Int × Int × Int × Int))))) → Option Bool := fun (a0, a1) => dif (ine (dlen a0) (dlen a1)) (some false) (laws_eqPageS_L4 n (a0, a1, (0 : Int)))
def laws_eqPageS : (((List (Bool × Bool × (List (Int × Int × Int × Int × Int))))) × (List (Bool × Bool × (List (Int × Int × Int × Int × Int))))) → Option Bool := fun x => lim fun n => laws_eqPageS_N n x
theorem laws_eqPageS_mono : ∀ n x, Le (laws_eqPageS_L4 n x) (laws_eqPageS_L4 (n + 1) x)
  | 0, _ => Le.none _
  | n + 1, x => by
    have ih := laws_eqPageS_mono n
    simp only [laws_eqPageS_L4]
    repeat' first | exact ih _ | apply Le.dif | (refine Le.dbind fun _ => ?_) | exact Le.refl _
theorem laws_eqPageS_monoN (n : Nat) (x) : Le (laws_eqPageS_N n x) (laws_eqPageS_N (n + 1) x) := by
  have ih := laws_eqPageS_mono n
  simp only [laws_eqPageS_N]
  repeat' first | exact ih _ | apply Le.dif | (refine Le.dbind fun _ => ?_) | exact Le.refl _
theorem laws_eqPageS_of {n : Nat} {x y} (h : laws_eqPageS_N n x = some y) : laws_eqPageS x = some y := lim_of (fun n => laws_eqPageS_monoN n x) h
/- loop.example/g00492/laws.eqBook -/
def laws_eqBook : ((Int × (List (Bool × Bool × (List (Int × Int × Int × Int × Int))))) × Int × (List (Bool × Bool × (List (Int × Int × Int × Int × Int))))) → Option Bool := fun (a0, a1) => dif (ine a0.1 a1.1) (some false) (dbind (laws_eqPageS (a0.2, a1.2)) fun r => dif (dnot r) (some false) (some true))
/- loop.example/g00492/laws.eqHead -/
def laws_eqHead : ((Int × Int × Int × Int) × Int × Int × Int × Int) → Option Bool := fun (a0, a1) => dif (ine a0.1 a1.1) (some false) (dif (ine a0.2.1 a1.2.1) (some false) (dif (ine a0.2.2.1 a1.2.2.1) (some false) (dif (ine a0.2.2.2 a1.2.2.2) (some false) (some true))))
/- loop.example/g00492/laws.eqIntS -/
def laws_eqIntS_L4 : Nat → (((List Int)) × ((List Int)) × Int) → Option Bool
  | 0, _ => none
  | n + 1, (a0, a1, a2) => dif (ilt a2 (dlen a0)) (dif (ile (0 : Int) a2) (dif (ilt a2 (dlen a0)) (dif (ile (0 : Int) a2) (dif (ilt a2 (dlen a1)) (dif (ine (dat z_i a0 a2) (dat z_i a1 a2)) (some false) (laws_eqIntS_L4 n (a0, a1, iadd .i64 a2 (1 : Int)))) none) none) none) none) (some true)
def laws_eqIntS_N (n : Nat) : (((List Int)) × (List Int)) → Option Bool := fun (a0, a1) => dif (ine (dlen a0) (dlen a1)) (some false) (laws_eqIntS_L4 n (a0, a1, (0 : Int)))
def laws_eqIntS : (((List Int)) × (List Int)) → Option Bool := fun x => lim fun n => laws_eqIntS_N n x
theorem laws_eqIntS_mono : ∀ n x, Le (laws_eqIntS_L4 n x) (laws_eqIntS_L4 (n + 1) x)
  | 0, _ => Le.none _
  | n + 1, x => by
    have ih := laws_eqIntS_mono n
    simp only [laws_eqIntS_L4]
    repeat' first | exact ih _ | apply Le.dif | (refine Le.dbind fun _ => ?_) | exact Le.refl _
theorem laws_eqIntS_monoN (n : Nat) (x) : Le (laws_eqIntS_N n x) (laws_eqIntS_N (n + 1) x) := by
  have ih := laws_eqIntS_mono n
  simp only [laws_eqIntS_N]
  repeat' first | exact ih _ | apply Le.dif | (refine Le.dbind fun _ => ?_) | exact Le.refl _
theorem laws_eqIntS_of {n : Nat} {x y} (h : laws_eqIntS_N n x = some y) : laws_eqIntS x = some y := lim_of (fun n => laws_eqIntS_monoN n x) h
/- loop.example/g00492/laws.eqItem -/
def laws_eqItem : ((Int × Int × Int × Int × Int) × Int × Int × Int × Int × Int) → Option Bool := fun (a0, a1) => dif (ine a0.1 a1.1) (some false) (dbind (laws_eqBox (a0.2, a1.2)) fun r => dif (dnot r) (some false) (some true))
/- loop.example/g00492/laws.eqItemS -/
def laws_eqItemS_L4 : Nat → (((List (Int × Int × Int × Int × Int))) × ((List (Int × Int × Int × Int × Int))) × Int) → Option Bool
  | 0, _ => none
  | n + 1, (a0, a1, a2) => dif (ilt a2 (dlen a0)) (dif (ile (0 : Int) a2) (dif (ilt a2 (dlen a0)) (dif (ile (0 : Int) a2) (dif (ilt a2 (dlen a1)) (dbind (laws_eqItem (dat z_iiiii a0 a2, dat z_iiiii a1 a2)) fun r => dif (dnot r) (some false) (laws_eqItemS_L4 n (a0, a1, iadd .i64 a2 (1 : Int)))) none) none) none) none) (some true)
def laws_eqItemS_N (n : Nat) : (((List (Int × Int × Int × Int × Int))) × (List (Int × Int × Int × Int × Int))) → Option Bool := fun (a0, a1) => dif (ine (dlen a0) (dlen a1)) (some false) (laws_eqItemS_L4 n (a0, a1, (0 : Int)))
def laws_eqItemS : (((List (Int × Int × Int × Int × Int))) × (List (Int × Int × Int × Int × Int))) → Option Bool := fun x => lim fun n => laws_eqItemS_N n x
theorem laws_eqItemS_mono : ∀ n x, Le (laws_eqItemS_L4 n x) (laws_eqItemS_L4 (n + 1) x)
  | 0, _ => Le.none _
  | n + 1, x => by
    have ih := laws_eqItemS_mono n
    simp only [laws_eqItemS_L4]
    repeat' first | exact ih _ | apply Le.dif | (refine Le.dbind fun _ => ?_) | exact Le.refl _
theorem laws_eqItemS_monoN (n : Nat) (x) : Le (laws_eqItemS_N n x) (laws_eqItemS_N (n + 1) x) := by
  have ih := laws_eqItemS_mono n
  simp only [laws_eqItemS_N]
  repeat' first | exact ih _ | apply Le.dif | (refine Le.dbind fun _ => ?_) | exact Le.refl _
theorem laws_eqItemS_of {n : Nat} {x y} (h : laws_eqItemS_N n x = some y) : laws_eqItemS x = some y := lim_of (fun n => laws_eqItemS_monoN n x) h
/- loop.example/g00492/laws.eqVac -/
def laws_eqVac : ((Int × (List Int) × (List (Int × Int × Int × Int × Int)) × (List (Int × Int × Int × Int × Int)) × (List (Int × Int × Int × Int × Int)) × (List Int)) × Int × (List Int) × (List (Int × Int × Int × Int × Int)) × (List (Int × Int × Int × Int × Int)) × (List (Int × Int × Int × Int × Int)) × (List Int)) → Option Bool := fun (a0, a1) => dif (ine a0.1 a1.1) (some false) (dbind (laws_eqIntS (a0.2.1, a1.2.1)) fun r => dif (dnot r) (some false) (dbind (laws_eqItemS (a0.2.2.1, a1.2.2.1)) fun r => dif (dnot r) (some false) (dbind (laws_eqEntryS (a0.2.2.2.1, a1.2.2.2.1)) fun r => dif (dnot r) (some false) (dbind (laws_eqEntryS (a0.2.2.2.2.1, a1.2.2.2.2.1)) fun r => dif (dnot r) (some false) (dbind (laws_eqIntS (a0.2.2.2.2.2, a1.2.2.2.2.2)) fun r => dif (dnot r) (some false) (some true))))))
/- loop.example/g00492/laws.eqBase -/
def laws_eqBase : (((List (Bool × (List Int))) × (List (Int × (List Int))) × Int × Bool × Int × (List (Bool × Bool × (List (Int × Int × Int × Int × Int)))) × Int × Int × Int × Int × Int × Int × (List Int) × Int × Int × (List Int) × (List (Int × Int × Int × Int × Int)) × (List (Int × Int × Int × Int × Int)) × (List (Int × Int × Int × Int × Int)) × (List Int)) × (List (Bool × (List Int))) × (List (Int × (List Int))) × Int × Bool × Int × (List (Bool × Bool × (List (Int × Int × Int × Int × Int)))) × Int × Int × Int × Int × Int × Int × (List Int) × Int × Int × (List Int) × (List (Int × Int × Int × Int × Int)) × (List (Int × Int × Int × Int × Int)) × (List (Int × Int × Int × Int × Int)) × (List Int)) → Option Bool := fun (a0, a1) => dbind (laws_eqDisk ((a0.1, a0.2.1, a0.2.2.1, a0.2.2.2.1), a1.1, a1.2.1, a1.2.2.1, a1.2.2.2.1)) fun r => dif (dnot r) (some false) (dbind (laws_eqBook ((a0.2.2.2.2.1, a0.2.2.2.2.2.1), a1.2.2.2.2.1, a1.2.2.2.2.2.1)) fun r => dif (dnot r) (some false) (dbind (laws_eqHead ((a0.2.2.2.2.2.2.1, a0.2.2.2.2.2.2.2.1, a0.2.2.2.2.2.2.2.2.1, a0.2.2.2.2.2.2.2.2.2.1), a1.2.2.2.2.2.2.1, a1.2.2.2.2.2.2.2.1, a1.2.2.2.2.2.2.2.2.1, a1.2.2.2.2.2.2.2.2.2.1)) fun r => dif (dnot r) (some false) (dif (ine a0.2.2.2.2.2.2.2.2.2.2.1 a1.2.2.2.2.2.2.2.2.2.2.1) (some false) (dif (ine a0.2.2.2.2.2.2.2.2.2.2.2.1 a1.2.2.2.2.2.2.2.2.2.2.2.1) (some false) (dbind (laws_eqIntS (a0.2.2.2.2.2.2.2.2.2.2.2.2.1, a1.2.2.2.2.2.2.2.2.2.2.2.2.1)) fun r => dif (dnot r) (some false) (dif (ine a0.2.2.2.2.2.2.2.2.2.2.2.2.2.1 a1.2.2.2.2.2.2.2.2.2.2.2.2.2.1) (some false) (dbind (laws_eqVac (a0.2.2.2.2.2.2.2.2.2.2.2.2.2.2, a1.2.2.2.2.2.2.2.2.2.2.2.2.2.2)) fun r => dif (dnot r) (some false) (some true))))))))
/- loop.example/g00492/laws.FnExactWaits -/
def laws_FnExactWaits : ((List (Bool × (List Int))) × (List (Int × (List Int))) × Int × Bool × Int × (List (Bool × Bool × (List (Int × Int × Int × Int × Int)))) × Int × Int × Int × Int × Int × Int × (List Int) × Int × Int × (List Int) × (List (Int × Int × Int × Int × Int)) × (List (Int × Int × Int × Int × Int)) × (List (Int × Int × Int × Int × Int)) × (List Int)) → Option Bool := fun a0 => dbind (laws_szBase (a0, (1048576 : Int))) fun r => dif (ilt r (0 : Int)) (some true) (dbind (laws_toBase a0) fun r => dbind (spec_Waits r) fun r => dbind (laws_toBase a0) fun r_1 => dbind (impl_Waits r_1) fun r_2 => dif (ine r_2 r) (some false) (dbind (laws_toBase a0) fun r => dbind (laws_eqBase (r_1, r)) fun r => dif (dnot r) (some false) (some true)))
end Rig.Pure
