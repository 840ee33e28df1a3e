/- What each function computes, as a plain function: printed by gen.py out of what Lean's kernel makes of its code. -/
import Derived.Test.YtkmgomipeljdfaaRigMono
set_option linter.unusedVariables false
open Go (IntKind)
noncomputable section
namespace Rig.Pure
/- loop.example/g00492/laws.szIntS -/
def z_i : Int := 0
def z_iiiii : Int × Int × Int × Int × Int := (0, 0, 0, 0, 0)
def z_s : ByteArray := bs []
def laws_szIntS : (((List Int)) × Int) → Option Int := fun (a0, a1) => dif (ilt (isub .i64 a1 (dlen a0)) (0 : Int)) (some (-1 : Int)) (some (isub .i64 a1 (dlen a0)))
/- loop.example/g00492/laws.szItemS -/
def laws_szItemS : (((List (Int × Int × Int × Int × Int))) × Int) → Option Int := fun (a0, a1) => dif (ilt (isub .i64 a1 (dlen a0)) (0 : Int)) (some (-1 : Int)) (some (isub .i64 a1 (dlen a0)))
/- loop.example/g00492/laws.szEntryS -/
def laws_szEntryS : (((List (Int × Int × Int × Int × Int))) × Int) → Option Int := fun (a0, a1) => dif (ilt (isub .i64 a1 (dlen a0)) (0 : Int)) (some (-1 : Int)) (some (isub .i64 a1 (dlen a0)))
/- loop.example/g00492/laws.szVac -/
def laws_szVac : ((Int × (List Int) × (List (Int × Int × Int × Int × Int)) × (List (Int × Int × Int × Int × Int)) × (List (Int × Int × Int × Int × Int)) × (List Int)) × Int) → Option Int := fun (a0, a1) => dbind (laws_szIntS (a0.2.1, a1)) fun r => dif (ilt r (0 : Int)) (some (-1 : Int)) (dbind (laws_szItemS (a0.2.2.1, r)) fun r => dif (ilt r (0 : Int)) (some (-1 : Int)) (dbind (laws_szEntryS (a0.2.2.2.1, r)) fun r => dif (ilt r (0 : Int)) (some (-1 : Int)) (dbind (laws_szEntryS (a0.2.2.2.2.1, r)) fun r => dif (ilt r (0 : Int)) (some (-1 : Int)) (dbind (laws_szIntS (a0.2.2.2.2.2, r)) fun r => dif (ilt r (0 : Int)) (some (-1 : Int)) (some r)))))
/- loop.example/g00492/spec.l1In -/
def spec_l1In : (Int × Int × Int) → Option Bool := fun (a0, a1, a2) => dif (ile a1 a0) (some (ile a0 a2)) (some false)
/- loop.example/g00492/spec.VacText -/
def spec_VacText : (Int × (List Int) × (List (Int × Int × Int × Int × Int)) × (List (Int × Int × Int × Int × Int)) × (List (Int × Int × Int × Int × Int)) × (List Int)) → Option ByteArray := fun a0 => dbind (spec_l1In (a0.1, (0 : Int), isub .i64 (dlen (dcons (bs [110, 111, 110, 101]) (dcons (bs [115, 99, 97, 110]) (dcons (bs [108, 101, 97, 118, 101, 115]) (dcons (bs [108, 101, 118, 101, 108, 115]) (dcons (bs [115, 119, 97, 112]) (dcons (bs [109, 111, 118, 101]) (dcons (bs [99, 117, 116]) (dcons (bs [100, 111, 110, 101]) (dcons (bs [102, 117, 108, 108]) dnil)))))))))) (1 : Int))) fun r => dif (dnot r) (some (bs [])) (dif (ile (0 : Int) a0.1) (dif (ilt a0.1 (dlen (dcons (bs [110, 111, 110, 101]) (dcons (bs [115, 99, 97, 110]) (dcons (bs [108, 101, 97, 118, 101, 115]) (dcons (bs [108, 101, 118, 101, 108, 115]) (dcons (bs [115, 119, 97, 112]) (dcons (bs [109, 111, 118, 101]) (dcons (bs [99, 117, 116]) (dcons (bs [100, 111, 110, 101]) (dcons (bs [102, 117, 108, 108]) dnil))))))))))) (some (dat z_s (dcons (bs [110, 111, 110, 101]) (dcons (bs [115, 99, 97, 110]) (dcons (bs [108, 101, 97, 118, 101, 115]) (dcons (bs [108, 101, 118, 101, 108, 115]) (dcons (bs [115, 119, 97, 112]) (dcons (bs [109, 111, 118, 101]) (dcons (bs [99, 117, 116]) (dcons (bs [100, 111, 110, 101]) (dcons (bs [102, 117, 108, 108]) dnil))))))))) a0.1)) none) none)
/- loop.example/g00492/laws.toIntS -/
def laws_toIntS_L3 : Nat → (((List Int)) × ((List Int)) × Int) → Option ((List Int))
  | 0, _ => none
  | n + 1, (a0, a1, a2) => dif (ilt a2 (dlen a0)) (dif (ile (0 : Int) a2) (dif (ilt a2 (dlen a0)) (dif (ile (0 : Int) a2) (dif (ilt a2 (dlen a1)) (laws_toIntS_L3 n (a0, dset a1 a2 (dat z_i a0 a2), iadd .i64 a2 (1 : Int))) none) none) none) none) (some a1)
def laws_toIntS_N (n : Nat) : ((List Int)) → Option ((List Int)) := fun a0 => dif (ile (0 : Int) (dlen a0)) (dif (ile (dlen a0) (dlen a0)) (dif (droom (dlen a0) (0 : Int) 8) (laws_toIntS_L3 n (a0, dmake (dlen a0) (0 : Int), (0 : Int))) none) none) none
def laws_toIntS : ((List Int)) → Option ((List Int)) := fun x => lim fun n => laws_toIntS_N n x
theorem laws_toIntS_mono : ∀ n x, Le (laws_toIntS_L3 n x) (laws_toIntS_L3 (n + 1) x)
  | 0, _ => Le.none _
  | n + 1, x => by
    have ih := laws_toIntS_mono n
    simp only [laws_toIntS_L3]
    repeat' first | exact ih _ | apply Le.dif | (refine Le.dbind fun _ => ?_) | exact Le.refl _
theorem laws_toIntS_monoN (n : Nat) (x) : Le (laws_toIntS_N n x) (laws_toIntS_N (n + 1) x) := by
  have ih := laws_toIntS_mono n
  simp only [laws_toIntS_N]
  repeat' first | exact ih _ | apply Le.dif | (refine Le.dbind fun _ => ?_) | exact Le.refl _
theorem laws_toIntS_of {n : Nat} {x y} (h : laws_toIntS_N n x = some y) : laws_toIntS x = some y := lim_of (fun n => laws_toIntS_monoN n x) h
/- loop.example/g00492/laws.toBox -/
def laws_toBox : (Int × Int × Int × Int) → Option (Int × Int × Int × Int) := fun a0 => some a0
/- loop.example/g00492/laws.toItem -/
def laws_toItem : (Int × Int × Int × Int × Int) → Option (Int × Int × Int × Int × Int) := fun a0 => dbind (laws_toBox a0.2) fun r => some (a0.1, r)
/- loop.example/g00492/laws.toItemS -/
def laws_toItemS_L3 : Nat → (((List (Int × Int × Int × Int × Int))) × ((List (Int × Int × Int × Int × Int))) × Int) → Option ((List (Int × Int × Int × Int × Int)))
  | 0, _ => none
  | n + 1, (a0, a1, a2) => dif (ilt a2 (dlen a0)) (dif (ile (0 : Int) a2) (dif (ilt a2 (dlen a0)) (dbind (laws_toItem (dat z_iiiii a0 a2)) fun r => dif (ile (0 : Int) a2) (dif (ilt a2 (dlen a1)) (laws_toItemS_L3 n (a0, dset a1 a2 r, iadd .i64 a2 (1 : Int))) none) none) none) none) (some a1)
def laws_toItemS_N (n : Nat) : ((List (Int × Int × Int × Int × Int))) → Option ((List (Int × Int × Int × Int × Int))) := fun a0 => dif (ile (0 : Int) (dlen a0)) (dif (ile (dlen a0) (dlen a0)) (dif (droom (dlen a0) (0 : Int) 40) (laws_toItemS_L3 n (a0, dmake (dlen a0) ((0 : Int), (0 : Int), (0 : Int), (0 : Int), (0 : Int)), (0 : Int))) none) none) none
def laws_toItemS : ((List (Int × Int × Int × Int × Int))) → Option ((List (Int × Int × Int × Int × Int))) := fun x => lim fun n => laws_toItemS_N n x
theorem laws_toItemS_mono : ∀ n x, Le (laws_toItemS_L3 n x) (laws_toItemS_L3 (n + 1) x)
  | 0, _ => Le.none _
  | n + 1, x => by
    have ih := laws_toItemS_mono n
    simp only [laws_toItemS_L3]
    repeat' first | exact ih _ | apply Le.dif | (refine Le.dbind fun _ => ?_) | exact Le.refl _
theorem laws_toItemS_monoN (n : Nat) (x) : Le (laws_toItemS_N n x) (laws_toItemS_N (n + 1) x) := by
  have ih := laws_toItemS_mono n
  simp only [laws_toItemS_N]
  repeat' first | exact ih _ | apply Le.dif | (refine Le.dbind fun _ => ?_) | exact Le.refl _
theorem laws_toItemS_of {n : Nat} {x y} (h : laws_toItemS_N n x = some y) : laws_toItemS x = some y := lim_of (fun n => laws_toItemS_monoN n x) h
/- loop.example/g00492/laws.toEntry -/
def laws_toEntry : (Int × Int × Int × Int × Int) → Option (Int × Int × Int × Int × Int) := fun a0 => dbind (laws_toBox a0.2) fun r => some (a0.1, r)
/- loop.example/g00492/laws.toEntryS -/
def laws_toEntryS_L3 : Nat → (((List (Int × Int × Int × Int × Int))) × ((List (Int × Int × Int × Int × Int))) × Int) → Option ((List (Int × Int × Int × Int × Int)))
  | 0, _ => none
  | n + 1, (a0, a1, a2) => dif (ilt a2 (dlen a0)) (dif (ile (0 : Int) a2) (dif (ilt a2 (dlen a0)) (dbind (laws_toEntry (dat z_iiiii a0 a2)) fun r => dif (ile (0 : Int) a2) (dif (ilt a2 (dlen a1)) (laws_toEntryS_L3 n (a0, dset a1 a2 r, iadd .i64 a2 (1 : Int))) none) none) none) none) (some a1)
def laws_toEntryS_N (n : Nat) : ((List (Int × Int × Int × Int × Int))) → Option ((List (Int × Int × Int × Int × Int))) := fun a0 => dif (ile (0 : Int) (dlen a0)) (dif (ile (dlen a0) (dlen a0)) (dif (droom (dlen a0) (0 : Int) 40) (laws_toEntryS_L3 n (a0, dmake (dlen a0) ((0 : Int), (0 : Int), (0 : Int), (0 : Int), (0 : Int)), (0 : Int))) none) none) none
def laws_toEntryS : ((List (Int × Int × Int × Int × Int))) → Option ((List (Int × Int × Int × Int × Int))) := fun x => lim fun n => laws_toEntryS_N n x
theorem laws_toEntryS_mono : ∀ n x, Le (laws_toEntryS_L3 n x) (laws_toEntryS_L3 (n + 1) x)
  | 0, _ => Le.none _
  | n + 1, x => by
    have ih := laws_toEntryS_mono n
    simp only [laws_toEntryS_L3]
    repeat' first | exact ih _ | apply Le.dif | (refine Le.dbind fun _ => ?_) | exact Le.refl _
theorem laws_toEntryS_monoN (n : Nat) (x) : Le (laws_toEntryS_N n x) (laws_toEntryS_N (n + 1) x) := by
  have ih := laws_toEntryS_mono n
  simp only [laws_toEntryS_N]
  repeat' first | exact ih _ | apply Le.dif | (refine Le.dbind fun _ => ?_) | exact Le.refl _
theorem laws_toEntryS_of {n : Nat} {x y} (h : laws_toEntryS_N n x = some y) : laws_toEntryS x = some y := lim_of (fun n => laws_toEntryS_monoN n x) h
/- loop.example/g00492/laws.toVac -/
def laws_toVac : (Int × (List Int) × (List (Int × Int × Int × Int × Int)) × (List (Int × Int × Int × Int × Int)) × (List (Int × Int × Int × Int × Int)) × (List Int)) → Option (Int × (List Int) × (List (Int × Int × Int × Int × Int)) × (List (Int × Int × Int × Int × Int)) × (List (Int × Int × Int × Int × Int)) × (List Int)) := fun a0 => dbind (laws_toIntS a0.2.1) fun r => dbind (laws_toItemS a0.2.2.1) fun r_1 => dbind (laws_toEntryS a0.2.2.2.1) fun r_2 => dbind (laws_toEntryS a0.2.2.2.2.1) fun r_3 => dbind (laws_toIntS a0.2.2.2.2.2) fun r_4 => some (a0.1, r, r_1, r_2, r_3, r_4)
/- loop.example/g00492/impl.name -/
def impl_name : (Int × (List ByteArray)) → Option ByteArray := fun (a0, a1) => dif (ilt a0 (0 : Int)) (some (bs [])) (dif (ile (dlen a1) a0) (some (bs [])) (dif (ile (0 : Int) a0) (dif (ilt a0 (dlen a1)) (some (dat z_s a1 a0)) none) none))
/- loop.example/g00492/impl.VacText -/
def impl_VacText : (Int × (List Int) × (List (Int × Int × Int × Int × Int)) × (List (Int × Int × Int × Int × Int)) × (List (Int × Int × Int × Int × Int)) × (List Int)) → Option ByteArray := fun a0 => dbind (impl_name (a0.1, dcons (bs [110, 111, 110, 101]) (dcons (bs [115, 99, 97, 110]) (dcons (bs [108, 101, 97, 118, 101, 115]) (dcons (bs [108, 101, 118, 101, 108, 115]) (dcons (bs [115, 119, 97, 112]) (dcons (bs [109, 111, 118, 101]) (dcons (bs [99, 117, 116]) (dcons (bs [100, 111, 110, 101]) (dcons (bs [102, 117, 108, 108]) dnil)))))))))) fun r => some r
/- loop.example/g00492/laws.eqIntS -/
def laws_eqIntS_L4 : Nat → (((List Int)) × ((List Int)) × Int) → Option Bool
  | 0, _ => none
  | n + 1, (a0, a1, a2) => dif (ilt a2 (dlen a0)) (dif (ile (0 : Int) a2) (dif (ilt a2 (dlen a0)) (dif (ile (0 : Int) a2) (dif (ilt a2 (dlen a1)) (dif (ine (dat z_i a0 a2) (dat z_i a1 a2)) (some false) (laws_eqIntS_L4 n (a0, a1, iadd .i64 a2 (1 : Int)))) none) none) none) none) (some true)
def laws_eqIntS_N (n : Nat) : (((List Int)) × (List Int)) → Option Bool := fun (a0, a1) => dif (ine (dlen a0) (dlen a1)) (some false) (laws_eqIntS_L4 n (a0, a1, (0 : Int)))
def laws_eqIntS : (((List Int)) × (List Int)) → Option Bool := fun x => lim fun n => laws_eqIntS_N n x
theorem laws_eqIntS_mono : ∀ n x, Le (laws_eqIntS_L4 n x) (laws_eqIntS_L4 (n + 1) x)
  | 0, _ => Le.none _
  | n + 1, x => by
    have ih := laws_eqIntS_mono n
    simp only [laws_eqIntS_L4]
    repeat' first | exact ih _ | apply Le.dif | (refine Le.dbind fun _ => ?_) | exact Le.refl _
theorem laws_eqIntS_monoN (n : Nat) (x) : Le (laws_eqIntS_N n x) (laws_eqIntS_N (n + 1) x) := by
  have ih := laws_eqIntS_mono n
  simp only [laws_eqIntS_N]
  repeat' first | exact ih _ | apply Le.dif | (refine Le.dbind fun _ => ?_) | exact Le.refl _
theorem laws_eqIntS_of {n : Nat} {x y} (h : laws_eqIntS_N n x = some y) : laws_eqIntS x = some y := lim_of (fun n => laws_eqIntS_monoN n x) h
/- loop.example/g00492/laws.eqBox -/
def laws_eqBox : ((Int × Int × Int × Int) × Int × Int × Int × Int) → Option Bool := fun (a0, a1) => dif (ine a0.1 a1.1) (some false) (dif (ine a0.2.1 a1.2.1) (some false) (dif (ine a0.2.2.1 a1.2.2.1) (some false) (dif (ine a0.2.2.2 a1.2.2.2) (some false) (some true))))
/- loop.example/g00492/laws.eqItem -/
def laws_eqItem : ((Int × Int × Int × Int × Int) × Int × Int × Int × Int × Int) → Option Bool := fun (a0, a1) => dif (ine a0.1 a1.1) (some false) (dbind (laws_eqBox (a0.2, a1.2)) fun r => dif (dnot r) (some false) (some true))
/- loop.example/g00492/laws.eqItemS -/
def laws_eqItemS_L4 : Nat → (((List (Int × Int × Int × Int × Int))) × ((List (Int × Int × Int × Int × Int))) × Int) → Option Bool
  | 0, _ => none
  | n + 1, (a0, a1, a2) => dif (ilt a2 (dlen a0)) (dif (ile (0 : Int) a2) (dif (ilt a2 (dlen a0)) (dif (ile (0 : Int) a2) (dif (ilt a2 (dlen a1)) (dbind (laws_eqItem (dat z_iiiii a0 a2, dat z_iiiii a1 a2)) fun r => dif (dnot r) (some false) (laws_eqItemS_L4 n (a0, a1, iadd .i64 a2 (1 : Int)))) none) none) none) none) (some true)
def laws_eqItemS_N (n : Nat) : (((List (Int × Int × Int × Int × Int))) × (List (Int × Int × Int × Int × Int))) → Option Bool := fun (a0, a1) => dif (ine (dlen a0) (dlen a1)) (some false) (laws_eqItemS_L4 n (a0, a1, (0 : Int)))
def laws_eqItemS : (((List (Int × Int × Int × Int × Int))) × (List (Int × Int × Int × Int × Int))) → Option Bool := fun x => lim fun n => laws_eqItemS_N n x
theorem laws_eqItemS_mono : ∀ n x, Le (laws_eqItemS_L4 n x) (laws_eqItemS_L4 (n + 1) x)
  | 0, _ => Le.none _
  | n + 1, x => by
    have ih := laws_eqItemS_mono n
    simp only [laws_eqItemS_L4]
    repeat' first | exact ih _ | apply Le.dif | (refine Le.dbind fun _ => ?_) | exact Le.refl _
theorem laws_eqItemS_monoN (n : Nat) (x) : Le (laws_eqItemS_N n x) (laws_eqItemS_N (n + 1) x) := by
  have ih := laws_eqItemS_mono n
  simp only [laws_eqItemS_N]
  repeat' first | exact ih _ | apply Le.dif | (refine Le.dbind fun _ => ?_) | exact Le.refl _
theorem laws_eqItemS_of {n : Nat} {x y} (h : laws_eqItemS_N n x = some y) : laws_eqItemS x = some y := lim_of (fun n => laws_eqItemS_monoN n x) h
/- loop.example/g00492/laws.eqEntry -/
def laws_eqEntry : ((Int × Int × Int × Int × Int) × Int × Int × Int × Int × Int) → Option Bool := fun (a0, a1) => dif (ine a0.1 a1.1) (some false) (dbind (laws_eqBox (a0.2, a1.2)) fun r => dif (dnot r) (some false) (some true))
/- loop.example/g00492/laws.eqEntryS -/
def laws_eqEntryS_L4 : Nat → (((List (Int × Int × Int × Int × Int))) × ((List (Int × Int × Int × Int × Int))) × Int) → Option Bool
  | 0, _ => none
  | n + 1, (a0, a1, a2) => dif (ilt a2 (dlen a0)) (dif (ile (0 : Int) a2) (dif (ilt a2 (dlen a0)) (dif (ile (0 : Int) a2) (dif (ilt a2 (dlen a1)) (dbind (laws_eqEntry (dat z_iiiii a0 a2, dat z_iiiii a1 a2)) fun r => dif (dnot r) (some false) (laws_eqEntryS_L4 n (a0, a1, iadd .i64 a2 (1 : Int)))) none) none) none) none) (some true)
def laws_eqEntryS_N (n : Nat) : (((List (Int × Int × Int × Int × Int))) × (List (Int × Int × Int × Int × Int))) → Option Bool := fun (a0, a1) => dif (ine (dlen a0) (dlen a1)) (some false) (laws_eqEntryS_L4 n (a0, a1, (0 : Int)))
def laws_eqEntryS : (((List (Int × Int × Int × Int × Int))) × (List (Int × Int × Int × Int × Int))) → Option Bool := fun x => lim fun n => laws_eqEntryS_N n x
theorem laws_eqEntryS_mono : ∀ n x, Le (laws_eqEntryS_L4 n x) (laws_eqEntryS_L4 (n + 1) x)
  | 0, _ => Le.none _
  | n + 1, x => by
    have ih := laws_eqEntryS_mono n
    simp only [laws_eqEntryS_L4]
    repeat' first | exact ih _ | apply Le.dif | (refine Le.dbind fun _ => ?_) | exact Le.refl _
theorem laws_eqEntryS_monoN (n : Nat) (x) : Le (laws_eqEntryS_N n x) (laws_eqEntryS_N (n + 1) x) := by
  have ih := laws_eqEntryS_mono n
  simp only [laws_eqEntryS_N]
  repeat' first | exact ih _ | apply Le.dif | (refine Le.dbind fun _ => ?_) | exact Le.refl _
theorem laws_eqEntryS_of {n : Nat} {x y} (h : laws_eqEntryS_N n x = some y) : laws_eqEntryS x = some y := lim_of (fun n => laws_eqEntryS_monoN n x) h
/- loop.example/g00492/laws.eqVac -/
def laws_eqVac : ((Int × (List Int) × (List (Int × Int × Int × Int × Int)) × (List (Int × Int × Int × Int × Int)) × (List (Int × Int × Int × Int × Int)) × (List Int)) × Int × (List Int) × (List (Int × Int × Int × Int × Int)) × (List (Int × Int × Int × Int × Int)) × (List (Int × Int × Int × Int × Int)) × (List Int)) → Option Bool := fun (a0, a1) => dif (ine a0.1 a1.1) (some false) (dbind (laws_eqIntS (a0.2.1, a1.2.1)) fun r => dif (dnot r) (some false) (dbind (laws_eqItemS (a0.2.2.1, a1.2.2.1)) fun r => dif (dnot r) (some false) (dbind (laws_eqEntryS (a0.2.2.2.1, a1.2.2.2.1)) fun r => dif (dnot r) (some false) (dbind (laws_eqEntryS (a0.2.2.2.2.1, a1.2.2.2.2.1)) fun r => dif (dnot r) (some false) (dbind (laws_eqIntS (a0.2.2.2.2.2, a1.2.2.2.2.2)) fun r => dif (dnot r) (some false) (some true))))))
/- loop.example/g00492/laws.FnExactVacText -/
def laws_FnExactVacText : (Int × (List Int) × (List (Int × Int × Int × Int × Int)) × (List (Int × Int × Int × Int × Int)) × (List (Int × Int × Int × Int × Int)) × (List Int)) → Option Bool := fun a0 => dbind (laws_szVac (a0, (1048576 : Int))) fun r => dif (ilt r (0 : Int)) (some true) (dbind (laws_toVac a0) fun r => dbind (spec_VacText r) fun r => dbind (laws_toVac a0) fun r_1 => dbind (impl_VacText r_1) fun r_2 => dif (dnes r_2 r) (some false) (dbind (laws_toVac a0) fun r => dbind (laws_eqVac (r_1, r)) fun r => dif (dnot r) (some false) (some true)))
end Rig.Pure
