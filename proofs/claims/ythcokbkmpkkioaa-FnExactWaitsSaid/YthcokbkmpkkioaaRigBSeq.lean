/- Part of Rig, a reflective evaluator of this project's own: a function's code, run over typed data by Lean's kernel, gives its contract. No condition. -/
import Derived.Test.YthcokbkmpkkioaaRigBOps9
import Derived.OrdersHeld
set_option linter.unusedVariables false
set_option linter.unusedSimpArgs false
namespace Rig
open Go
section
variable {P : Program} {w0 w w' : World} {F0 : Own} {s s' : St} {m m' : Nat → Loc} {ok ok' : Nat → Prop} {a : Act} {o : Oper} {next : Act → World → Prop} {Q : Exit → Act → World → Prop}
variable {Θ : Tab} {Γ : Env} {ρ : Type} {k : St → Option ρ} {r : ρ} {ops : Array Oper}

theorem Stay.step {s1 : St} {m1 : Nat → Loc} {ok1 : Nat → Prop} {w1 x : World} (R : Rel w0 F0 s m ok a w) (hok : ∀ b, ok b → ok1 b) (hm : ∀ o, o < s.n → m1 o = m o) (h : Soft s m ok w s1 w1) (hx : Stay s1 m1 ok1 w1 x) : Stay s m ok w x :=
  ⟨fun b hb => (hx.1 b (hok b hb)).trans (h.1.1 b hb), fun o b cs ho hb => by
    have hlt := obj_lt R (o := o) (by rw [ho]; exact nofun)
    exact (hx.2 o b cs (h.2 o cs ho) (by rw [hm o hlt]; exact hb)).trans (h.1.2 o b cs ho hb)⟩
theorem Soft.trans {s1 s2 : St} {m1 : Nat → Loc} {ok1 : Nat → Prop} {w1 w2 : World} (R : Rel w0 F0 s m ok a w) (hok : ∀ b, ok b → ok1 b) (hm : ∀ o, o < s.n → m1 o = m o) (h : Soft s m ok w s1 w1) (h2 : Soft s1 m1 ok1 w1 s2 w2) : Soft s m ok w s2 w2 :=
  ⟨Stay.step R hok hm h h2.1, fun o cs ho => h2.2 o cs (h.2 o cs ho)⟩

theorem Rel.retmp (R : Rel w0 F0 s m ok a w) (d : Nat) {v : V} (h : VR w ok m s.n v (a.tmps.getD d undef)) : Rel w0 F0 (s.setTmp d v) m ok a w where
  defers := R.defers
  size := R.size
  tmps := fun i hi => by
    show VR w ok m s.n (look .undef ((d, v) :: s.tmps) i) (a.tmps.getD i undef)
    rw [look_cons]
    by_cases hd : d = i
    · subst hd; rw [if_pos rfl]; exact h
    · rw [if_neg hd]; exact R.tmps i hi
  objs := R.objs
  live := R.live
  apart := R.apart
  exok := R.exok
  okold := R.okold
  okin := R.okin
  okup := R.okup
  grew := R.grew

/-- what a region's operation leads to -/
def LeadsA (w0 : World) (F0 : Own) (s : St) (m : Nat → Loc) (ok : Nat → Prop) (w : World) (q : Bool) (k : St → Option ρ) (r : ρ) (K : Act → World → Prop) : Prop :=
  ∀ s' m' ok' a' w', Rel w0 F0 s' m' ok' a' w' → s'.N = s.N → s.n ≤ s'.n → (∀ b, ok b → ok' b) → (∀ o, o < s.n → m' o = m o) → (q = true → Soft s m ok w s' w') → k s' = some r → K a' w'
theorem LeadsA.retmp {q : Bool} {K : Act → World → Prop} (L : LeadsA w0 F0 s m ok w q k r K) (d : Nat) (v : V) : LeadsA w0 F0 (s.setTmp d v) m ok w q k r K := L
theorem LeadsA.toOp {q : Bool} {K : Act → World → Prop} (L : LeadsA w0 F0 s m ok w q k r K) (dst : Option Nat) : Leads w0 F0 s m ok a w q (fun v s' => V.force v fun v => k (put s' dst v)) r (fun v w' => K (a.put dst v) w') := fun v V s' m' ok' w' R hN ht hn hok hl hS hV hk => by
  have hk : (Rig.V.force V fun v => k (put s' dst v)) = some r := hk
  rw [Rig.V.force_eq] at hk
  refine L (put s' dst V) m' ok' (a.put dst v) w' (R.put hV dst) ?_ ?_ hok hl ?_ hk
  · cases dst <;> exact hN
  · cases dst <;> exact hn
  · intro hq; cases dst <;> exact hS hq
theorem LeadsA.skip {q : Bool} {K : Act → World → Prop} (L : LeadsA w0 F0 s m ok w q k r K) (R : Rel w0 F0 s m ok a w) (dst : Option Nat) (hk : k (put s dst .undef) = some r) : K (a.put dst undef) w := by
  refine L (put s dst .undef) m ok (a.put dst undef) w (R.put (v := .undef) trivial dst) ?_ ?_ (fun _ h => h) (fun _ _ => rfl) ?_ hk
  · cases dst <;> rfl
  · cases dst <;> exact Nat.le_refl _
  · intro hq; cases dst <;> exact ⟨Stay.refl _ _ _ _, fun _ _ h => h⟩

theorem yielded_of (R : Rel w0 F0 s m ok a w) {j d : Nat} {oj : Oper} (hj : lget? ops.toList j = some oj) (hd : oj.dst = some d) {v : V} (hv : s.tmp d = v) {b : Bool} (hb : v = .bool b ∨ v = .lit b) : yielded ops a.tmps j = some b ∧ a.tmps.getD d undef = .bool b := by
  rw [lget?_eq, Array.getElem?_toList] at hj
  rw [St.tmp_eq] at hv
  by_cases hN : d < s.N
  · rw [if_pos hN] at hv
    have h := R.tmps d hN
    rw [hv] at h
    have h' : a.tmps.getD d undef = .bool b := by rcases hb with e | e <;> subst e <;> exact h
    refine ⟨?_, h'⟩
    have hlt : d < a.tmps.size := by rw [R.size]; exact hN
    have hg : a.tmps[d]? = some (.bool b) := by
      rw [Array.getD_eq_getD_getElem?, Array.getElem?_eq_getElem hlt] at h'
      rw [Array.getElem?_eq_getElem hlt]
      exact congrArg some h'
    unfold yielded
    simp [hj, hd, hg]
  · rw [if_neg hN] at hv
    subst hv
    rcases hb with e | e <;> cases e

theorem evOne_ok (hΘ : TabOk P Θ) (hΓ : EnvOk P Γ) {i : Nat} (hi : ops[i]? = some o) (R : Rel w0 F0 s m ok a w) (h : evOne Θ Γ ops.toList o s k = some r) {q : Bool} (hq : q = true → softOp Γ o.op = true) {K : Act → World → Prop}
    (L : LeadsA w0 F0 s m ok w q k r K) : wpOp P ops Q i K a w := by
  unfold wpOp
  rw [hi]
  simp only
  have run : Region.wanted o (yielded ops a.tmps) = true → ∀ {s1 : St}, Rel w0 F0 s1 m ok a w → LeadsA w0 F0 s1 m ok w q k r K → (evOp Θ Γ o.op s1 fun v s' => V.force v fun v => k (put s' o.dst v)) = some r →
      (if Region.wanted o (yielded ops a.tmps) = true then o.wp P a w K Q ∨ (o.asks P a w ∧ LetsOut Q) else K (a.put o.dst undef) w) := fun hw s1 R1 L1 h1 => by
    rw [if_pos hw]
    exact .inl (ev_op hΘ hΓ R1 h1 hq (L1.toOp o.dst))
  have skip : Region.wanted o (yielded ops a.tmps) = false → ∀ {s1 : St}, Rel w0 F0 s1 m ok a w → LeadsA w0 F0 s1 m ok w q k r K → k (put s1 o.dst .undef) = some r →
      (if Region.wanted o (yielded ops a.tmps) = true then o.wp P a w K Q ∨ (o.asks P a w ∧ LetsOut Q) else K (a.put o.dst undef) w) := fun hw s1 R1 L1 h1 => by
    rw [if_neg (by rw [hw]; simp)]
    exact L1.skip R1 o.dst h1
  unfold evOne at h
  split at h
  · rename_i hg
    exact run (by simp [Region.wanted, hg]) R L h
  · rename_i j want hg
    split at h
    case h_2 => cases h
    rename_i d op2 ty2 pos2 after2 guard2 hj
    have wanted : ∀ b, yielded ops a.tmps j = some b → Region.wanted o (yielded ops a.tmps) = (b == want) := fun b hb => by
      unfold Region.wanted
      rw [hg]
      simp only [hb]
      cases b <;> cases want <;> rfl
    split at h
    · rename_i b hb
      obtain ⟨hy, _⟩ := yielded_of R hj rfl hb (b := b) (.inr rfl)
      have hw := wanted b hy
      split at h
      · exact run hw R L h
      · exact run hw R L h
      · rename_i h1 h2
        refine skip (hw.trans ?_) R L h
        cases b <;> cases want <;> first | rfl | exact (h1 rfl rfl).elim | exact (h2 rfl rfl).elim
    · rename_i b hb
      obtain ⟨hy, hv⟩ := yielded_of R hj rfl hb (b := b) (.inl rfl)
      have hw := wanted b hy
      have R2 : Rel w0 F0 (s.setTmp d (.lit b)) m ok a w := R.retmp d (v := .lit b) hv
      split at h
      · cases b with
        | true => exact run hw R2 (L.retmp d _) h
        | false => exact skip hw R2 (L.retmp d _) h
      · cases b with
        | true => exact skip hw R2 (L.retmp d _) h
        | false => exact run hw R2 (L.retmp d _) h
    · cases h

theorem evOps_ok (hΘ : TabOk P Θ) (hΓ : EnvOk P Γ) : ∀ (n i : Nat) {s : St} {m : Nat → Loc} {ok : Nat → Prop} {a : Act} {w : World}, i + n = ops.size → Rel w0 F0 s m ok a w → evOps Θ Γ ops.toList (ops.toList.drop i) s k = some r →
    LeadsA w0 F0 s m ok w false k r (Q .normal) → wpOps P ops Q (List.range' i n) a w
  | 0, i, s, m, ok, a, w, hin, R, h, L => by
    rw [List.drop_eq_nil_of_le (by simp; omega)] at h
    exact L s m ok a w R rfl (Nat.le_refl _) (fun _ h => h) (fun _ _ => rfl) nofun h
  | n + 1, i, s, m, ok, a, w, hin, R, h, L => by
    have hlt : i < ops.size := by omega
    rw [List.drop_eq_getElem_cons (by simpa using hlt)] at h
    rw [List.range'_succ, wpOps_cons]
    refine evOne_ok (q := false) hΘ hΓ (o := ops[i]) (Array.getElem?_eq_getElem hlt) R h nofun fun s1 m1 ok1 a1 w1 R1 hN hn hok hl _ hk => ?_
    exact evOps_ok hΘ hΓ n (i + 1) (by omega) R1 hk fun s2 m2 ok2 a2 w2 R2 hN2 hn2 hok2 hl2 hS2 hk2 =>
      L s2 m2 ok2 a2 w2 R2 (hN2.trans hN) (Nat.le_trans hn hn2) (fun b hb => hok2 b (hok b hb)) (fun o ho => (hl2 o (Nat.lt_of_lt_of_le ho hn)).trans (hl o ho)) nofun hk2
end
end Rig
