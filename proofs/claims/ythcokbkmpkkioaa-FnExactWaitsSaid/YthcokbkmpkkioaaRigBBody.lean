/- Part of Rig, a reflective evaluator of this project's own: a function's code, run over typed data by Lean's kernel, gives its contract. No condition. -/
import Derived.Test.YthcokbkmpkkioaaRigBSlots
set_option linter.unusedVariables false
set_option linter.unusedSimpArgs false
noncomputable section
namespace Rig
open Go
section
variable {P : Program} {w0 w w' : World} {F0 : Own} {s s' : St} {m m' : Nat → Loc} {ok ok' : Nat → Prop} {a : Act} {Q : Exit → Act → World → Prop}
variable {Θ : Tab} {Γ : Env} {ρ : Type} {r : ρ}

theorem FreeB.sub1 {b : Nat} {F1 F2 : List Nat} (h : FreeB w0 F0 s m ok ((b :: F1) ++ F2)) : FreeB w0 F0 s m ok F1 ∧ FreeB w0 F0 s m ok [b] :=
  ⟨⟨(List.nodup_cons.1 h.left.1).2, fun b' hb => h.left.2 b' (List.mem_cons_of_mem _ hb)⟩, ⟨List.nodup_cons.2 ⟨by simp, List.nodup_nil⟩, fun b' hb => by
    have : b' = b := by simpa using hb
    subst this
    exact h.left.2 b' (by simp)⟩⟩
theorem FreeB.one {s1 : St} {m1 : Nat → Loc} {b : Nat} {F1 F2 : List Nat} (h : FreeB w0 F0 s m ok ((b :: F1) ++ F2)) (E : Ext s m F1 s1 m1) : ¬ ok b ∧ (w0.heap.size ≤ b ∨ F0 b) ∧ ¬ pool s1 m1 b := by
  have h0 := h.left.2 b (by simp)
  refine ⟨h0.1, h0.2.1, fun hp => ?_⟩
  rcases E.pool b hp with hp | hp
  · exact h0.2.2 hp
  · exact (List.nodup_cons.1 h.left.1).1 hp
theorem FreeB.after {s1 s2 : St} {m1 m2 : Nat → Loc} {b : Nat} {F1 F2 : List Nat} (h : FreeB w0 F0 s m ok ((b :: F1) ++ F2)) (E : Ext s m F1 s1 m1) (h2 : ∀ b', pool s2 m2 b' → pool s1 m1 b' ∨ b' = b) : FreeB w0 F0 s2 m2 ok F2 :=
  ⟨(List.nodup_append.1 h.1).2.1, fun b' hb => by
    have h0 := h.2 b' (List.mem_append_right _ hb)
    refine ⟨h0.1, h0.2.1, fun hp => ?_⟩
    rcases h2 b' hp with hp | hp
    · rcases E.pool b' hp with hp | hp
      · exact h0.2.2 hp
      · exact (List.nodup_append.1 h.1).2.2 b' (List.mem_cons_of_mem _ hp) b' hb rfl
    · subst hp
      exact (List.nodup_append.1 h.1).2.2 b' (by simp) b' hb rfl⟩

/-- the variables' numbers are theirs -/
def Pars (kp : Nat) (base : Nat → Loc) (s : St) (m : Nat → Loc) : Prop := kp ≤ s.n ∧ ∀ j, j < kp → m j = base j
def DeadOrBox (kp : Nat) (s : St) : Prop := ∀ j, j < kp → s.obj j = .dead ∨ (∃ cs, s.obj j = .box cs) ∨ ∃ row x, s.obj j = .fbox row x

theorem slot_dead (R : Rel w0 F0 s m ok a w) {j b : Nat} (hj : j < s.n) (hd : s.obj j = .dead ∨ (∃ cs, s.obj j = .box cs) ∨ ∃ row x, s.obj j = .fbox row x) (had : (m j).addr = some ⟨b, 0, none⟩) (hb : ¬ ok b ∧ ¬ pool s m b) : s.obj j = .dead := by
  rcases hd with h | ⟨cs, h⟩ | ⟨row, x, h⟩
  · exact h
  · exact absurd ⟨j, by rw [had]; rfl, by rw [h]; trivial⟩ hb.2
  · exfalso
    have hor := R.objs j
    rw [h] at hor
    obtain ⟨b', e, hok, _⟩ := hor
    rw [had] at e
    cases e
    exact hb.1 hok
theorem initSlots_ok {base : Nat → Loc} {kp : Nat} {k : St → Option ρ} : ∀ {slots : Slots} {s : St} {m : Nat → Loc} (R : Rel w0 F0 s m ok a w) {x : slots.T} {F : List Nat}, SlotsR w ok base (fun i => a.tmps.getD i undef) slots x F →
    FreeB w0 F0 s m ok F → Pars kp base s m → DeadOrBox kp s → initSlots kp slots x s k = some r → ∃ s' m', Rel w0 F0 s' m' ok a w ∧ s'.N = s.N ∧ Pars kp base s' m' ∧ k s' = some r
  | [], s, m, R, x, F, h, hf, hp, hd, hk => ⟨s, m, R, rfl, hp, hk⟩
  | (i, .val c own) :: rest, s, m, R, x, F, h, hf, hp, hd, hk => by
    obtain ⟨F1, F2, e, h1, h2⟩ := h
    subst e
    have hk' : s.put1 c own (sfst (i := i) (.val c own) rest x) (fun v s' => initSlots kp rest (ssnd (i := i) (.val c own) rest x) (s'.setTmp i v) k) = some r := hk
    obtain ⟨v, s1, m1, R1, E1, hv, hk1⟩ := put1_ok R h1 hf.left hk'
    have hf2 : FreeB w0 F0 s1 m1 ok F2 := hf.right E1
    have R2 : Rel w0 F0 (s1.setTmp i v) m1 ok a w := R1.retmp i (VR_of_a (VRa_of_1 hv))
    obtain ⟨s3, m3, R3, hN, hp3, hk3⟩ := initSlots_ok R2 h2 hf2 ⟨Nat.le_trans hp.1 E1.n, fun j hj => (E1.loc j (Nat.lt_of_lt_of_le hj hp.1)).trans (hp.2 j hj)⟩
      (fun j hj => by rw [show (s1.setTmp i v).obj j = s.obj j from E1.obj j (Nat.lt_of_lt_of_le hj hp.1)]; exact hd j hj) hk1
    exact ⟨s3, m3, R3, hN.trans E1.N, hp3, hk3⟩
  | (i, .box cells) :: rest, s, m, R, x, F, h, hf, hp, hd, hk => by
    obtain ⟨b, vs, t, fr, F1, F2, htm, hh, hc, ht, e, h2⟩ := h
    subst e
    have hk' : (outCells cells (sfst (i := i) (.box cells) rest x) s fun vs s' => V.forces vs fun vs => initSlots kp rest (ssnd (i := i) (.box cells) rest x) ((s'.new (.box vs)).setTmp i (.ptr s'.n 0)) k) = some r := hk
    obtain ⟨us, s1, m1, R1, E1, hus, hk1⟩ := outCells_ok R ht hf.sub1.1 hk'
    rw [V.forces_eq] at hk1
    have hb := hf.one E1
    have hfb : FreeB w0 F0 s1 m1 ok [b] := ⟨List.nodup_cons.2 ⟨by simp, List.nodup_nil⟩, fun b' hb' => by
      have : b' = b := by simpa using hb'
      subst this
      exact hb⟩
    obtain ⟨R2, E2⟩ := new_box R1 hh hc hus hfb
    have R3 : Rel w0 F0 ((s1.new (.box us)).setTmp i (.ptr s1.n 0)) (upd m1 s1.n ⟨some ⟨b, 0, none⟩, 0, 0, 0⟩) ok a w := R2.retmp i (v := .ptr s1.n 0) ⟨Nat.lt_succ_self _, ⟨b, 0, none⟩, by rw [upd_same], by simpa using htm⟩
    have hlt : ∀ j, j < kp → j < s1.n := fun j hj => Nat.lt_of_lt_of_le hj (Nat.le_trans hp.1 E1.n)
    obtain ⟨s3, m3, R4, hN, hp3, hk3⟩ := initSlots_ok R3 h2 (hf.after E1 (s2 := (s1.new (.box us)).setTmp i (.ptr s1.n 0)) fun b' hb' => (E2.pool b' hb').imp id (fun h => by simpa using h))
      ⟨Nat.le_trans hp.1 (Nat.le_trans E1.n E2.n), fun j hj => (E2.loc j (hlt j hj)).trans ((E1.loc j (Nat.lt_of_lt_of_le hj hp.1)).trans (hp.2 j hj))⟩
      (fun j hj => by rw [show ((s1.new (.box us)).setTmp i (.ptr s1.n 0)).obj j = s.obj j from (E2.obj j (hlt j hj)).trans (E1.obj j (Nat.lt_of_lt_of_le hj hp.1))]; exact hd j hj) hk1
    exact ⟨s3, m3, R4, hN.trans E1.N, hp3, hk3⟩
  | (i, .par j cells) :: rest, s, m, R, x, F, h, hf, hp, hd, hk => by
    obtain ⟨b, vs, t, fr, F1, F2, htm, had, hh, hc, ht, e, h2⟩ := h
    subst e
    have hk' : (match Nat.blt j kp with
      | true => outCells cells (sfst (i := i) (.par j cells) rest x) s fun vs s' => V.forces vs fun vs => initSlots kp rest (ssnd (i := i) (.par j cells) rest x) ((s'.setObj j (.box vs)).setTmp i (.ptr j 0)) k
      | false => none) = some r := hk
    split at hk'
    case h_2 => cases hk'
    rename_i hj
    have hj : j < kp := Nat.blt_eq.mp hj
    obtain ⟨us, s1, m1, R1, E1, hus, hk1⟩ := outCells_ok R ht hf.sub1.1 hk'
    rw [V.forces_eq] at hk1
    have hb := hf.one E1
    have hjn : j < s.n := Nat.lt_of_lt_of_le hj hp.1
    have hm1 : m1 j = base j := (E1.loc j hjn).trans (hp.2 j hj)
    have hdead : s1.obj j = .dead := by
      rw [E1.obj j hjn]
      exact slot_dead R hjn (hd j hj) (by rw [hp.2 j hj]; exact had) ⟨hb.1, fun hpp => hb.2.2 (by
        obtain ⟨o, h1, h2⟩ := hpp
        exact ⟨o, by rw [E1.loc o (obj_lt R (o := o) (fun e => by rw [e] at h2; exact h2))]; exact h1, by rw [E1.obj o (obj_lt R (o := o) (fun e => by rw [e] at h2; exact h2))]; exact h2⟩)⟩
    obtain ⟨R2, hpool⟩ := par_box R1 (Nat.lt_of_lt_of_le hjn E1.n) hdead (by rw [hm1]; exact had) hh hc hus hb
    have R3 : Rel w0 F0 ((s1.setObj j (.box us)).setTmp i (.ptr j 0)) m1 ok a w := R2.retmp i (v := .ptr j 0) ⟨Nat.lt_of_lt_of_le hjn E1.n, ⟨b, 0, none⟩, by rw [hm1]; exact had, by simpa using htm⟩
    obtain ⟨s3, m3, R4, hN, hp3, hk3⟩ := initSlots_ok R3 h2 (hf.after E1 (s2 := (s1.setObj j (.box us)).setTmp i (.ptr j 0)) hpool)
      ⟨Nat.le_trans hp.1 E1.n, fun j hj => (E1.loc j (Nat.lt_of_lt_of_le hj hp.1)).trans (hp.2 j hj)⟩
      (fun j' hj' => by
        rw [show ((s1.setObj j (.box us)).setTmp i (.ptr j 0)).obj j' = (s1.setObj j (.box us)).obj j' from rfl, St.obj_setObj]
        by_cases hjj : j = j'
        · rw [if_pos hjj]; exact .inr (.inl ⟨us, rfl⟩)
        · rw [if_neg hjj, E1.obj j' (Nat.lt_of_lt_of_le hj' hp.1)]; exact hd j' hj') hk1
    exact ⟨s3, m3, R4, hN.trans E1.N, hp3, hk3⟩

  | (i, .fpar j row) :: rest, s, m, R, x, F, h, hf, hp, hd, hk => by
    obtain ⟨b, htm, had, hokb, hlt, hra, h2⟩ := h
    have hk' : (match Nat.blt j kp with
      | true => initSlots kp rest (ssnd (i := i) (.fpar j row) rest x) ((s.setObj j (.fbox row (sfst (i := i) (.fpar j row) rest x))).setTmp i (.ptr j 0)) k
      | false => none) = some r := hk
    split at hk'
    case h_2 => cases hk'
    rename_i hj
    have hj := Nat.blt_eq.mp hj
    have hjn : j < s.n := Nat.lt_of_lt_of_le hj hp.1
    have hm1 : m j = base j := hp.2 j hj
    have R2 : Rel w0 F0 (s.setObj j (.fbox row (sfst (i := i) (.fpar j row) rest x))) m ok a w := R.setObj j _ (fun h => by omega) ⟨b, by rw [hm1]; exact had, hokb, hlt, hra⟩ (fun b' h => by
      have := h.2
      rw [St.obj_setObj, if_pos rfl] at this
      exact this.elim)
    have hpool : ∀ b', pool (s.setObj j (.fbox row (sfst (i := i) (.fpar j row) rest x))) m b' → pool s m b' := fun b' ⟨o, h1, h2⟩ => by
      rw [St.obj_setObj] at h2
      by_cases hjo : j = o
      · rw [if_pos hjo] at h2; exact h2.elim
      · rw [if_neg hjo] at h2; exact ⟨o, h1, h2⟩
    have R3 := R2.retmp i (v := .ptr j 0) ⟨hjn, ⟨b, 0, none⟩, by rw [hm1]; exact had, by simpa using htm⟩
    obtain ⟨s3, m3, R4, hN, hp3, hk3⟩ := initSlots_ok R3 h2 ⟨hf.1, fun b' hb' => ⟨(hf.2 b' hb').1, (hf.2 b' hb').2.1, fun hpp => (hf.2 b' hb').2.2 (hpool b' hpp)⟩⟩ hp
      (fun j' hj' => by
        rw [show ((s.setObj j (.fbox row (sfst (i := i) (.fpar j row) rest x))).setTmp i (.ptr j 0)).obj j' = (s.setObj j (.fbox row (sfst (i := i) (.fpar j row) rest x))).obj j' from rfl, St.obj_setObj]
        by_cases hjj : j = j'
        · rw [if_pos hjj]; exact .inr (.inr ⟨_, _, rfl⟩)
        · rw [if_neg hjj]; exact hd j' hj') hk'
    exact ⟨s3, m3, R4, hN, hp3, hk3⟩
  | (i, .cpar j fn js) :: rest, s, m, R, x, F, h, hf, hp, hd, hk => by
    obtain ⟨b, cs, t, fr, F2, htm, had, hh, hc, hcs, e, h2⟩ := h
    subst e
    have hk' : (match Nat.blt j kp, lall (fun j => Nat.blt j kp) js with
      | true, true => initSlots kp rest (ssnd (i := i) (.cpar j fn js) rest x) ((s.setObj j (.box [.clo fn js])).setTmp i (.ptr j 0)) k
      | _, _ => none) = some r := hk
    split at hk'
    case h_2 => cases hk'
    rename_i hj hjs
    have hj := Nat.blt_eq.mp hj
    have hjs := lall_blt hjs
    have hjn : j < s.n := Nat.lt_of_lt_of_le hj hp.1
    have hm1 : m j = base j := hp.2 j hj
    have hb := hf.left.2 b (by simp)
    have hdead : s.obj j = .dead := slot_dead R hjn (hd j hj) (by rw [hm1]; exact had) ⟨hb.1, hb.2.2⟩
    have hcl : VR1 w ok m s.n (.clo fn js) (.func (.func fn) #[] cs.toArray) := ⟨cs, rfl, hcs.impm2 fun j' hj' u ⟨ad, h1, h2⟩ => ⟨Nat.lt_of_lt_of_le (hjs j' hj') hp.1, ad, by rw [hp.2 j' (hjs j' hj')]; exact h1, h2⟩⟩
    obtain ⟨R2, hpool⟩ := par_box R hjn hdead (by rw [hm1]; exact had) hh hc (.cons hcl .nil) hb
    have R3 : Rel w0 F0 ((s.setObj j (.box [.clo fn js])).setTmp i (.ptr j 0)) m ok a w := R2.retmp i (v := .ptr j 0) ⟨hjn, ⟨b, 0, none⟩, by rw [hm1]; exact had, by simpa using htm⟩
    obtain ⟨s3, m3, R4, hN, hp3, hk3⟩ := initSlots_ok R3 h2 ⟨(List.nodup_append.1 hf.1).2.1, fun b' hb' => by
        have h0 := hf.2 b' (List.mem_append_right _ hb')
        refine ⟨h0.1, h0.2.1, fun hpp => ?_⟩
        rcases hpool b' hpp with hpp | hpp
        · exact h0.2.2 hpp
        · subst hpp; exact (List.nodup_append.1 hf.1).2.2 b' (by simp) b' hb' rfl⟩ hp
      (fun j' hj' => by
        rw [show ((s.setObj j (.box [.clo fn js])).setTmp i (.ptr j 0)).obj j' = (s.setObj j (.box [.clo fn js])).obj j' from rfl, St.obj_setObj]
        by_cases hjj : j = j'
        · rw [if_pos hjj]; exact .inr (.inl ⟨_, rfl⟩)
        · rw [if_neg hjj]; exact hd j' hj') hk'
    exact ⟨s3, m3, R4, hN, hp3, hk3⟩

/-! ### Code -/
def LFams.at (Φ : LFams ρ) (n : Nat) : List (Nat × LSpec ρ) := lmap (LFam.at n) Φ
theorem findL_at (Φ : LFams ρ) (n i : Nat) {sp : LSpec ρ} (h : findL (Φ.at n) i = some sp) : ∃ fam, findF Φ i = some fam ∧ sp = ⟨fam.slots, fam.f n⟩ := by
  unfold LFams.at at h
  induction Φ with
  | nil => cases h
  | cons p rest ih =>
    have h' : sel (Nat.beq p.1 i) (some (⟨p.2.slots, p.2.f n⟩ : LSpec ρ)) (findL (lmap (LFam.at n) rest) i) = some sp := h
    show ∃ fam, sel (Nat.beq p.1 i) (some p.2) (findF rest i) = some fam ∧ sp = ⟨fam.slots, fam.f n⟩
    cases e : Nat.beq p.1 i with
    | true =>
      rw [e] at h'
      exact ⟨p.2, rfl, (Option.some.inj h').symm⟩
    | false =>
      rw [e] at h'
      exact ih h'

abbrev KS (ρ : Type) := Nat → St → Option ρ
abbrev KE (ρ : Type) := Nat → Nat → St → Option ρ
def parsOk (kp : Nat) (slots : Slots) : Bool := lall (fun p => Sh.fine kp p.2) slots
theorem lall_mem0 {α : Type} {p : α → Bool} : ∀ {l : List α}, lall p l = true → ∀ x ∈ l, p x = true
  | [], _, _, h => by cases h
  | y :: l, h, x, hx => by
    have h' : (match p y with | true => lall p l | false => false) = true := h
    split at h'
    case h_2 => cases h'
    rename_i hy
    rcases List.mem_cons.1 hx with rfl | hx
    · exact hy
    · exact lall_mem0 h' x hx
theorem parsOk_spec {kp : Nat} {slots : Slots} (h : parsOk kp slots = true) : ∀ i sh, (i, sh) ∈ slots → Sh.fine kp sh = true := fun i sh hm => lall_mem0 h (i, sh) hm

/-- what is to be shown of the loops in c -/
def Obl (N kp : Nat) (Θ : Tab) (Γ : Env) (Φ : LFams ρ) : Code → KS ρ → KE ρ → KS ρ → Prop
  | .seq x y, kn, ke, kr => Obl N kp Θ Γ Φ x (fun n s => evC Θ Γ (Φ.at n) y (kn n) (ke n) (kr n) s) ke kr ∧ Obl N kp Θ Γ Φ y kn ke kr
  | .cond _ x y, kn, ke, kr => Obl N kp Θ Γ Φ x kn ke kr ∧ Obl N kp Θ Γ Φ y kn ke kr
  | .block id b, kn, ke, kr => Obl N kp Θ Γ Φ b kn (fun n j s => sel (Nat.beq j id) (kn n s) (ke n j s)) kr
  | .loop b, kn, ke, kr => ∀ fam, findF Φ (firstRegion b) = some fam →
      parsOk kp fam.slots = true ∧ (∀ x, fam.f 0 x = none) ∧
      (∀ n x, fam.f (n + 1) x = round N kp Θ Γ (Φ.at n) b (fun s => toLoop s ⟨fam.slots, fam.f n⟩) (ke n) (kr n) fam.slots x) ∧
      Obl N kp Θ Γ Φ b (fun n s => toLoop s ⟨fam.slots, fam.f n⟩) ke kr
  | _, _, _, _ => True

structure Here (w0 : World) (F0 : Own) (N kp : Nat) (base : Nat → Loc) (s : St) (m : Nat → Loc) (ok : Nat → Prop) (a : Act) (w : World) : Prop where
  rel : Rel w0 F0 s m ok a w
  N : s.N = N
  pars : Pars kp base s m
def Post (w0 : World) (F0 : Own) (N kp : Nat) (base : Nat → Loc) (r : ρ) (B : Nat) (kn : KS ρ) (ke : KE ρ) (kr : KS ρ) : Exit → Act → World → Prop
  | .normal, a, w => ∃ n, n ≤ B ∧ ∃ s m ok, Here w0 F0 N kp base s m ok a w ∧ kn n s = some r
  | .exit id, a, w => ∃ n, n ≤ B ∧ ∃ s m ok, Here w0 F0 N kp base s m ok a w ∧ ke n id s = some r
  | .ret, a, w => ∃ n, n ≤ B ∧ ∃ s m ok, Here w0 F0 N kp base s m ok a w ∧ kr n s = some r
  | _, _, _ => False

theorem Post.mono {N kp B B' : Nat} {base : Nat → Loc} {kn : KS ρ} {ke : KE ρ} {kr : KS ρ} (h : B ≤ B') : ∀ e a w, Post w0 F0 N kp base r B kn ke kr e a w → Post w0 F0 N kp base r B' kn ke kr e a w := fun e a w hp => by
  cases e with
  | normal => obtain ⟨n, hn, hp⟩ := hp; exact ⟨n, Nat.le_trans hn h, hp⟩
  | exit id => obtain ⟨n, hn, hp⟩ := hp; exact ⟨n, Nat.le_trans hn h, hp⟩
  | ret => obtain ⟨n, hn, hp⟩ := hp; exact ⟨n, Nat.le_trans hn h, hp⟩
  | _ => exact hp
theorem exists_least (p : Nat → Prop) : ∀ n, p n → ∃ k, p k ∧ ∀ j, p j → k ≤ j := by
  intro n
  induction n using Nat.strongRecOn with
  | _ n ih =>
    intro hn
    by_cases h : ∃ j, j < n ∧ p j
    · obtain ⟨j, hj, hp⟩ := h
      exact ih j hj hp
    · exact ⟨n, hn, fun j hj => Nat.le_of_not_lt fun hlt => h ⟨j, hlt, hj⟩⟩
theorem evC_ok (hΘ : TabOk P Θ) (hΓ : EnvOk P Γ) (hm : P.follows .mixedOrders = true) {N kp : Nat} {base : Nat → Loc} {Φ : LFams ρ} : ∀ (c : Code) (kn : KS ρ) (ke : KE ρ) (kr : KS ρ), Obl N kp Θ Γ Φ c kn ke kr →
    ∀ (n : Nat) {s : St} {m : Nat → Loc} {ok : Nat → Prop} {a : Act} {w : World}, Here w0 F0 N kp base s m ok a w → evC Θ Γ (Φ.at n) c (kn n) (ke n) (kr n) s = some r → c.wp P (Post w0 F0 N kp base r n kn ke kr) a w
  | .skip, kn, ke, kr, ho, n, s, m, ok, a, w, H, h => wp_skip ⟨n, Nat.le_refl _, s, m, ok, H, h⟩
  | .region id ops draw, kn, ke, kr, ho, n, s, m, ok, a, w, H, h => by
    have L : LeadsA w0 F0 s m ok w false (kn n) r (Post w0 F0 N kp base r n kn ke kr .normal) := fun s1 m1 ok1 a1 w1 R1 hN hn _ hl _ hk =>
      ⟨n, Nat.le_refl _, s1, m1, ok1, ⟨R1, hN.trans H.N, Nat.le_trans H.pars.1 hn, fun j hj => (hl j (Nat.lt_of_lt_of_le hj H.pars.1)).trans (H.pars.2 j hj)⟩, hk⟩
    cases draw with
    | false =>
      refine wp_region ?_
      rw [List.range_eq_range']
      exact evOps_ok hΘ hΓ ops.size 0 (by omega) H.rel (show evOps Θ Γ ops.toList (ops.toList.drop 0) s (kn n) = some r from h) L
    | true => exact evDrawn_ok hΘ hΓ hm (fun _ _ _ h => h) H.rel h L
  | .seq x y, kn, ke, kr, ho, n, s, m, ok, a, w, H, h => by
    refine wp_seq (wp_mono (evC_ok hΘ hΓ hm x (fun n s => evC Θ Γ (Φ.at n) y (kn n) (ke n) (kr n) s) ke kr ho.1 n H h) fun e a1 w1 hp => ?_)
    cases e with
    | normal =>
      obtain ⟨n1, hle, s1, m1, ok1, H1, h1⟩ := hp
      exact wp_mono (evC_ok hΘ hΓ hm y kn ke kr ho.2 n1 H1 h1) (Post.mono hle)
    | _ => exact hp
  | .cond c x y, kn, ke, kr, ho, n, s, m, ok, a, w, H, h => by
    have hc := H.rel.eval c
    have h' : (match eval s c with
      | .bool t => dif t (evC Θ Γ (Φ.at n) x (kn n) (ke n) (kr n) s) (evC Θ Γ (Φ.at n) y (kn n) (ke n) (kr n) s)
      | .lit true => evC Θ Γ (Φ.at n) x (kn n) (ke n) (kr n) s
      | .lit false => evC Θ Γ (Φ.at n) y (kn n) (ke n) (kr n) s
      | _ => none) = some r := h
    split at h'
    · rename_i t ht
      rw [ht] at hc
      cases t with
      | true => exact wp_cond_true hc (evC_ok hΘ hΓ hm x kn ke kr ho.1 n H h')
      | false => exact wp_cond_false hc (evC_ok hΘ hΓ hm y kn ke kr ho.2 n H h')
    · rename_i ht
      rw [ht] at hc
      exact wp_cond_true hc (evC_ok hΘ hΓ hm x kn ke kr ho.1 n H h')
    · rename_i ht
      rw [ht] at hc
      exact wp_cond_false hc (evC_ok hΘ hΓ hm y kn ke kr ho.2 n H h')
    · cases h'
  | .block id b, kn, ke, kr, ho, n, s, m, ok, a, w, H, h => by
    refine wp_block (wp_mono (evC_ok hΘ hΓ hm b kn (fun n j s => sel (Nat.beq j id) (kn n s) (ke n j s)) kr ho n H h) fun e a1 w1 hp => ?_)
    cases e with
    | exit j =>
      obtain ⟨n1, hle, s1, m1, ok1, H1, h1⟩ := hp
      show (if j = id then _ else _)
      by_cases hj : j = id
      · rw [if_pos hj]
        subst hj
        have h1 : sel (Nat.beq j j) (kn n1 s1) (ke n1 j s1) = some r := h1
        rw [Nat.beq_refl] at h1
        exact ⟨n1, hle, s1, m1, ok1, H1, h1⟩
      · rw [if_neg hj]
        have : Nat.beq j id = false := by
          cases e : Nat.beq j id with
          | false => rfl
          | true => exact absurd (Nat.eq_of_beq_eq_true e) hj
        have h1 : sel (Nat.beq j id) (kn n1 s1) (ke n1 j s1) = some r := h1
        rw [this] at h1
        exact ⟨n1, hle, s1, m1, ok1, H1, h1⟩
    | _ => exact hp
  | .exit id, kn, ke, kr, ho, n, s, m, ok, a, w, H, h => wp_exit ⟨n, Nat.le_refl _, s, m, ok, H, h⟩
  | .ret, kn, ke, kr, ho, n, s, m, ok, a, w, H, h => wp_ret ⟨n, Nat.le_refl _, s, m, ok, H, h⟩
  | .loop b, kn, ke, kr, ho, n, s, m, ok, a, w, H, h => by
    have h' : (match findL (Φ.at n) (firstRegion b) with | some sp => toLoop s sp | none => none) = some r := h
    split at h'
    case h_2 => cases h'
    rename_i sp hsp
    obtain ⟨fam, hfam, e⟩ := findL_at Φ n _ hsp
    subst e
    obtain ⟨hpars, hz, hround, hobl⟩ := ho fam hfam
    let J : Nat → Act → World → Prop := fun n a w => ∃ s m ok, Here w0 F0 N kp base s m ok a w ∧ toLoop s ⟨fam.slots, fam.f n⟩ = some r
    let I : Act → World → Prop := fun a w => ∃ n', n' ≤ n ∧ J n' a w
    have least : ∀ a w, ∃ k, I a w → J k a w ∧ ∀ j, J j a w → k ≤ j := fun a w => by
      by_cases hI : I a w
      · obtain ⟨n', _, hJ⟩ := hI
        obtain ⟨k, hk⟩ := exists_least (fun n => J n a w) n' hJ
        exact ⟨k, fun _ => hk⟩
      · exact ⟨0, fun h => absurd h hI⟩
    let μ : Act → World → Nat := fun a w => Classical.choose (least a w)
    have hμ : ∀ a w, I a w → J (μ a w) a w ∧ ∀ j, J j a w → μ a w ≤ j := fun a w => Classical.choose_spec (least a w)
    refine wp_loop I μ ⟨n, Nat.le_refl _, s, m, ok, H, h'⟩ fun a w hI => ?_
    obtain ⟨hJ, hleast⟩ := hμ a w hI
    have hn0 : μ a w ≤ n := by
      obtain ⟨n', hn', hJ'⟩ := hI
      exact Nat.le_trans (hleast n' hJ') hn'
    generalize hn : μ a w = n0 at hJ hn0
    obtain ⟨s1, m1, ok1, H1, h1⟩ := hJ
    unfold toLoop at h1
    simp only at h1
    split at h1
    case h_2 => cases h1
    rename_i x s2 hts
    cases n0 with
    | zero => rw [hz] at h1; cases h1
    | succ n0 =>
      rw [hround] at h1
      obtain ⟨ok2, F, R2, T, hS⟩ := takeSlots_ok (base := base) (kp := kp) H1.rel H1.pars.2 (parsOk_spec hpars) hts
      have RB : Rel w0 F0 { N := N, n := kp, tmps := [], objs := [] } base ok2 a w := by
        have := R2.blank kp base
        rw [T.N, H1.N] at this
        exact this
      have hfree : FreeB w0 F0 { N := N, n := kp, tmps := [], objs := [] } base ok2 F := ⟨T.nd, fun b hb => ⟨(T.Fn b hb).1, by
        obtain ⟨o, ho⟩ := T.Fp b hb
        exact (H1.rel.exok o b ho).2, fun ⟨o, h⟩ => h.2.elim⟩⟩
      unfold round at h1
      obtain ⟨s3, m3, R3, hN3, hp3, hk3⟩ := initSlots_ok RB hS hfree ⟨Nat.le_refl _, fun _ _ => rfl⟩ (fun _ _ => .inl rfl) h1
      refine wp_mono (evC_ok hΘ hΓ hm b (fun n s => toLoop s ⟨fam.slots, fam.f n⟩) ke kr hobl n0 ⟨R3, hN3, hp3⟩ hk3) fun e a1 w1 hp => ?_
      cases e with
      | normal =>
        obtain ⟨n4, hle4, s4, m4, ok4, H4, h4⟩ := hp
        have hJ4 : J n4 a1 w1 := ⟨s4, m4, ok4, H4, h4⟩
        have hI4 : I a1 w1 := ⟨n4, by omega, hJ4⟩
        refine ⟨hI4, ?_⟩
        have := (hμ a1 w1 hI4).2 n4 hJ4
        omega
      | _ => exact Post.mono (show n0 ≤ n by omega) _ _ _ hp
  | .label _, kn, ke, kr, ho, n, s, m, ok, a, w, H, h => absurd (show (none : Option ρ) = some r from h) nofun
  | .goto _, kn, ke, kr, ho, n, s, m, ok, a, w, H, h => absurd (show (none : Option ρ) = some r from h) nofun
end
end Rig
