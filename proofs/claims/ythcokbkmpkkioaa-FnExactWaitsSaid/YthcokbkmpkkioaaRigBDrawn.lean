/- Part of Rig, a reflective evaluator of this project's own: a function's code, run over typed data by Lean's kernel, gives its contract. No condition. -/
import Derived.Test.YthcokbkmpkkioaaRigBSeq
set_option linter.unusedVariables false
set_option linter.unusedSimpArgs false
namespace Rig
open Go
section
variable {P : Program} {w0 w w' : World} {F0 : Own} {s s' : St} {m m' : Nat → Loc} {ok ok' : Nat → Prop} {a : Act} {o : Oper} {next : Act → World → Prop} {Q : Exit → Act → World → Prop}
variable {Θ : Tab} {Γ : Env} {ρ : Type} {r : ρ} {ops : Array Oper} {md : Region.Mode}

theorem quiet_builtin {b : Builtin} {args : Array Operand} {ats : Array TypeId} {k : V → St → Option ρ} (hΘ : TabOk P Θ) (hq : quietOp (.call { callee := .builtin b, args := args, argTypes := ats }) = true) (ho : o.op = .call { callee := .builtin b, args := args, argTypes := ats }) (R : Rel w0 F0 s m ok a w)
    (h : evBuiltin Θ b (lmap (eval s) args.toList) ats.toList s k = some r) : Quiet P s m ok w o a k r := by
  cases b <;> first | exact absurd (show false = true from hq) nofun | exact ev_len hΘ ho R h | exact ev_minmax (.inl rfl) ho R h | exact ev_minmax (.inr rfl) ho R h
theorem ev_quiet {k : V → St → Option ρ} (hΘ : TabOk P Θ) (hq : quietOp o.op = true) (hc : calmOp s o.op = true) (R : Rel w0 F0 s m ok a w) (h : evOp Θ Γ o.op s k = some r) : Quiet P s m ok w o a k r := by
  have hop : ∃ p, o.op = p := ⟨_, rfl⟩
  obtain ⟨p, hop⟩ := hop
  rw [hop] at h hq hc
  match p, hop, h, hq, hc with
  | .move x, hop, h, hq, hc => exact ev_move (.inl hop) R h
  | .assign x, hop, h, hq, hc => exact ev_move (.inr hop) R h
  | .nilCheck x, hop, h, hq, hc => exact ev_nilCheck hop R h
  | .makeFunc f x y, hop, h, hq, hc => exact ev_makeFunc hop R h
  | .pick c x y, hop, h, hq, hc => exact ev_pick hop R h
  | .build t parts, hop, h, hq, hc => exact ev_build hΘ hop R h
  | .load t x, hop, h, hq, hc =>
    refine q_load hΘ (fun ob i c e => ?_) hop R h
    simp only [calmOp, e] at hc
    cases hc
  | .fieldAddr t x f, hop, h, hq, hc => exact ev_field hΘ hop R h
  | .indexAddr t x i, hop, h, hq, hc => exact ev_indexAddr hΘ hop R h
  | .index t x i, hop, h, hq, hc => exact ev_index hΘ hop R h
  | .binOp op t x y t2, hop, h, hq, hc => exact ev_bin hΘ hop R h
  | .unOp op t x, hop, h, hq, hc => exact ev_un hop R h
  | .convert src dst x, hop, h, hq, hc => exact ev_convert hΘ hop R h
  | .extract t i, hop, h, hq, hc => exact ev_extract hop R h
  | .call { callee := .builtin b, args, argTypes }, hop, h, hq, hc => exact quiet_builtin hΘ hq hop R h

theorem calm_setTmp {d : Nat} {b : Bool} {p : Op} (h : calmOp s p = true) : calmOp (s.setTmp d (.lit b)) p = true := by
  cases p with
  | load t x =>
    simp only [calmOp] at h ⊢
    cases x with
    | tmp t =>
      simp only [eval] at h ⊢
      rw [St.tmp_eq] at h ⊢
      show (match (if t < s.N then look .undef ((d, V.lit b) :: s.tmps) t else .undef) with | .op _ _ _ => false | _ => true) = true
      rw [look_cons]
      by_cases hN : t < s.N
      · rw [if_pos hN] at h ⊢
        by_cases hd : d = t
        · rw [if_pos hd]
        · rw [if_neg hd]; exact h
      · rw [if_neg hN]
    | const c =>
      have e : eval (s.setTmp d (.lit b)) (.const c) = eval s (.const c) := by
        cases c <;> first | rfl | (rename_i A n c; cases A <;> cases n <;> cases c <;> rfl)
      rw [e]; exact h
    | _ => exact h
  | _ => rfl

theorem evOne_quiet {k : St → Option ρ} (hΘ : TabOk P Θ) (hq : quietOp o.op = true) (hc : calmOp s o.op = true) (R : Rel w0 F0 s m ok a w) (h : evOne Θ Γ ops.toList o s k = some r) :
    ∃ v s1, YieldsIf P ops (Stay s m ok w) o v a ∧ Rel w0 F0 s1 m ok (a.put o.dst v) w ∧ s1.N = s.N ∧ s1.n = s.n ∧ (∀ j, s1.obj j = s.obj j) ∧ k s1 = some r := by
  have run : Region.wanted o (yielded ops a.tmps) = true → ∀ {s1 : St}, s1.N = s.N → s1.n = s.n → (∀ j, s1.obj j = s.obj j) → calmOp s1 o.op = true → Rel w0 F0 s1 m ok a w → (evOp Θ Γ o.op s1 fun v s' => V.force v fun v => k (put s' o.dst v)) = some r →
      ∃ v s1, YieldsIf P ops (Stay s m ok w) o v a ∧ Rel w0 F0 s1 m ok (a.put o.dst v) w ∧ s1.N = s.N ∧ s1.n = s.n ∧ (∀ j, s1.obj j = s.obj j) ∧ k s1 = some r := fun hw s1 hN hn ho hc1 R1 h1 => by
    obtain ⟨v, V', hr, hV, hk⟩ := ev_quiet hΘ hq hc1 R1 h1
    have hk : (V.force V' fun v => k (put s1 o.dst v)) = some r := hk
    rw [V.force_eq] at hk
    refine ⟨v, put s1 o.dst V', .inl ⟨hw, fun w' hS => hr w' ⟨hS.1, fun o b cs hb => hS.2 o b cs (by rw [← ho]; exact hb)⟩⟩, R1.put hV o.dst, ?_, ?_, ?_, hk⟩
    · cases o.dst <;> exact hN
    · cases o.dst <;> exact hn
    · intro j; cases o.dst <;> exact ho j
  have skip : Region.wanted o (yielded ops a.tmps) = false → ∀ {s1 : St}, s1.N = s.N → s1.n = s.n → (∀ j, s1.obj j = s.obj j) → Rel w0 F0 s1 m ok a w → k (put s1 o.dst .undef) = some r →
      ∃ v s1, YieldsIf P ops (Stay s m ok w) o v a ∧ Rel w0 F0 s1 m ok (a.put o.dst v) w ∧ s1.N = s.N ∧ s1.n = s.n ∧ (∀ j, s1.obj j = s.obj j) ∧ k s1 = some r := fun hw s1 hN hn ho R1 h1 => by
    refine ⟨undef, put s1 o.dst .undef, .inr ⟨hw, rfl⟩, R1.put (v := .undef) trivial o.dst, ?_, ?_, ?_, h1⟩
    · cases o.dst <;> exact hN
    · cases o.dst <;> exact hn
    · intro j; cases o.dst <;> exact ho j
  unfold evOne at h
  split at h
  · rename_i hg
    exact run (by simp [Region.wanted, hg]) rfl rfl (fun _ => rfl) hc R h
  · rename_i j want hg
    split at h
    case h_2 => cases h
    rename_i d op2 ty2 pos2 after2 guard2 hj
    have wanted : ∀ b, yielded ops a.tmps j = some b → Region.wanted o (yielded ops a.tmps) = (b == want) := fun b hb => by
      unfold Region.wanted
      rw [hg]
      simp only [hb]
      cases b <;> cases want <;> rfl
    split at h
    · rename_i b hb
      obtain ⟨hy, _⟩ := yielded_of R hj rfl hb (b := b) (.inr rfl)
      have hw := wanted b hy
      split at h
      · exact run hw rfl rfl (fun _ => rfl) hc R h
      · exact run hw rfl rfl (fun _ => rfl) hc R h
      · rename_i h1 h2
        refine skip (hw.trans ?_) rfl rfl (fun _ => rfl) R h
        cases b <;> cases want <;> first | rfl | exact (h1 rfl rfl).elim | exact (h2 rfl rfl).elim
    · rename_i b hb
      obtain ⟨hy, hv⟩ := yielded_of R hj rfl hb (b := b) (.inl rfl)
      have hw := wanted b hy
      have R2 : Rel w0 F0 (s.setTmp d (.lit b)) m ok a w := R.retmp d (v := .lit b) hv
      split at h
      · cases b with
        | true => exact run hw (s1 := s.setTmp d (.lit true)) rfl rfl (fun _ => rfl) (calm_setTmp hc) R2 h
        | false => exact skip hw (s1 := s.setTmp d (.lit false)) rfl rfl (fun _ => rfl) R2 h
      · cases b with
        | true => exact skip hw (s1 := s.setTmp d (.lit true)) rfl rfl (fun _ => rfl) R2 h
        | false => exact run hw (s1 := s.setTmp d (.lit false)) rfl rfl (fun _ => rfl) (calm_setTmp hc) R2 h
    · cases h

/-! #### whatever order comes up -/
def wpAnyV (P : Program) (md : Region.Mode) (ops : Array Oper) (Q : Exit → Act → World → Prop) : Nat → (World → Prop) → Array Bool → Act → World → Prop
  | 0, S, listed, a, w => S w ∧ Region.ready md ops listed = [] ∧ Q .normal a w
  | fuel + 1, S, listed, a, w => S w ∧ (Region.ready md ops listed = [] → Q .normal a w) ∧
    ∀ i ∈ Region.ready md ops listed, wpOp P ops Q i (fun a' w' => ∃ S', (∀ x, S' x → S x) ∧ wpAnyV P md ops Q fuel S' (listed.setIfInBounds i true) a' w') a w
theorem wpAny_of_V : ∀ (fuel : Nat) (S : World → Prop) (listed : Array Bool) (a : Act) (w : World), wpAnyV P md ops Q fuel S listed a w → wpAny P md ops Q fuel listed a w
  | 0, _, _, _, _, h => h.2
  | fuel + 1, _, _, _, _, h => ⟨h.2.1, fun i hi => wpOp_mono (fun a' w' ⟨S', _, h'⟩ => wpAny_of_V fuel S' _ a' w' h') (h.2.2 i hi)⟩
theorem wpAnyV_first {i : Nat} {oi : Oper} (hi : ops[i]? = some oi) (hsel : ∀ (j : Nat) (o : Oper) cs b, ops[j]? = some o → o.op ≠ .select cs b) {v : Value}
    (hQ : ∀ c a w, Q (.panic c) (a.put oi.dst v) w → Q (.panic c) a w) :
    ∀ (fuel : Nat) (S S1 : World → Prop) (listed : Array Bool) (a : Act) (w : World),
      (∀ j oj, ops[j]? = some oj → j ≠ i → listed.getD j true = false → (∀ e ∈ oj.after, Region.binds md e = true → e.on ≠ i) → oi.apart ops oj = true) →
      i ∈ Region.ready md ops listed → YieldsIf P ops S oi v a → S w → (∀ x, S1 x → S x) →
      wpAnyV P md ops Q fuel S1 (listed.setIfInBounds i true) (a.put oi.dst v) w → wpAnyV P md ops Q (fuel + 1) S listed a w := by
  intro fuel
  induction fuel with
  | zero =>
    intro S S1 listed a w _ hr hy hS h1 H
    refine ⟨hS, fun h => (by rw [h] at hr; cases hr), fun j hj => ?_⟩
    by_cases hji : j = i
    · subst hji; exact hy.wpOp hi hS ⟨S1, h1, H⟩
    · have := ready_mono hj hji
      rw [H.2.1] at this
      cases this
  | succ fuel ih =>
    intro S S1 listed a w hfree hr hy hS h1 H
    refine ⟨hS, fun h => (by rw [h] at hr; cases hr), fun j hj => ?_⟩
    by_cases hji : j = i
    · subst hji; exact hy.wpOp hi hS ⟨S1, h1, H⟩
    · have h1' := H.2.2 j (ready_mono hj hji)
      obtain ⟨hjun, oj, hoj, hall⟩ := mem_ready.1 hj
      have hnot : ∀ e ∈ oj.after, Region.binds md e = true → e.on ≠ i := fun e he hb heq => by
        have h1 := hall e he hb
        have h0 := (mem_ready.1 hr).1
        rw [heq] at h1
        rcases Nat.lt_or_ge i listed.size with h' | h'
        · simp [h'] at h0 h1; rw [h0] at h1; cases h1
        · simp [Array.getElem?_eq_none h'] at h1
      have h2 := wpOp_putIf hoj (hfree j oj hoj hji hjun hnot) (fun cs b => hsel i oi cs b hi) (fun cs b => hsel j oj cs b hoj) hQ hy h1'
      have hfree' : ∀ k ok, ops[k]? = some ok → k ≠ i → (listed.setIfInBounds j true).getD k true = false →
          (∀ e ∈ ok.after, Region.binds md e = true → e.on ≠ i) → oi.apart ops ok = true := fun k ok hk hki hun hno => by
        refine hfree k ok hk hki ?_ hno
        by_cases hjk : j = k
        · subst hjk; exact hjun
        · rw [getD_set_ne true hjk] at hun; exact hun
      refine wpOp_mono (fun a' w' h3 => ?_) h2
      obtain ⟨hy', S', hS', H'⟩ := h3
      have hw' : S' w' := by cases fuel <;> exact H'.1
      refine ⟨S', fun x hx => h1 x (hS' x hx), ih S' S' (listed.setIfInBounds j true) a' w' hfree' (ready_mono hr (Ne.symm hji)) (hy'.imp (fun ⟨e, h⟩ => ⟨e, fun x hx => h x (h1 x (hS' x hx))⟩) id) hw' (fun _ h => h) ?_⟩
      rw [Array.setIfInBounds_comm _ _ hji]
      exact H'

/-- an order that may be taken for all -/
def Good (ops : Array Oper) (Γ : Env) : Array Bool → List (Nat × Bool) → Prop
  | listed, [] => Region.ready .any ops listed = []
  | listed, p :: rest => (∃ o, ops[p.1]? = some o ∧ p.1 ∈ Region.ready .any ops listed ∧
      (p.2 = true → quietOp o.op = true ∧ ∀ j oj, ops[j]? = some oj → j ≠ p.1 → listed.getD j true = false → (∀ e ∈ oj.after, Region.binds .any e = true → e.on ≠ p.1) → o.apart ops oj = true) ∧
      (p.2 = false → (∀ j ∈ Region.ready .any ops listed, j = p.1) ∧ softOp Γ o.op = true)) ∧ Good ops Γ (listed.setIfInBounds p.1 true) rest

theorem evSeq_ok (hΘ : TabOk P Θ) (hΓ : EnvOk P Γ) (hsel : ∀ (j : Nat) (o : Oper) cs b, ops[j]? = some o → o.op ≠ .select cs b) (hQ : ∀ c a w, ¬ Q (.panic c) a w) {k : St → Option ρ} :
    ∀ (order : List (Nat × Bool)) (listed : Array Bool) {s : St} {m : Nat → Loc} {ok : Nat → Prop} {a : Act} {w : World}, Good ops Γ listed order → Rel w0 F0 s m ok a w → evSeq Θ Γ ops.toList order s k = some r →
    LeadsA w0 F0 s m ok w false k r (Q .normal) → wpAnyV P .any ops Q order.length (Stay s m ok w) listed a w
  | [], listed, s, m, ok, a, w, hg, R, h, L => ⟨Stay.refl _ _ _ _, hg, L s m ok a w R rfl (Nat.le_refl _) (fun _ h => h) (fun _ _ => rfl) nofun h⟩
  | (i, q) :: rest, listed, s, m, ok, a, w, hg, R, h, L => by
    obtain ⟨⟨o, hi, hr, hquiet, hloud⟩, hg⟩ := hg
    simp only at hi hr hquiet hloud hg
    have hl : lget? ops.toList i = some o := by rw [lget?_eq, Array.getElem?_toList]; exact hi
    simp only [evSeq, hl] at h
    cases q with
    | true =>
      obtain ⟨hq, hfree⟩ := hquiet rfl
      simp only at h
      split at h
      case h_2 => cases h
      rename_i hc
      obtain ⟨v, s1, hy, R1, hN, hn, ho, hk⟩ := evOne_quiet hΘ hq hc R h
      have ih := evSeq_ok hΘ hΓ hsel hQ rest (listed.setIfInBounds i true) hg R1 hk fun s2 m2 ok2 a2 w2 R2 hN2 hn2 hok2 hl2 _ hk2 =>
        L s2 m2 ok2 a2 w2 R2 (hN2.trans hN) (by rw [← hn]; exact hn2) hok2 (fun o ho => hl2 o (by rw [hn]; exact ho)) nofun hk2
      exact wpAnyV_first hi hsel (fun c a w h => absurd h (hQ c _ w)) rest.length _ _ listed a w hfree hr hy (Stay.refl _ _ _ _) (fun x hx => ⟨hx.1, fun o b cs hb => hx.2 o b cs (by rw [ho]; exact hb)⟩) ih
    | false =>
      obtain ⟨honly, hsoft⟩ := hloud rfl
      simp only at h
      refine ⟨Stay.refl _ _ _ _, (fun e => by rw [e] at hr; cases hr), fun j hj => ?_⟩
      have := honly j hj
      subst this
      refine evOne_ok (q := true) hΘ hΓ hi R h (fun _ => hsoft) fun s1 m1 ok1 a1 w1 R1 hN hn hok hl hS hk => ?_
      refine ⟨Stay s1 m1 ok1 w1, fun x hx => Stay.step R hok hl (hS rfl) hx, evSeq_ok hΘ hΓ hsel hQ rest _ hg R1 hk fun s2 m2 ok2 a2 w2 R2 hN2 hn2 hok2 hl2 _ hk2 => ?_⟩
      exact L s2 m2 ok2 a2 w2 R2 (hN2.trans hN) (Nat.le_trans hn hn2) (fun b hb => hok2 b (hok b hb)) (fun o ho => (hl2 o (Nat.lt_of_lt_of_le ho hn)).trans (hl o ho)) nofun hk2

theorem lall_mem {α : Type} {p : α → Bool} : ∀ {l : List α}, lall p l = true → ∀ x ∈ l, p x = true
  | [], _, _, h => by cases h
  | y :: l, h, x, hx => by
    simp only [lall] at h
    split at h
    · rename_i hy
      rcases List.mem_cons.1 hx with rfl | hx
      · exact hy
      · exact lall_mem h x hx
    · cases h
theorem lall_of {α : Type} {p : α → Bool} : ∀ {l : List α}, (∀ x ∈ l, p x = true) → lall p l = true
  | [], _ => rfl
  | y :: l, h => by
    simp only [lall]
    rw [h y (by simp)]
    exact lall_of fun x hx => h x (by simp [hx])
theorem memb_iff {i : Nat} : ∀ {l : List Nat}, memb i l = true ↔ i ∈ l
  | [] => by simp [memb]
  | x :: xs => by
    simp only [memb]
    split
    · rename_i h
      have := Nat.eq_of_beq_eq_true h
      subst this
      simp
    · rename_i h
      have : ¬ i = x := fun e => by subst e; simp at h
      rw [memb_iff, List.mem_cons]
      simp [this]
theorem bindsAny_eq (e : Edge) : bindsAny e = Region.binds .any e := by
  unfold bindsAny Region.binds
  cases e.ground <;> rfl

/-- listed are the done ones -/
def Listed (ops : Array Oper) (listed : Array Bool) (done : List Nat) : Prop := listed.size = ops.size ∧ (∀ j, j < ops.size → listed.getD j true = memb j done) ∧ ∀ j ∈ done, j < ops.size
theorem Listed.getF {listed : Array Bool} {done : List Nat} (h : Listed ops listed done) (j : Nat) : listed.getD j false = memb j done := by
  by_cases hj : j < ops.size
  · have := h.2.1 j hj
    rw [Array.getD_eq_getD_getElem?, Array.getElem?_eq_getElem (by rw [h.1]; exact hj)] at this ⊢
    exact this
  · rw [Array.getD_eq_getD_getElem?, Array.getElem?_eq_none (by rw [h.1]; omega)]
    cases e : memb j done with
    | false => rfl
    | true => exact absurd (h.2.2 j (memb_iff.1 e)) hj
theorem Listed.add {listed : Array Bool} {done : List Nat} (h : Listed ops listed done) {i : Nat} (hi : i < ops.size) : Listed ops (listed.setIfInBounds i true) (i :: done) := by
  refine ⟨by rw [Array.size_setIfInBounds]; exact h.1, fun j hj => ?_, fun j hj => ?_⟩
  · simp only [memb]
    by_cases hij : i = j
    · subst hij
      rw [Nat.beq_refl]
      have : i < listed.size := by rw [h.1]; exact hi
      simp [this]
    · have hb : Nat.beq i j = false := by
        cases e : Nat.beq i j with
        | false => rfl
        | true => exact absurd (Nat.eq_of_beq_eq_true e) hij
      rw [hb, getD_set_ne true hij]
      exact h.2.1 j hj
  · rcases List.mem_cons.1 hj with rfl | hj
    · exact hi
    · exact h.2.2 j hj
theorem mem_readyL {done : List Nat} : ∀ {l : List Oper} {i j : Nat}, j ∈ readyL done i l ↔ ∃ o, i ≤ j ∧ l[j - i]? = some o ∧ memb j done = false ∧ lall (edgeOk done) o.after.toList = true
  | [], i, j => by simp [readyL]
  | o :: r, i, j => by
    have step : j ∈ readyL done (i + 1) r ↔ ∃ o', i ≤ j ∧ j ≠ i ∧ (o :: r)[j - i]? = some o' ∧ memb j done = false ∧ lall (edgeOk done) o'.after.toList = true := by
      rw [mem_readyL]
      constructor
      · rintro ⟨o', h1, h2, h3⟩
        refine ⟨o', by omega, by omega, ?_, h3⟩
        have e : j - i = (j - (i + 1)) + 1 := by omega
        rw [e, List.getElem?_cons_succ]; exact h2
      · rintro ⟨o', h1, h0, h2, h3⟩
        refine ⟨o', by omega, ?_, h3⟩
        have e : j - i = (j - (i + 1)) + 1 := by omega
        rw [e, List.getElem?_cons_succ] at h2; exact h2
    unfold readyL
    split
    · rename_i h1 h2
      rw [List.mem_cons, step]
      constructor
      · rintro (rfl | ⟨o', a, _, b⟩)
        · exact ⟨o, Nat.le_refl _, by simp, h1, h2⟩
        · exact ⟨o', a, b⟩
      · rintro ⟨o', a, b⟩
        by_cases e : j = i
        · exact .inl e
        · exact .inr ⟨o', a, e, b⟩
    · rename_i hx
      rw [step]
      constructor
      · rintro ⟨o', a, _, b⟩
        exact ⟨o', a, b⟩
      · rintro ⟨o', a, b1, b2, b3⟩
        refine ⟨o', a, fun e => ?_, b1, b2, b3⟩
        subst e
        have : o = o' := by simpa using b1
        subst this
        exact hx b2 b3
theorem mem_readyL' {listed : Array Bool} {done : List Nat} (h : Listed ops listed done) {j : Nat} : j ∈ readyL done 0 ops.toList ↔ j ∈ Region.ready .any ops listed := by
  rw [mem_readyL, mem_ready]
  constructor
  · rintro ⟨o, _, h1, h2, h3⟩
    have h1 : ops[j]? = some o := by rw [← Array.getElem?_toList]; exact h1
    refine ⟨by rw [h.2.1 j (Array.getElem?_eq_some_iff.1 h1).1]; exact h2, o, h1, fun e he hb => ?_⟩
    have := lall_mem h3 e (by simpa using he)
    unfold edgeOk at this
    rw [bindsAny_eq, hb] at this
    rw [h.getF]; exact this
  · rintro ⟨h2, o, h1, h3⟩
    refine ⟨o, Nat.zero_le _, by rw [Nat.sub_zero, Array.getElem?_toList]; exact h1, by rw [← h.2.1 j (Array.getElem?_eq_some_iff.1 h1).1]; exact h2, lall_of fun e he => ?_⟩
    unfold edgeOk
    rw [bindsAny_eq]
    cases hb : Region.binds .any e with
    | false => rfl
    | true => exact (h.getF _).symm.trans (h3 e (by simpa using he) hb)
theorem freeL_spec {done : List Nat} {i : Nat} {oi : Oper} : ∀ {l : List Oper} {j : Nat}, freeL ops done i oi j l = true → ∀ (n : Nat) (oj : Oper), l[n]? = some oj → j + n ≠ i → memb (j + n) done = false → (∀ e ∈ oj.after, Region.binds .any e = true → e.on ≠ i) → oi.apart ops oj = true
  | [], _, _, n, oj, hn, _, _, _ => by simp at hn
  | o :: r, j, h, n, oj, hn, hne, hd, hno => by
    cases n with
    | zero =>
      have : o = oj := by simpa using hn
      subst this
      unfold freeL at h
      have hji : Nat.beq j i = false := by
        cases e : Nat.beq j i with
        | false => rfl
        | true => exact absurd (Nat.eq_of_beq_eq_true e) hne
      have hw : waitsFor i o = false := by
        unfold waitsFor
        rw [lall_of fun e he => ?_]
        rw [bindsAny_eq]
        cases hb : Region.binds .any e with
        | false => rfl
        | true =>
          have hx := hno e (by simpa using he) hb
          cases e2 : Nat.beq e.on i with
          | false => rfl
          | true => exact absurd (Nat.eq_of_beq_eq_true e2) hx
      rw [hji, show memb j done = false from hd, hw] at h
      cases e : oi.apart ops o with
      | true => rfl
      | false => rw [e] at h; cases h
    | succ n =>
      have h' : freeL ops done i oi (j + 1) r = true := by
        unfold freeL at h
        split at h
        · cases h
        · exact h
      have e : j + 1 + n = j + (n + 1) := by omega
      exact freeL_spec h' n oj (by simpa using hn) (by rw [e]; exact hne) (by rw [e]; exact hd) hno
theorem pickQuiet_spec {done : List Nat} : ∀ {l : List Nat} {i : Nat}, pickQuiet ops done l = some i → i ∈ l ∧ ∃ o, ops[i]? = some o ∧ quietOp o.op = true ∧ freeL ops done i o 0 ops.toList = true
  | [], i, h => by cases h
  | j :: r, i, h => by
    unfold pickQuiet at h
    split at h
    case h_2 => cases h
    rename_i o ho
    rw [lget?_eq, Array.getElem?_toList] at ho
    split at h
    · rename_i h1 h2
      cases h
      exact ⟨by simp, o, ho, h1, h2⟩
    · obtain ⟨h1, h2⟩ := pickQuiet_spec h
      exact ⟨by simp [h1], h2⟩
theorem drawOrder_good : ∀ (n : Nat) {done : List Nat} {listed : Array Bool} {order : List (Nat × Bool)}, Listed ops listed done → drawOrder Γ ops n done = some order → Good ops Γ listed order ∧ order.length = n
  | 0, done, listed, order, hL, h => by
    unfold drawOrder at h
    split at h
    · rename_i e
      cases h
      refine ⟨List.eq_nil_iff_forall_not_mem.2 fun j hj => ?_, rfl⟩
      have := (mem_readyL' hL).2 hj
      rw [e] at this
      cases this
    · cases h
  | n + 1, done, listed, order, hL, h => by
    unfold drawOrder at h
    split at h
    · cases h
    rename_i i r hr
    split at h
    · rename_i p hp
      split at h
      case h_2 => cases h
      rename_i l hl
      cases h
      obtain ⟨hm, o, ho, hq, hf⟩ := pickQuiet_spec hp
      obtain ⟨hg, hlen⟩ := drawOrder_good n (hL.add (Array.getElem?_eq_some_iff.1 ho).1) hl
      refine ⟨⟨⟨o, ho, (mem_readyL' hL).1 (by rw [hr]; exact hm), fun _ => ⟨hq, fun j oj hj hne hun hno => ?_⟩, nofun⟩, hg⟩, by simp [hlen]⟩
      have hun' : memb j done = false := by rw [← hL.2.1 j (Array.getElem?_eq_some_iff.1 hj).1]; exact hun
      exact freeL_spec hf j oj (by rw [Array.getElem?_toList]; exact hj) (by rw [Nat.zero_add]; exact hne) (by rw [Nat.zero_add]; exact hun') hno
    · split at h
      · rename_i o ho hpk
        rw [lget?_eq, Array.getElem?_toList] at ho
        split at h
        · rename_i l hs hl
          cases h
          obtain ⟨hg, hlen⟩ := drawOrder_good n (hL.add (Array.getElem?_eq_some_iff.1 ho).1) hl
          refine ⟨⟨⟨o, ho, (mem_readyL' hL).1 (by rw [hr]; simp), nofun, fun _ => ⟨fun j hj => ?_, hs⟩⟩, hg⟩, by simp [hlen]⟩
          have := (mem_readyL' hL).2 hj
          rw [hr] at this
          simpa using this
        · cases h
      · cases h

theorem evDrawn_ok (hΘ : TabOk P Θ) (hΓ : EnvOk P Γ) (hm : P.follows .mixedOrders = true) {k : St → Option ρ} {id : Nat} (hQ : ∀ c a w, ¬ Q (.panic c) a w) (R : Rel w0 F0 s m ok a w) (h : evDrawn Θ Γ ops s k = some r)
    (L : LeadsA w0 F0 s m ok w false k r (Q .normal)) : (Code.region id ops true).wp P Q a w := by
  unfold evDrawn at h
  split at h
  case h_2 => cases h
  rename_i hsel
  split at h
  case h_2 => cases h
  rename_i order ho
  have hL : Listed ops (Array.replicate ops.size false) [] := ⟨by simp, fun j hj => by simp [hj, memb], nofun⟩
  obtain ⟨hg, hlen⟩ := drawOrder_good _ hL ho
  have hlen : order.length = ops.size := by rw [hlen, llen_eq]; simp
  have hgr : Grew (fun _ => False) w { w with drawn := w.drawn + 1 } := ⟨rfl, rfl, rfl, Nat.le_refl _, fun _ _ _ => rfl⟩
  have R' : Rel w0 F0 s m ok a { w with drawn := w.drawn + 1 } := R.grow hgr
  refine wp_region_any hm (wpAny_of_V _ _ _ _ _ (hlen ▸ evSeq_ok hΘ hΓ (fun j o cs b hj e => ?_) hQ order _ hg R' h fun s1 m1 ok1 a1 w1 R1 hN hn hok hl _ hk => L s1 m1 ok1 a1 w1 R1 hN hn hok hl nofun hk))
  have := lall_mem hsel o (Array.mem_toList_iff.2 (Array.mem_of_getElem? hj))
  unfold notSelect at this
  rw [e] at this
  cases this
end
end Rig
