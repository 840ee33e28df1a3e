/- Part of Rig, a reflective evaluator of this project's own: a function's code, run over typed data by Lean's kernel, gives its contract. No condition. -/
import Derived.Test.YthcokbkmpkkioaaRigBOps3
set_option linter.unusedVariables false
set_option linter.unusedSimpArgs false
namespace Rig
open Go
def loc0 : Loc := ⟨none, 0, 0, 0⟩
/-- a cell: owned (with the blocks that it has for itself) or read -/
def TR (w : World) (ok : Nat → Prop) (c : CK) (own : Bool) (x : c.ty) (v : Value) (F : List Nat) : Prop :=
  match own, c, x with
  | true, .slice row, l => ∃ loc : Loc, v = .slice loc.addr loc.len loc.cap ∧ OR w ok (fun _ => loc0) 0 loc (.arr row l false) ∧ F = (loc.addr.map (·.block)).toList
  | true, .map, g => ∃ b es clk, v = .map (some b) ∧ w.heap[b]? = some (.map es clk) ∧ MapIs es g ∧ F = [b]
  | _, c, x => c.rd w ok x v ∧ F = []
def TRs (w : World) (ok : Nat → Prop) : (cells : List (CK × Bool)) → Row (kinds cells) → List Value → List Nat → Prop
  | [], _, vs, F => vs = [] ∧ F = []
  | [(c, own)], x, vs, F => ∃ v, vs = [v] ∧ TR w ok c own x v F
  | (c, own) :: c' :: cs, x, vs, F => ∃ v vs' F1 F2, vs = v :: vs' ∧ F = F1 ++ F2 ∧ TR w ok c own x.1 v F1 ∧ TRs w ok (c' :: cs) x.2 vs' F2

def pool (s : St) (m : Nat → Loc) (b : Nat) : Prop := ∃ o, ex s m o b
/-- from s to s': F is given away, some is frozen -/
structure Took (s : St) (m : Nat → Loc) (ok : Nat → Prop) (F : List Nat) (s' : St) (ok' : Nat → Prop) : Prop where
  n : s'.n = s.n
  N : s'.N = s.N
  tmps : s'.tmps = s.tmps
  okm : ∀ b, ok b → ok' b
  okp : ∀ b, ok' b → ok b ∨ pool s m b
  exm : ∀ o b, ex s' m o b → ex s m o b
  Fp : ∀ b ∈ F, pool s m b
  Fn : ∀ b ∈ F, ¬ ok' b ∧ ¬ pool s' m b
  nd : F.Nodup
  dead : ∀ o, s.obj o = .dead → s'.obj o = .dead
theorem Took.refl (s : St) (m : Nat → Loc) (ok : Nat → Prop) : Took s m ok [] s ok :=
  ⟨rfl, rfl, rfl, fun _ h => h, fun _ h => .inl h, fun _ _ h => h, (fun _ h => by cases h), (fun _ h => by cases h), List.nodup_nil, fun _ h => h⟩
theorem Took.poolm {s s' : St} {m : Nat → Loc} {ok ok' : Nat → Prop} {F : List Nat} (h : Took s m ok F s' ok') {b : Nat} (hb : pool s' m b) : pool s m b :=
  let ⟨o, ho⟩ := hb; ⟨o, h.exm o b ho⟩
theorem Took.trans {s s1 s2 : St} {m : Nat → Loc} {ok ok1 ok2 : Nat → Prop} {F1 F2 : List Nat} (h : Took s m ok F1 s1 ok1) (k : Took s1 m ok1 F2 s2 ok2) : Took s m ok (F1 ++ F2) s2 ok2 where
  n := k.n.trans h.n
  N := k.N.trans h.N
  tmps := k.tmps.trans h.tmps
  okm := fun b hb => k.okm b (h.okm b hb)
  okp := fun b hb => (k.okp b hb).elim (h.okp b) (fun hp => .inr (h.poolm hp))
  exm := fun o b ho => h.exm o b (k.exm o b ho)
  Fp := fun b hb => (List.mem_append.1 hb).elim (h.Fp b) (fun hb => h.poolm (k.Fp b hb))
  Fn := fun b hb => by
    rcases List.mem_append.1 hb with hb | hb
    · exact ⟨fun ho => (k.okp b ho).elim (h.Fn b hb).1 (h.Fn b hb).2, fun hp => (h.Fn b hb).2 (k.poolm hp)⟩
    · exact k.Fn b hb
  nd := List.nodup_append.2 ⟨h.nd, k.nd, fun b hb c hc e => by subst e; exact (h.Fn b hb).2 (k.Fp b hc)⟩
  dead := fun o ho => k.dead o (h.dead o ho)
/-- what is looked up alone counts -/
theorem Took.same {s s' s2 : St} {m : Nat → Loc} {ok ok' : Nat → Prop} {F : List Nat} (h : Took s m ok F s' ok') (hN : s2.N = s'.N) (hn : s2.n = s'.n) (ht : s2.tmps = s'.tmps) (ho : ∀ o, s2.obj o = s'.obj o) : Took s m ok F s2 ok' :=
  ⟨hn.trans h.n, hN.trans h.N, ht.trans h.tmps, h.okm, h.okp, fun o b hx => h.exm o b ⟨hx.1, by rw [← ho]; exact hx.2⟩, h.Fp, fun b hb => ⟨(h.Fn b hb).1, fun ⟨o, hx⟩ => (h.Fn b hb).2 ⟨o, hx.1, by rw [← ho]; exact hx.2⟩⟩, h.nd, fun o hd => by rw [ho]; exact h.dead o hd⟩

section
variable {w0 w w' : World} {F0 : Own} {s s' : St} {m : Nat → Loc} {ok ok' : Nat → Prop} {a : Act}

theorem TR.keep (hk : ∀ b, ok b → w'.heap[b]? = w.heap[b]?) (hm : ∀ b, ok b → ok' b) {c : CK} {own : Bool} {x : c.ty} {v : Value} {F : List Nat} (hF : ∀ b ∈ F, w'.heap[b]? = w.heap[b]?)
    (h : TR w ok c own x v F) : TR w' ok' c own x v F := by
  have key : c.rd w ok x v ∧ F = [] → c.rd w' ok' x v ∧ F = [] := fun h => ⟨CK.rd_keep hk hm c x v h.1, h.2⟩
  cases own with
  | false => cases c <;> exact key h
  | true =>
    cases c with
    | slice row =>
      obtain ⟨loc, e, ho, hf⟩ := h
      refine ⟨loc, e, ho.keep hk hm (Nat.le_refl _) (fun _ _ => rfl) (fun b hb => hF b ?_), hf⟩
      rw [hf, hb]; simp
    | map =>
      obtain ⟨b, es, clk, e, hh, hM, hf⟩ := h
      exact ⟨b, es, clk, e, by rw [hF b (by rw [hf]; simp)]; exact hh, hM, hf⟩
    | _ => exact key h
theorem TRs.keep (hk : ∀ b, ok b → w'.heap[b]? = w.heap[b]?) (hm : ∀ b, ok b → ok' b) : ∀ {cells : List (CK × Bool)} {x : Row (kinds cells)} {vs : List Value} {F : List Nat}, (∀ b ∈ F, w'.heap[b]? = w.heap[b]?) →
    TRs w ok cells x vs F → TRs w' ok' cells x vs F
  | [], _, _, _, _, h => h
  | [(c, own)], x, vs, F, hF, h => by
    obtain ⟨v, e, h⟩ := h
    exact ⟨v, e, h.keep hk hm hF⟩
  | (c, own) :: c' :: cs, x, vs, F, hF, h => by
    obtain ⟨v, vs', F1, F2, e, eF, h1, h2⟩ := h
    subst eF
    exact ⟨v, vs', F1, F2, e, rfl, h1.keep hk hm (fun b hb => hF b (List.mem_append_left _ hb)), TRs.keep hk hm (fun b hb => hF b (List.mem_append_right _ hb)) h2⟩
theorem TRs.length : ∀ {cells : List (CK × Bool)} {x : Row (kinds cells)} {vs : List Value} {F : List Nat}, TRs w ok cells x vs F → vs.length = cells.length
  | [], _, _, _, h => by rw [h.1]; rfl
  | [(c, own)], x, vs, F, h => by obtain ⟨v, e, h⟩ := h; rw [e]; rfl
  | (c, own) :: c' :: cs, x, vs, F, h => by
    obtain ⟨v, vs', F1, F2, e, eF, h1, h2⟩ := h
    rw [e]; simp [TRs.length h2]

theorem castL_some {row' row : List CK} {l : List (Row row')} {x : List (Row row)} (h : castL row' row l = some x) : ∃ e : row' = row, x = e ▸ l := by
  unfold castL at h
  split at h
  · rename_i hb
    exact ⟨CK.eqs_of_beqs hb, (Option.some.inj h).symm⟩
  · cases h

/-- rows that are owned read, too -/
theorem OR.rd {n : Nat} {loc : Loc} {row : List CK} {l : List (Row row)} {fz : Bool} (h : OR w ok m n loc (.arr row l fz)) {okx : Nat → Prop} (hm : ∀ b, ok b → okx b) (hb : ∀ b, loc.addr.map (·.block) = some b → okx b) :
    CK.rd w okx (.slice row) l (.slice loc.addr loc.len loc.cap) := by
  obtain ⟨h1, h2, h3, h4⟩ := h
  refine ⟨loc.addr, loc.cap, by rw [h1], by rw [← h1]; exact h2, ?_⟩
  rcases e : loc.addr with _ | ad
  · rw [e] at h4
    left
    have h4' : loc.cap = 0 := h4
    omega
  · simp only [e] at h4
    right
    have hra := (h4.1).keep (w' := w) (ok' := okx) (fun _ _ => rfl) hm rfl
    exact ⟨ad, rfl, hra.1, hb _ (by simp [e]), hra.2⟩

/-- what is read of a value -/
theorem get_rd (R : Rel w0 F0 s m ok a w) {c : CK} (hnm : c ≠ .map) {v : V} {x : c.ty} (h : V.get s c v = some x) {u : Value} (hv : VR1 w ok m s.n v u) :
    c.rd w (fun b => ok b ∨ pool s m b) x u ∧ ((∀ o, v ≠ .own o) → c.rd w ok x u) ∧
      (∀ o, v = .own o → ∃ row l fz, s.obj o = .arr row l fz ∧ ∃ e : c = .slice row, (e ▸ x : (CK.slice row).ty) = l) := by
  have up : c.rd w ok x u → c.rd w (fun b => ok b ∨ pool s m b) x u := fun h => CK.rd_keep (fun _ _ => rfl) (fun _ h => .inl h) c x u h
  cases c with
  | int k =>
    cases v <;> first | exact absurd (show none = some x from h) nofun | skip
    case int k' n =>
      have h' : (match ikb k k' with | true => some n | false => none) = some x := h
      split at h'
      · rename_i hk
        have := ikb_eq hk
        have h2 := Option.some.inj h'
        subst this
        subst h2
        exact ⟨up hv, fun _ => hv, fun o e => by cases e⟩
      · cases h'
  | bool =>
    cases v <;> first | exact absurd (show none = some x from h) nofun | skip
    all_goals (have h2 := Option.some.inj h; subst h2; exact ⟨up hv, fun _ => hv, fun o e => by cases e⟩)
  | str =>
    cases v <;> first | exact absurd (show none = some x from h) nofun | skip
    case str => have h2 := Option.some.inj h; subst h2; exact ⟨up hv, fun _ => hv, fun o e => by cases e⟩
  | slice row =>
    cases v <;> first | exact absurd (show none = some x from h) nofun | skip
    case nil =>
      have h2 : (dnil : List (Row row)) = x := Option.some.inj h
      subst h2
      have hr : CK.rd w ok (.slice row) (dnil : List (Row row)) u := ⟨none, 0, hv, Nat.le_refl _, .inl rfl⟩
      exact ⟨up hr, fun _ => hr, fun o e => by cases e⟩
    case ro row' l =>
      obtain ⟨e, hx⟩ := castL_some (show castL row' row l = some x from h)
      subst e
      subst hx
      exact ⟨up hv, fun _ => hv, fun o e => by cases e⟩
    case own o =>
      have h' : (match s.obj o with | .arr row' l _ => castL row' row l | _ => none) = some x := h
      cases ho : s.obj o with
      | arr row' l fz =>
        rw [ho] at h'
        obtain ⟨e, hx⟩ := castL_some h'
        subst e
        subst hx
        have hor := R.objs o
        rw [ho] at hor
        refine ⟨?_, fun hn => absurd rfl (hn o), fun o' e => ?_⟩
        · rw [hv.2]
          refine hor.rd (fun _ h => .inl h) (fun b hb => ?_)
          rcases OR.block_cases R (by rw [ho]; simp) hb with h | h
          · exact .inr ⟨o, h⟩
          · exact .inl h
        · cases e
          exact ⟨_, _, _, ho, rfl, rfl⟩
      | dead => rw [ho] at h'; exact absurd h' nofun
      | box _ => rw [ho] at h'; exact absurd h' nofun
      | map _ => rw [ho] at h'; exact absurd h' nofun
      | fbox _ _ => rw [ho] at h'; exact absurd h' nofun
  | map => exact absurd rfl hnm
/-- what is read of a map -/
theorem get_map {v : V} {g : (CK.map).ty} (h : V.get s .map v = some g) : ∃ o, v = .map o ∧ s.obj o = .map g := by
  cases v <;> first | exact absurd (show none = some g from h) nofun | skip
  case map o =>
    have h' : (match s.obj o with | .map g => some g | _ => none) = some g := h
    cases ho : s.obj o with
    | map g' => rw [ho] at h'; exact ⟨o, rfl, by rw [ho]; exact congrArg _ (Option.some.inj h')⟩
    | dead => rw [ho] at h'; exact absurd h' nofun
    | box _ => rw [ho] at h'; exact absurd h' nofun
    | arr _ _ _ => rw [ho] at h'; exact absurd h' nofun
    | fbox _ _ => rw [ho] at h'; exact absurd h' nofun
end
end Rig
