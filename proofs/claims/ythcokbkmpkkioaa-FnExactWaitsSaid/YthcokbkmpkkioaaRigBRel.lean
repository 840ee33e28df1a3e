/- Part of Rig, a reflective evaluator of this project's own: a function's code, run over typed data by Lean's kernel, gives its contract. No condition. -/
import Derived.Test.YthcokbkmpkkioaaRigBCore
set_option linter.unusedVariables false
set_option linter.unusedSimpArgs false
namespace Rig
open Go

theorem sel_true {α : Type} (x y : α) : sel true x y = x := rfl
theorem sel_false {α : Type} (x y : α) : sel false x y = y := rfl

theorem lget_eq {α : Type} (d : α) : ∀ (l : List α) (i : Nat), lget d l i = l.getD i d
  | [], i => by simp [lget]
  | x :: xs, 0 => by simp [lget]
  | x :: xs, n + 1 => by simp [lget, lget_eq d xs n]
theorem lget?_eq {α : Type} : ∀ (l : List α) (i : Nat), lget? l i = l[i]?
  | [], i => by simp [lget?]
  | x :: xs, 0 => by simp [lget?]
  | x :: xs, n + 1 => by simp [lget?, lget?_eq xs n]
theorem lapp_eq {α : Type} : ∀ (l m : List α), lapp l m = l ++ m
  | [], m => rfl
  | x :: xs, m => by simp [lapp, lapp_eq xs m]
theorem ltake_eq {α : Type} : ∀ (n : Nat) (l : List α), ltake n l = l.take n
  | 0, l => by simp [ltake]
  | n + 1, [] => by simp [ltake]
  | n + 1, x :: xs => by simp [ltake, ltake_eq n xs]
theorem ldrop_eq {α : Type} : ∀ (n : Nat) (l : List α), ldrop n l = l.drop n
  | 0, l => by simp [ldrop]
  | n + 1, [] => by simp [ldrop]
  | n + 1, x :: xs => by simp [ldrop, ldrop_eq n xs]
theorem llen_eq {α : Type} : ∀ (l : List α), llen l = l.length
  | [] => rfl
  | x :: xs => by simp [llen, llen_eq xs]
theorem lmap_eq {α β : Type} (f : α → β) : ∀ (l : List α), lmap f l = l.map f
  | [] => rfl
  | x :: xs => by simp [lmap, lmap_eq f xs]
theorem setRange_eq (cs : List V) (i : Nat) (new : List V) : setRange cs i new = cs.take i ++ new ++ cs.drop (i + new.length) := by
  simp [setRange, lapp_eq, ltake_eq, ldrop_eq, llen_eq]

theorem V.force1_eq {ρ : Type} (v : V) (k : V → Option ρ) : V.force1 v k = k v := by cases v <;> rfl
theorem V.forces_eq {ρ : Type} : ∀ (vs : List V) (k : List V → Option ρ), V.forces vs k = k vs
  | [], k => rfl
  | v :: vs, k => by simp only [V.forces]; rw [V.force1_eq v, V.forces_eq vs]
theorem V.forceA_eq {ρ : Type} (v : V) (k : V → Option ρ) : V.forceA v k = k v := by
  unfold V.forceA
  split
  · rw [V.forces_eq]
  · rw [V.force1_eq]
theorem V.forcesA_eq {ρ : Type} : ∀ (vs : List V) (k : List V → Option ρ), V.forcesA vs k = k vs
  | [], k => rfl
  | v :: vs, k => by simp only [V.forcesA]; rw [V.forceA_eq v, V.forcesA_eq vs]
theorem V.force_eq {ρ : Type} (v : V) (k : V → Option ρ) : V.force v k = k v := by
  unfold V.force
  split
  · rw [V.forces_eq]
  · rw [V.forcesA_eq]
  · rw [V.force1_eq]

/-! ### What data are in memory -/
def getq {α : Type} (l : List α) (i : Nat) : Option α := l[i]?
mutual
/-- the value v reads as x; all that it leads to lies in blocks that are ok -/
def CK.rd (w : World) (ok : Nat → Prop) : (k : CK) → k.ty → Value → Prop
  | .int k, x, v => v = .int k x
  | .bool, x, v => v = .bool x
  | .str, x, v => v = .string x
  | .map, _, _ => False
  | .slice row, l, v => ∃ A c, v = .slice A (List.length (α := CK.rowTy row) l) c ∧ List.length (α := CK.rowTy row) l ≤ c ∧
      (List.length (α := CK.rowTy row) l = 0 ∨ ∃ ad, A = some ad ∧ ad.spot = none ∧ ok ad.block ∧
        ∀ (i : Nat) (y : CK.rowTy row), getq (α := CK.rowTy row) l i = some y → CK.rdRow w ok row y (fun j => w.cell? ⟨ad.block, ad.off + (i * row.length + j), none⟩))
def CK.rdRow (w : World) (ok : Nat → Prop) : (row : List CK) → CK.rowTy row → (Nat → Option Value) → Prop
  | [], _, _ => True
  | [k], x, f => ∃ v, f 0 = some v ∧ k.rd w ok x v
  | k :: k' :: ks, x, f => (∃ v, f 0 = some v ∧ k.rd w ok x.1 v) ∧ CK.rdRow w ok (k' :: ks) x.2 (fun j => f (j + 1))
end

mutual
theorem CK.rd_keep {w w' : World} {ok ok' : Nat → Prop} (hk : ∀ b, ok b → w'.heap[b]? = w.heap[b]?) (hm : ∀ b, ok b → ok' b) :
    ∀ (k : CK) (x : k.ty) (v : Value), k.rd w ok x v → k.rd w' ok' x v
  | .int _, _, _, h => h
  | .bool, _, _, h => h
  | .str, _, _, h => h
  | .map, _, _, h => h.elim
  | .slice row, l, v, h => by
    simp only [CK.rd] at h ⊢
    obtain ⟨A, c, e, hc, h⟩ := h
    refine ⟨A, c, e, hc, ?_⟩
    rcases h with h | ⟨ad, e, hs, ho, h⟩
    · exact .inl h
    · refine .inr ⟨ad, e, hs, hm _ ho, fun i y hy => ?_⟩
      refine CK.rdRow_keep hk hm row y _ _ (fun j v hv => ?_) (h i y hy)
      unfold World.cell? at hv ⊢
      rw [hk _ ho]; exact hv
theorem CK.rdRow_keep {w w' : World} {ok ok' : Nat → Prop} (hk : ∀ b, ok b → w'.heap[b]? = w.heap[b]?) (hm : ∀ b, ok b → ok' b) :
    ∀ (row : List CK) (x : CK.rowTy row) (f g : Nat → Option Value), (∀ j v, f j = some v → g j = some v) → CK.rdRow w ok row x f → CK.rdRow w' ok' row x g
  | [], _, _, _, _, _ => by simp [CK.rdRow]
  | [k], x, f, g, hfg, h => by
    simp only [CK.rdRow] at h ⊢
    obtain ⟨v, hv, h⟩ := h
    exact ⟨v, hfg _ _ hv, CK.rd_keep hk hm k x v h⟩
  | k :: k' :: ks, x, f, g, hfg, h => by
    simp only [CK.rdRow] at h ⊢
    obtain ⟨⟨v, hv, h⟩, h2⟩ := h
    exact ⟨⟨v, hfg _ _ hv, CK.rd_keep hk hm k x.1 v h⟩, CK.rdRow_keep hk hm (k' :: ks) x.2 _ _ (fun j v hv => hfg _ _ hv) h2⟩
end

/-! ### Where objects lie; what the evaluator's values are -/
structure Loc where
  addr : Option Addr
  len : Nat
  cap : Nat
  sz : Nat

inductive All2 {α β : Type} (R : α → β → Prop) : List α → List β → Prop where
  | nil : All2 R [] []
  | cons {x y xs ys} : R x y → All2 R xs ys → All2 R (x :: xs) (y :: ys)
theorem All2.length {α β : Type} {R : α → β → Prop} {xs : List α} {ys : List β} (h : All2 R xs ys) : xs.length = ys.length := by
  induction h with
  | nil => rfl
  | cons _ _ ih => simp [ih]
theorem All2.imp {α β : Type} {R S : α → β → Prop} (hi : ∀ x y, R x y → S x y) {xs : List α} {ys : List β} (h : All2 R xs ys) : All2 S xs ys := by
  induction h with
  | nil => exact .nil
  | cons h _ ih => exact .cons (hi _ _ h) ih
theorem All2.append {α β : Type} {R : α → β → Prop} {xs xs' : List α} {ys ys' : List β} (h : All2 R xs ys) (h' : All2 R xs' ys') : All2 R (xs ++ xs') (ys ++ ys') := by
  induction h with
  | nil => exact h'
  | cons h _ ih => exact .cons h ih
theorem All2.take {α β : Type} {R : α → β → Prop} {xs : List α} {ys : List β} (h : All2 R xs ys) : ∀ n, All2 R (xs.take n) (ys.take n) := by
  induction h with
  | nil => intro n; simp; exact .nil
  | cons h _ ih => intro n; cases n with
    | zero => simp; exact .nil
    | succ n => simp; exact .cons h (ih n)
theorem All2.drop {α β : Type} {R : α → β → Prop} {xs : List α} {ys : List β} (h : All2 R xs ys) : ∀ n, All2 R (xs.drop n) (ys.drop n) := by
  induction h with
  | nil => intro n; simp; exact .nil
  | cons h ht ih => intro n; cases n with
    | zero => simp; exact .cons h ht
    | succ n => simp; exact ih n
theorem All2.get {α β : Type} {R : α → β → Prop} {xs : List α} {ys : List β} (h : All2 R xs ys) : ∀ {n : Nat} {x : α}, xs[n]? = some x → ∃ y, ys[n]? = some y ∧ R x y := by
  induction h with
  | nil => intro n x hx; simp at hx
  | cons h _ ih => intro n x hx; cases n with
    | zero => simp at hx; subst hx; exact ⟨_, by simp, h⟩
    | succ n => simp at hx; simpa using ih hx

/-- the rows from ad on hold l -/
def RowsAt (w : World) (ok : Nat → Prop) (row : List CK) (l : List (Row row)) (ad : Addr) : Prop :=
  ad.spot = none ∧ ∀ (i : Nat) (y : Row row), getq l i = some y → CK.rdRow w ok row y (fun j => w.cell? ⟨ad.block, ad.off + (i * row.length + j), none⟩)

/-- pointers to variables, by their numbers -/
def PtrTo (m : Nat → Loc) (n : Nat) (o : Nat) (v : Value) : Prop := o < n ∧ ∃ ad, (m o).addr = some ad ∧ v = .pointer (some ⟨ad.block, ad.off, none⟩)
def VR1 (w : World) (ok : Nat → Prop) (m : Nat → Loc) (n : Nat) : V → Value → Prop
  | .undef, _ => True
  | .int k x, v => v = .int k x
  | .bool b, v => v = .bool b
  | .lit b, v => v = .bool b
  | .str s, v => v = .string s
  | .nil, v => v = .slice none 0 0
  | .ro row l, v => CK.rd w ok (.slice row) l v
  | .own o, v => o < n ∧ v = .slice (m o).addr (m o).len (m o).cap
  | .ptr o c, v => o < n ∧ ∃ ad, (m o).addr = some ad ∧ v = .pointer (some ⟨ad.block, ad.off + c, none⟩)
  | .rp row l i c, v => ∃ ad, RowsAt w ok row l ad ∧ ok ad.block ∧ 0 ≤ i ∧ i < dlen l ∧ v = .pointer (some ⟨ad.block, ad.off + (i.toNat * row.length + c), none⟩)
  | .op o i c, v => o < n ∧ ∃ ad, (m o).addr = some ad ∧ 0 ≤ i ∧ i < ((m o).len : Int) ∧ v = .pointer (some ⟨ad.block, ad.off + (i.toNat * (m o).sz + c), none⟩)
  | .agg _, _ => False
  | .tup _, _ => False
  | .clo f os, v => ∃ cs : List Value, v = .func (.func f) #[] cs.toArray ∧ All2 (PtrTo m n) os cs
  | .map o, v => o < n ∧ ∃ b, (m o).addr = some ⟨b, 0, none⟩ ∧ v = .map (some b)
def VRa (w : World) (ok : Nat → Prop) (m : Nat → Loc) (n : Nat) : V → Value → Prop
  | .agg vs, v => ∃ cs : List Value, v = .agg cs.toArray ∧ All2 (VR1 w ok m n) vs cs
  | v, x => VR1 w ok m n v x
def VR (w : World) (ok : Nat → Prop) (m : Nat → Loc) (n : Nat) : V → Value → Prop
  | .tup vs, v => ∃ cs : List Value, v = .tuple cs.toArray ∧ All2 (VRa w ok m n) vs cs
  | v, x => VRa w ok m n v x

/-- blocks without a mark within their cells -/
def Clean (vs : Array Value) (fr : Nat × Nat) : Prop := ∀ j, j < vs.size → ¬ (fr.1 ≤ j ∧ j < fr.2)

/-- what a map's entries say -/
def lookE : List MapEntry → Int → Int
  | [], _ => 0
  | e :: r, k => match e.key, e.val with
    | .int _ k', .int _ v => if k = k' then v else lookE r k
    | _, _ => lookE r k
def MapIs (es : Array MapEntry) (g : Int → Int) : Prop := (∀ e ∈ es.toList, ∃ k v, e.key = .int .i64 k ∧ e.val = .int .i64 v) ∧ ∀ k, lookE es.toList k = g k
def OR (w : World) (ok : Nat → Prop) (m : Nat → Loc) (n : Nat) (loc : Loc) : Obj → Prop
  | .dead => True
  | .box cs => ∃ b vs t fr, loc.addr = some ⟨b, 0, none⟩ ∧ w.heap[b]? = some (.cells vs t fr) ∧ Clean vs fr ∧ All2 (VR1 w ok m n) cs vs.toList
  | .arr row l fz => loc.len = List.length (α := Row row) l ∧ loc.len ≤ loc.cap ∧ loc.sz = row.length ∧
      match loc.addr with
      | none => loc.cap = 0
      | some ad => RowsAt w ok row l ad ∧ (fz = true → ok ad.block) ∧ ∃ vs t fr, w.heap[ad.block]? = some (.cells vs t fr) ∧ Clean vs fr ∧ ad.off + loc.cap * loc.sz ≤ vs.size
  | .map g => ∃ b es clk, loc.addr = some ⟨b, 0, none⟩ ∧ w.heap[b]? = some (.map es clk) ∧ MapIs es g
  | .fbox row x => ∃ b, loc.addr = some ⟨b, 0, none⟩ ∧ ok b ∧ b < w.heap.size ∧ RowsAt w ok row [x] ⟨b, 0, none⟩

/-- has it its block for itself? -/
def Obj.excl : Obj → Prop
  | .box _ => True
  | .arr _ _ false => True
  | .map _ => True
  | _ => False
/-- the block that object o has for itself -/
def ex (s : St) (m : Nat → Loc) (o b : Nat) : Prop := (m o).addr.map (·.block) = some b ∧ (s.obj o).excl

structure Grew (F : Nat → Prop) (w w' : World) : Prop where
  os : w'.os = w.os
  tape : w'.tape = w.tape
  output : w'.output = w.output
  size : w.heap.size ≤ w'.heap.size
  block : ∀ k, k < w.heap.size → ¬ F k → w'.heap[k]? = w.heap[k]?
theorem Grew.refl (F : Nat → Prop) (w : World) : Grew F w w := ⟨rfl, rfl, rfl, Nat.le_refl _, fun _ _ _ => rfl⟩
theorem Grew.trans {F F' : Nat → Prop} {a b c : World} (h : Grew F a b) (k : Grew F' b c) (hF : ∀ i, i < a.heap.size → F' i → F i) : Grew F a c :=
  ⟨k.os.trans h.os, k.tape.trans h.tape, k.output.trans h.output, Nat.le_trans h.size k.size,
   fun i hi hn => (k.block i (Nat.lt_of_lt_of_le hi h.size) (fun hf => hn (hF i hi hf))).trans (h.block i hi hn)⟩

/-- what was given away at the start; what was ok then -/
structure Own where
  F : Nat → Prop
  ok : Nat → Prop
instance : CoeFun Own (fun _ => Nat → Prop) := ⟨Own.F⟩
structure Rel (w0 : World) (F0 : Own) (s : St) (m : Nat → Loc) (ok : Nat → Prop) (a : Act) (w : World) : Prop where
  defers : a.defers = []
  size : a.tmps.size = s.N
  tmps : ∀ i, i < s.N → VR w ok m s.n (look .undef s.tmps i) (a.tmps.getD i undef)
  objs : ∀ o, OR w ok m s.n (m o) (s.obj o)
  live : ∀ o, s.n ≤ o → s.obj o = .dead
  apart : ∀ o o' b, ex s m o b → ex s m o' b → o = o'
  exok : ∀ o b, ex s m o b → ¬ ok b ∧ (w0.heap.size ≤ b ∨ F0 b)
  okold : ∀ b, ok b → b < w.heap.size
  okin : ∀ b, ok b → F0.ok b ∨ F0 b ∨ w0.heap.size ≤ b
  okup : ∀ b, F0.ok b → ok b
  grew : Grew F0.F w0 w

/-! #### movers -/
section
variable {w w' : World} {ok ok' : Nat → Prop} {m m' : Nat → Loc} {n n' : Nat}
theorem RowsAt.keep {row : List CK} {l : List (Row row)} {ad : Addr} (hk : ∀ b, ok b → w'.heap[b]? = w.heap[b]?) (hm : ∀ b, ok b → ok' b) (hb : w'.heap[ad.block]? = w.heap[ad.block]?)
    (h : RowsAt w ok row l ad) : RowsAt w' ok' row l ad :=
  ⟨h.1, fun i y hy => CK.rdRow_keep hk hm row y _ _ (fun j v hv => by unfold World.cell? at hv ⊢; simp only at hv ⊢; rw [hb]; exact hv) (h.2 i y hy)⟩
theorem VR1.keep (hk : ∀ b, ok b → w'.heap[b]? = w.heap[b]?) (hm : ∀ b, ok b → ok' b) (hn : n ≤ n') (hl : ∀ o, o < n → m' o = m o) :
    ∀ {v : V} {x : Value}, VR1 w ok m n v x → VR1 w' ok' m' n' v x
  | .undef, _, h => trivial
  | .int _ _, _, h | .bool _, _, h | .lit _, _, h | .str _, _, h | .nil, _, h => h
  | .ro row l, _, h => CK.rd_keep hk hm (.slice row) l _ h
  | .own o, _, h => ⟨Nat.lt_of_lt_of_le h.1 hn, by rw [hl o h.1]; exact h.2⟩
  | .ptr o c, _, h => ⟨Nat.lt_of_lt_of_le h.1 hn, by rw [hl o h.1]; exact h.2⟩
  | .rp row l i c, _, h => by
    obtain ⟨ad, h1, h2, h3⟩ := h
    exact ⟨ad, h1.keep hk hm (hk _ h2), hm _ h2, h3⟩
  | .op o i c, _, h => ⟨Nat.lt_of_lt_of_le h.1 hn, by rw [hl o h.1]; exact h.2⟩
  | .agg _, _, h => h.elim
  | .tup _, _, h => h.elim
  | .clo f os, _, h => by
    obtain ⟨cs, e, h⟩ := h
    exact ⟨cs, e, h.imp fun o u ⟨h1, ad, h2, h3⟩ => ⟨Nat.lt_of_lt_of_le h1 hn, ad, by rw [hl o h1]; exact h2, h3⟩⟩
  | .map o, _, h => ⟨Nat.lt_of_lt_of_le h.1 hn, by rw [hl o h.1]; exact h.2⟩
theorem VRa.keep (hk : ∀ b, ok b → w'.heap[b]? = w.heap[b]?) (hm : ∀ b, ok b → ok' b) (hn : n ≤ n') (hl : ∀ o, o < n → m' o = m o)
    {v : V} {x : Value} (h : VRa w ok m n v x) : VRa w' ok' m' n' v x := by
  cases v with
  | agg vs =>
    obtain ⟨cs, e, h⟩ := h
    exact ⟨cs, e, h.imp fun _ _ => VR1.keep hk hm hn hl⟩
  | _ => simp only [VRa] at h ⊢; exact VR1.keep hk hm hn hl h
theorem VR.keep (hk : ∀ b, ok b → w'.heap[b]? = w.heap[b]?) (hm : ∀ b, ok b → ok' b) (hn : n ≤ n') (hl : ∀ o, o < n → m' o = m o)
    {v : V} {x : Value} (h : VR w ok m n v x) : VR w' ok' m' n' v x := by
  cases v with
  | tup vs =>
    obtain ⟨cs, e, h⟩ := h
    exact ⟨cs, e, h.imp fun _ _ => VRa.keep hk hm hn hl⟩
  | _ => simp only [VR] at h ⊢; exact VRa.keep hk hm hn hl h
theorem OR.keep (hk : ∀ b, ok b → w'.heap[b]? = w.heap[b]?) (hm : ∀ b, ok b → ok' b) (hn : n ≤ n') (hl : ∀ o, o < n → m' o = m o)
    {loc : Loc} (hb : ∀ b, loc.addr.map (·.block) = some b → w'.heap[b]? = w.heap[b]?) : ∀ {o : Obj}, OR w ok m n loc o → OR w' ok' m' n' loc o
  | .dead, _ => trivial
  | .box cs, h => by
    obtain ⟨b, vs, t, fr, e, hh, hc, ha⟩ := h
    exact ⟨b, vs, t, fr, e, by rw [hb b (by simp [e])]; exact hh, hc, ha.imp fun _ _ => VR1.keep hk hm hn hl⟩
  | .arr row l fz, h => by
    obtain ⟨h1, h2, h3, h4⟩ := h
    refine ⟨h1, h2, h3, ?_⟩
    rcases e : loc.addr with _ | ad
    · simp only [e] at h4 ⊢; exact h4
    · simp only [e] at h4 ⊢
      obtain ⟨h5, h6, vs, t, fr, hh, hc, hle⟩ := h4
      have hb' := hb ad.block (by simp [e])
      exact ⟨h5.keep hk hm hb', fun hz => hm _ (h6 hz), vs, t, fr, by rw [hb']; exact hh, hc, hle⟩
  | .map g, h => by
    obtain ⟨b, es, clk, e, hh, hm'⟩ := h
    exact ⟨b, es, clk, e, by rw [hb b (by simp [e])]; exact hh, hm'⟩
  | .fbox row x, h => by
    obtain ⟨b, e, ho, hlt, hr⟩ := h
    have hb' := hb b (by simp [e])
    refine ⟨b, e, hm _ ho, ?_, hr.keep hk hm hb'⟩
    have : w.heap[b]? ≠ none := by rw [Array.getElem?_eq_getElem hlt]; exact nofun
    rw [← hb'] at this
    exact Nat.lt_of_not_le fun h => this (Array.getElem?_eq_none h)
end
end Rig
