/- Part of Rig, a reflective evaluator of this project's own: a function's code, run over typed data by Lean's kernel, gives its contract. No condition. -/
import Derived.Test.YthcokbkmpkkioaaReachFnExactWaits
set_option linter.unusedVariables false
noncomputable section
namespace Rig.Pure
open Go (IntKind)
/-! ### all items -/
/-- a leaf's items -/
def itemsAt (b : BookT) (i : Int) : List E5 := if (pageAt b i).2.1 = true then (pageAt b i).2.2 else []
def itemsOf (b : BookT) (l : List Int) : List E5 := l.flatMap (itemsAt b)
theorem spec_ItemsOf_eq (p : Bool × List E5) (h : p.2.length ≤ 1048576) : spec_ItemsOf p = some (if p.1 = true then p.2 else []) := by
  refine spec_ItemsOf_of (n := p.2.length + 1) ?_
  simp only [spec_ItemsOf_N, dnil_eq]
  cases hl : p.1 with
  | false =>
    generalize p.2.length = q
    simp only [spec_ItemsOf_L3, hl, dif_f]
    rw [if_neg (by simp)]
    cases ilt 0 (dlen p.2) <;> rfl
  | true =>
    rw [if_pos rfl]
    have key : ∀ m (i : Nat), i + m = p.2.length → spec_ItemsOf_L3 (m + 1) (p, p.2.take i, (i : Int)) = some p.2 := by
      intro m
      induction m with
      | zero =>
        intro i hi
        simp only [spec_ItemsOf_L3, dlen_eq]
        rw [ilt_f (by omega), dif_f, List.take_of_length_le (by omega)]
      | succ m ih =>
        intro i hi
        have hil : i < p.2.length := by omega
        generalize hq : m + 1 = q at ih ⊢
        simp only [spec_ItemsOf_L3, dlen_eq, dapp_eq, dcons_eq, dnil_eq]
        rw [ilt_t (by omega), dif_t, hl, dif_t, ile_t (by omega), dif_t, dif_t, dif_t, dif_t, droom_t (by simp; omega), dif_t, iadd_in (by omega), dat_nat _ _ i hil]
        have := ih (i + 1) (by omega)
        rw [List.take_add_one, List.getElem?_eq_getElem hil] at this
        exact this
    exact key p.2.length 0 (by omega)
theorem impl_ItemsOf_eq (p : Bool × List E5) (h : p.2.length ≤ 1048576) : impl_ItemsOf p = some (if p.1 = true then p.2 else []) := by
  refine impl_ItemsOf_of (n := p.2.length + 1) ?_
  simp only [impl_ItemsOf_N, dnil_eq, dlen_eq]
  cases hl : p.1 with
  | false => rfl
  | true =>
    rw [if_pos rfl, dif_t]
    have key : ∀ m (i : Nat), i + m = p.2.length → impl_ItemsOf_L4 (m + 1) (p.2.take i, p.2, (p.2.length : Int), (i : Int)) = some p.2 := by
      intro m
      induction m with
      | zero =>
        intro i hi
        simp only [impl_ItemsOf_L4, dlen_eq]
        rw [ilt_f (by omega), dif_f, List.take_of_length_le (by omega)]
      | succ m ih =>
        intro i hi
        have hil : i < p.2.length := by omega
        generalize hq : m + 1 = q at ih ⊢
        simp only [impl_ItemsOf_L4, dlen_eq, dapp_eq, dcons_eq, dnil_eq]
        rw [ilt_t (by omega), dif_t, ile_t (by omega), dif_t, dif_t, droom_t (by simp; omega), dif_t, iadd_in (by omega), dat_nat _ _ i hil]
        have := ih (i + 1) (by omega)
        rw [List.take_add_one, List.getElem?_eq_getElem hil] at this
        exact this
    exact key p.2.length 0 (by omega)
theorem itemsAt_len {b : BookT} (hb : PagesSmall b.2) (i : Int) : (itemsAt b i).length ≤ 1048576 := by
  unfold itemsAt
  have : (pageAt b i).2.2.length ≤ 1048576 := pageAt_small hb i
  split
  · exact this
  · simp
theorem itemsOf_len {b : BookT} (hb : PagesSmall b.2) : ∀ (l : List Int), (itemsOf b l).length ≤ l.length * 1048576
  | [] => by simp [itemsOf]
  | x :: l => by
    have h1 := itemsAt_len hb x
    have h2 := itemsOf_len hb l
    simp only [itemsOf, List.flatMap_cons, List.length_append, List.length_cons] at h2 ⊢
    omega
/-- the loop over leaves, or pages -/
theorem items_take_len {b : BookT} (hb : PagesSmall b.2) (l : List Int) (hl : l.length ≤ 1048576) (i : Nat) : (itemsOf b (l.take i)).length ≤ 1048576 * 1048576 := by
  have := itemsOf_len hb (l.take i)
  have h2 : (l.take i).length ≤ l.length := by simp; omega
  exact Nat.le_trans this (Nat.mul_le_mul_right _ (by omega))
theorem items_take_succ (b : BookT) (l : List Int) (i : Nat) (h : i < l.length) : itemsOf b (l.take (i + 1)) = itemsOf b (l.take i) ++ itemsAt b l[i] := by
  have e : l.take (i + 1) = l.take i ++ [l[i]] := by rw [List.take_add_one, List.getElem?_eq_getElem h]; rfl
  rw [e]
  simp only [itemsOf, List.flatMap_append, List.flatMap_cons, List.flatMap_nil, List.append_nil]
theorem spec_All_loop (b : BookT) (hb : PagesSmall b.2) (l : List Int) (hl : l.length ≤ 1048576) (hok : ∀ x ∈ l, okAt b x) : spec_All_L4 (l.length + 1) (b, [], l, 0) = some (itemsOf b l) := by
  have key : ∀ m (i : Nat), i + m = l.length → spec_All_L4 (m + 1) (b, itemsOf b (l.take i), l, (i : Int)) = some (itemsOf b l) := by
    intro m
    induction m with
    | zero =>
      intro i hi
      simp only [spec_All_L4, dlen_eq]
      rw [ilt_f (by omega), dif_f, List.take_of_length_le (by omega)]
    | succ m ih =>
      intro i hi
      have hil : i < l.length := by omega
      have ho := hok _ (List.getElem_mem hil)
      have hpl : (pageAt b l[i]).2.2.length ≤ 1048576 := pageAt_small hb l[i]
      generalize hq : m + 1 = q at ih ⊢
      simp only [spec_All_L4, dlen_eq, dapp_eq]
      rw [ilt_t (by omega), dif_t, ile_t (by omega), dif_t, dif_t, dat_nat _ _ i hil, ile_t ho.1, dif_t, ilt_t ho.2.1, dif_t]
      have hpg : dat z_bbLiiiiiR b.2 l[i] = pageAt b l[i] := rfl
      have h1 := itemsAt_len hb l[i]
      have h2 := items_take_len hb l hl i
      rw [hpg, spec_ItemsOf_eq _ hpl, dbind_s]
      have hit : (if (pageAt b l[i]).2.1 = true then (pageAt b l[i]).2.2 else []) = itemsAt b l[i] := rfl
      rw [hit, droom_t (by omega), dif_t, iadd_in (by omega), ← items_take_succ b l i hil]
      exact ih (i + 1) (by omega)
  exact key l.length 0 (by omega)
theorem impl_All_loop (b : BookT) (hb : PagesSmall b.2) (l : List Int) (hl : l.length ≤ 1048576) (hok : ∀ x ∈ l, okAt b x) : impl_itemsFrom_L3 (l.length + 1) (b, [], l, (l.length : Int), 0) = some (itemsOf b l) := by
  have key : ∀ m (i : Nat), i + m = l.length → impl_itemsFrom_L3 (m + 1) (b, itemsOf b (l.take i), l, (l.length : Int), (i : Int)) = some (itemsOf b l) := by
    intro m
    induction m with
    | zero =>
      intro i hi
      simp only [impl_itemsFrom_L3, dlen_eq]
      rw [ilt_f (by omega), dif_f, List.take_of_length_le (by omega)]
    | succ m ih =>
      intro i hi
      have hil : i < l.length := by omega
      have ho := hok _ (List.getElem_mem hil)
      have hpl : (pageAt b l[i]).2.2.length ≤ 1048576 := pageAt_small hb l[i]
      generalize hq : m + 1 = q at ih ⊢
      simp only [impl_itemsFrom_L3, dlen_eq, dapp_eq]
      rw [ilt_t (by omega), dif_t, ile_t (by omega), dif_t, dif_t, dat_nat _ _ i hil, ile_t ho.1, dif_t, ilt_t ho.2.1, dif_t]
      have hpg : dat z_bbLiiiiiR b.2 l[i] = pageAt b l[i] := rfl
      have h1 := itemsAt_len hb l[i]
      have h2 := items_take_len hb l hl i
      rw [hpg, impl_ItemsOf_eq _ hpl, dbind_s]
      have hit : (if (pageAt b l[i]).2.1 = true then (pageAt b l[i]).2.2 else []) = itemsAt b l[i] := rfl
      rw [hit, droom_t (by omega), dif_t, iadd_in (by omega), ← items_take_succ b l i hil]
      exact ih (i + 1) (by omega)
  exact key l.length 0 (by omega)
/-- the leaves -/
def isLeaf (b : BookT) (i : Int) : Bool := (pageAt b i).2.1
theorem spec_Leaves_eq (b : BookT) (hb : PagesSmall b.2) : spec_Leaves b = some ((reach b b.1).filter (isLeaf b)) := by
  have hinv := reach_inv b b.1
  have hlen := hinv.len
  have hbl := hb.1
  generalize hr : reach b b.1 = r at *
  refine spec_Leaves_of (n := r.length + 1) ?_
  simp only [spec_Leaves_N, spec_Reach_eq b hb, hr, dbind_s, dnil_eq]
  have key : ∀ m (i : Nat), i + m = r.length → spec_Leaves_L4 (m + 1) (b, (r.take i).filter (isLeaf b), r, (i : Int)) = some (r.filter (isLeaf b)) := by
    intro m
    induction m with
    | zero =>
      intro i hi
      simp only [spec_Leaves_L4, dlen_eq]
      rw [ilt_f (by omega), dif_f, List.take_of_length_le (by omega)]
    | succ m ih =>
      intro i hi
      have hil : i < r.length := by omega
      have ho := hinv.2 _ (List.getElem_mem hil)
      have hfl : ((r.take i).filter (isLeaf b)).length ≤ r.length := Nat.le_trans (List.length_filter_le _ _) (by simp; omega)
      generalize hq : m + 1 = q at ih ⊢
      simp only [spec_Leaves_L4, dlen_eq, dapp_eq, dcons_eq, dnil_eq]
      rw [ilt_t (by omega), dif_t, ile_t (by omega), dif_t, dif_t, dat_nat _ _ i hil, ile_t ho.1, dif_t, ilt_t ho.2.1, dif_t]
      have hpg : (dat z_bbLiiiiiR b.2 r[i]).2.1 = isLeaf b r[i] := rfl
      rw [hpg, iadd_in (by omega)]
      have hn := ih (i + 1) (by omega)
      rw [List.take_add_one, List.getElem?_eq_getElem hil, List.filter_append] at hn
      cases hlf : isLeaf b r[i] with
      | true =>
        rw [dif_t, dif_t, dif_t, droom_t (by simp; omega), dif_t]
        simp only [Option.toList, List.filter_cons, hlf, if_true, List.filter_nil] at hn
        exact hn
      | false =>
        rw [dif_f]
        simp only [Option.toList, List.filter_cons, hlf, List.filter_nil] at hn
        simpa using hn
  exact key r.length 0 (by omega)
theorem items_filter (b : BookT) : ∀ (l : List Int), itemsOf b (l.filter (isLeaf b)) = itemsOf b l
  | [] => rfl
  | x :: l => by
    have ih := items_filter b l
    simp only [itemsOf] at ih ⊢
    rw [List.filter_cons]
    cases h : isLeaf b x with
    | true => rw [if_pos rfl]; simp [ih]
    | false =>
      have : itemsAt b x = [] := by unfold itemsAt; rw [if_neg]; unfold isLeaf at h; simp [h]
      rw [if_neg (by simp)]
      simp [ih, this]
/-- all items -/
def all (b : BookT) : List E5 := itemsOf b (reach b b.1)
theorem spec_All_eq (b : BookT) (hb : PagesSmall b.2) : spec_All b = some (all b) := by
  have hinv := reach_inv b b.1
  have hlen := hinv.len
  have hbl := hb.1
  refine spec_All_of (n := ((reach b b.1).filter (isLeaf b)).length + 1) ?_
  have hfl : ((reach b b.1).filter (isLeaf b)).length ≤ (reach b b.1).length := List.length_filter_le _ _
  simp only [spec_All_N, spec_Leaves_eq b hb, dbind_s, dnil_eq]
  rw [spec_All_loop b hb _ (by omega) (fun x hx => hinv.2 x (List.mem_filter.1 hx).1), items_filter]
  rfl
theorem impl_All_eq (b : BookT) (hb : PagesSmall b.2) : impl_All b = some (all b) := by
  have hinv := reach_inv b b.1
  have hlen := hinv.len
  have hbl := hb.1
  have : impl_itemsFrom (b, b.1) = some (all b) := by
    refine impl_itemsFrom_of (n := (reach b b.1).length + 1) ?_
    simp only [impl_itemsFrom_N, reachFrom_eq b hb, dbind_s, dnil_eq, dlen_eq]
    exact impl_All_loop b hb _ (by omega) hinv.2
  simp only [impl_All, this, dbind_s]
end Rig.Pure
