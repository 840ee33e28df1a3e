/- Part of Rig, a reflective evaluator of this project's own: a function's code, run over typed data by Lean's kernel, gives its contract. No condition. -/
import Derived.Test.YthcokbkmpkkioaaPureFnExactWaits
set_option linter.unusedVariables false
noncomputable section
namespace Rig.Pure
open Go (IntKind)
/-! ### what is reached -/
theorem erase_len {l : List Nat} {n : Nat} (h : n ∈ l) : (l.erase n).length + 1 = l.length := by
  have := List.length_erase_of_mem h
  have := List.length_pos_of_mem h
  omega
theorem nodup_lt : ∀ (n : Nat) (l : List Nat), l.Nodup → (∀ x ∈ l, x < n) → l.length ≤ n
  | 0, l, _, h => by
    cases l with
    | nil => exact Nat.le_refl _
    | cons x l => exact absurd (h x (by simp)) (by omega)
  | n + 1, l, hd, h => by
    by_cases hn : n ∈ l
    · have := nodup_lt n (l.erase n) (hd.erase n) fun x hx => by
        have h1 := h x (List.mem_of_mem_erase hx)
        have h2 : x ≠ n := fun e => by subst e; exact (List.Nodup.mem_erase_iff hd).1 hx |>.1 rfl
        omega
      have := erase_len hn
      omega
    · have := nodup_lt n l hd fun x hx => by
        have h1 := h x hx
        have h2 : x ≠ n := fun e => by subst e; exact hn hx
        omega
      omega
def pageAt (b : BookT) (i : Int) : PageT := dat (false, false, []) b.2 i
def okAt (b : BookT) (i : Int) : Prop := 0 ≤ i ∧ i < b.2.length ∧ (pageAt b i).1 = true
instance (b : BookT) (i : Int) : Decidable (okAt b i) := inferInstanceAs (Decidable (0 ≤ i ∧ i < b.2.length ∧ (pageAt b i).1 = true))
/-- what was met is a list of pages that are there, none twice -/
def Inv (b : BookT) (out : List Int) : Prop := out.Nodup ∧ ∀ x ∈ out, okAt b x
theorem Inv.len {b : BookT} {out : List Int} (h : Inv b out) : out.length ≤ b.2.length := by
  have := nodup_lt b.2.length (out.map Int.toNat) (by
    have hm : ∀ (l : List Int), l.Nodup → (∀ x ∈ l, okAt b x) → (l.map Int.toNat).Nodup := by
      intro l
      induction l with
      | nil => intro _ _; exact List.nodup_nil
      | cons x l ih =>
        intro hd hx
        rw [List.map_cons, List.nodup_cons]
        refine ⟨fun hmem => ?_, ih (List.nodup_cons.1 hd).2 fun y hy => hx y (by simp [hy])⟩
        obtain ⟨y, hy, e⟩ := List.mem_map.1 hmem
        have h1 := (hx y (by simp [hy])).1
        have h2 := (hx x (by simp)).1
        have : y = x := by omega
        subst this
        exact (List.nodup_cons.1 hd).1 hy
    exact hm out h.1 h.2) fun x hx => by
    obtain ⟨y, hy, e⟩ := List.mem_map.1 hx
    have h1 := (h.2 y hy).1
    have h2 := (h.2 y hy).2.1
    omega
  simpa using this
theorem Inv.snoc {b : BookT} {out : List Int} {i : Int} (h : Inv b out) (hi : okAt b i) (hn : i ∉ out) : Inv b (out ++ [i]) := by
  refine ⟨List.nodup_append.2 ⟨h.1, by simp, fun x hx y hy => by
    have : y = i := by simpa using hy
    subst this
    intro e; subst e; exact hn hx⟩, fun x hx => ?_⟩
  rcases List.mem_append.1 hx with hx | hx
  · exact h.2 x hx
  · have : x = i := by simpa using hx
    subst this; exact hi
/-- the pages reached from page i, behind those met -/
def walk (b : BookT) : Nat → Int → List Int → List Int
  | 0, _, out => out
  | k + 1, i, out => if ¬ okAt b i ∨ i ∈ out then out else if (pageAt b i).2.1 = true then out ++ [i] else
      (pageAt b i).2.2.foldl (fun out e => walk b k e.1 out) (out ++ [i])

theorem foldl_keep {α : Type} (P : List Int → Prop) (f : List Int → α → List Int) (hf : ∀ out x, P out → P (f out x)) : ∀ (l : List α) (out : List Int), P out → P (l.foldl f out)
  | [], _, h => h
  | x :: l, out, h => foldl_keep P f hf l (f out x) (hf out x h)
theorem walk_inv (b : BookT) : ∀ (k : Nat) (i : Int) (out : List Int), Inv b out → Inv b (walk b k i out) ∧ out.length ≤ (walk b k i out).length
  | 0, _, _, h => ⟨h, Nat.le_refl _⟩
  | k + 1, i, out, h => by
    unfold walk
    split
    · exact ⟨h, Nat.le_refl _⟩
    · rename_i hc
      have hok : okAt b i := Classical.byContradiction fun h => hc (.inl h)
      have hn : i ∉ out := fun h => hc (.inr h)
      have h2 := h.snoc hok hn
      split
      · exact ⟨h2, by simp⟩
      · have := foldl_keep (fun o => Inv b o ∧ (out ++ [i]).length ≤ o.length) (fun out (e : E5) => walk b k e.1 out) (fun o x ⟨h1, h3⟩ => ⟨(walk_inv b k x.1 o h1).1, Nat.le_trans h3 (walk_inv b k x.1 o h1).2⟩) (pageAt b i).2.2 (out ++ [i]) ⟨h2, Nat.le_refl _⟩
        exact ⟨this.1, by have := this.2; simp at this; omega⟩

theorem has_eq (l : List Int) (x : Int) (h : l.length ≤ 1048576) : spec_l7Has (l, x) = some (decide (x ∈ l)) := by
  refine spec_l7Has_of (n := l.length + 1) ?_
  simp only [spec_l7Has_N]
  have key : ∀ m (i : Nat), i + m = l.length → (∀ j (hj : j < l.length), j < i → l[j] ≠ x) → spec_l7Has_L2 (m + 1) (l, x, (i : Int)) = some (decide (x ∈ l)) := by
    intro m
    induction m with
    | zero =>
      intro i hi hs
      simp only [spec_l7Has_L2, dlen_eq]
      rw [ilt_f (by omega), dif_f]
      have : x ∉ l := fun hx => by
        obtain ⟨j, hj, e⟩ := List.getElem_of_mem hx
        exact hs j hj (by omega) e
      simp [this]
    | succ m ih =>
      intro i hi hs
      have hil : i < l.length := by omega
      simp only [spec_l7Has_L2, dlen_eq]
      rw [ilt_t (by omega), dif_t, ile_t (by omega), dif_t, dif_t, dat_nat _ l i hil]
      by_cases e : l[i] = x
      · rw [ieq_t e, dif_t]
        have : x ∈ l := e ▸ List.getElem_mem hil
        simp [this]
      · rw [ieq_f e, dif_f, iadd_in (by omega)]
        exact ih (i + 1) (by omega) fun j hj hji => by
          by_cases hje : j = i
          · subst hje; exact e
          · exact hs j hj (by omega)
  exact key l.length 0 (by omega) (fun j _ h => by omega)
theorem in_eq (x a c : Int) : spec_l1In (x, a, c) = some (decide (a ≤ x ∧ x ≤ c)) := by
  simp only [spec_l1In]
  by_cases h : a ≤ x
  · rw [ile_t h, dif_t]; simp [ile, h]
  · rw [ile_f h, dif_f]; simp [h]
theorem pageAt_small {b : BookT} (h : PagesSmall b.2) (i : Int) : PageSmall (pageAt b i) := by
  unfold pageAt dat
  rw [List.getD_eq_getElem?_getD]
  cases e : b.2[i.toNat]? with
  | none => show _ ≤ _; simp
  | some p => exact h.2 p (List.mem_of_getElem? e)

theorem walk_step (b : BookT) (k : Nat) (i : Int) (out : List Int) (h1 : okAt b i) (h2 : i ∉ out) : walk b (k + 1) i out = if (pageAt b i).2.1 = true then out ++ [i] else (pageAt b i).2.2.foldl (fun out e => walk b k e.1 out) (out ++ [i]) := by
  rw [walk, if_neg]
  intro h
  rcases h with h | h
  · exact h h1
  · exact h2 h
theorem walk_stop (b : BookT) (k : Nat) (i : Int) (out : List Int) (h : ¬ okAt b i ∨ i ∈ out) : walk b (k + 1) i out = out := by
  rw [walk, if_pos h]

/-- the reference's walk -/
theorem walk_spec (b : BookT) (hb : PagesSmall b.2) : ∀ (k : Nat) (i : Int) (out : List Int), Inv b out → b.2.length + 1 ≤ k + out.length → spec_l7Walk_R k (b, i, out) = some (walk b k i out)
  | 0, i, out, h, hk => by have := h.len; omega
  | k + 1, i, out, h, hk => by
    have hlen := h.len
    have hbl := hb.1
    have hps := pageAt_small hb i
    have hpl : (pageAt b i).2.2.length ≤ 1048576 := hps
    refine spec_l7Walk_ofN (n := (pageAt b i).2.2.length + 1) ?_
    simp only [spec_l7Walk_N, dlen_eq, in_eq, dbind_s, dapp_eq, dcons_eq, dnil_eq]
    rw [isub_in (by omega)]
    by_cases h1 : 0 ≤ i ∧ i ≤ (b.2.length : Int) - 1
    · rw [decide_eq_true h1, dnot_t, dif_f, ile_t h1.1, dif_t, ilt_t (by omega), dif_t]
      have hpg : dat z_bbLiiiiiR b.2 i = pageAt b i := rfl
      rw [hpg]
      by_cases h2 : (pageAt b i).1 = true
      · rw [h2, dnot_t, dif_f, has_eq _ _ (by omega), dbind_s]
        have hok : okAt b i := ⟨h1.1, by omega, h2⟩
        by_cases h3 : i ∈ out
        · rw [decide_eq_true h3, dif_t, walk_stop b k i out (.inr h3)]
        · rw [decide_eq_false h3, dif_f, droom_t (by simp; omega), dif_t, dif_t, dif_t, walk_step b k i out hok h3]
          have h4 := h.snoc hok h3
          have loop : ∀ (m j : Nat) (o : List Int), j + m = (pageAt b i).2.2.length → (pageAt b i).2.1 = false → Inv b o → out.length + 1 ≤ o.length →
              spec_l7Walk_L6 (spec_l7Walk_R k) (m + 1) (o, b, (pageAt b i).2, (j : Int)) = some (((pageAt b i).2.2.drop j).foldl (fun out e => walk b k e.1 out) o) := by
            intro m
            induction m with
            | zero =>
              intro j o hj hlf ho hol
              simp only [spec_l7Walk_L6, dlen_eq]
              rw [ilt_f (by omega), dif_f, List.drop_eq_nil_of_le (by omega)]
              rfl
            | succ m ih =>
              intro j o hj hlf ho hol
              have hjl : j < (pageAt b i).2.2.length := by omega
              generalize hq : m + 1 = q at ih ⊢
              simp only [spec_l7Walk_L6, dlen_eq]
              rw [ilt_t (by omega), dif_t, hlf, dnot_f, dif_t, ile_t (by omega), dif_t, dif_t, dat_nat _ _ j hjl, walk_spec b hb k _ o ho (by omega), dbind_s, iadd_in (by omega)]
              rw [List.drop_eq_getElem_cons hjl]
              have hw := walk_inv b k (pageAt b i).2.2[j].1 o ho
              have := ih (j + 1) _ (by omega) hlf hw.1 (by omega)
              exact this
          cases hl : (pageAt b i).2.1 with
          | true =>
            generalize (pageAt b i).2.2.length = q
            simp only [spec_l7Walk_L6, dlen_eq]
            rw [hl, dnot_t, if_pos trivial]
            by_cases hz : (0 : Int) < ((pageAt b i).2.2.length : Int)
            · rw [ilt_t hz, dif_t, dif_f]
            · rw [ilt_f hz, dif_f]
          | false =>
            have := loop (pageAt b i).2.2.length 0 (out ++ [i]) (by omega) hl h4 (by simp)
            rw [if_neg (by simp)]
            simpa using this
      · have h2 : (pageAt b i).1 = false := by simpa using h2
        rw [h2, dnot_f, dif_t, walk_stop b k i out (.inl fun h => by have := h.2.2; rw [h2] at this; cases this)]
    · rw [decide_eq_false h1, dnot_f, dif_t, walk_stop b k i out (.inl fun h => h1 ⟨h.1, by have := h.2.1; omega⟩)]

/-- the program's walk -/
theorem used_eq (b : BookT) (i : Int) : impl_used (b, i) = some (decide (okAt b i)) := by
  simp only [impl_used, impl_exists, dlen_eq]
  have hpg : dat z_bbLiiiiiR b.2 i = pageAt b i := rfl
  by_cases h1 : 0 ≤ i
  · rw [ile_t h1, dif_t, dbind_s]
    by_cases h2 : i < (b.2.length : Int)
    · rw [ilt_t h2, dif_t, dif_t, dif_t, hpg]
      cases h3 : (pageAt b i).1 with
      | true => rw [decide_eq_true (show okAt b i from ⟨h1, h2, h3⟩)]
      | false => rw [decide_eq_false (fun h : okAt b i => by have := h.2.2; rw [h3] at this; cases this)]
    · rw [ilt_f h2, dif_f, decide_eq_false (fun h : okAt b i => h2 h.2.1)]
  · rw [ile_f h1, dif_f, dbind_s, dif_f, decide_eq_false (fun h : okAt b i => h1 h.1)]
def Met (met : Int → Int) (out : List Int) : Prop := ∀ x, met x = 1 ↔ x ∈ out
theorem Met.snoc {met : Int → Int} {out : List Int} (h : Met met out) (i : Int) : Met (mput met i 1) (out ++ [i]) := fun x => by
  unfold mput
  by_cases e : x = i
  · simp [e]
  · rw [if_neg e, h x]; simp [e]
theorem walk_impl (b : BookT) (hb : PagesSmall b.2) : ∀ (k : Nat) (i : Int) (met : Int → Int) (out : List Int), Inv b out → Met met out → b.2.length + 1 ≤ k + out.length → ∃ met', impl_reachFrom_1_R k (i, b, met, out) = some (met', walk b k i out) ∧ Met met' (walk b k i out)
  | 0, i, met, out, h, hm, hk => by have := h.len; omega
  | k + 1, i, met, out, h, hm, hk => by
    have hlen := h.len
    have hbl := hb.1
    have hps := pageAt_small hb i
    have hpl : (pageAt b i).2.2.length ≤ 1048576 := hps
    suffices hh : ∃ met', impl_reachFrom_1_N (impl_reachFrom_1_R k) ((pageAt b i).2.2.length + 1) (i, b, met, out) = some (met', walk b (k + 1) i out) ∧ Met met' (walk b (k + 1) i out) by
      obtain ⟨met', e, h2⟩ := hh
      exact ⟨met', impl_reachFrom_1_ofN e, h2⟩
    simp only [impl_reachFrom_1_N, dlen_eq, used_eq, dbind_s, dapp_eq, dcons_eq, dnil_eq]
    have hpg : dat z_bbLiiiiiR b.2 i = pageAt b i := rfl
    rw [hpg]
    by_cases h1 : okAt b i
    · rw [decide_eq_true h1, dnot_t, dif_f]
      by_cases h3 : i ∈ out
      · rw [ieq_t (show mget met i = 1 from (hm i).2 h3), dif_t, walk_stop b k i out (.inr h3)]
        exact ⟨met, rfl, hm⟩
      · rw [ieq_f (show ¬ mget met i = 1 from fun h => h3 ((hm i).1 h)), dif_f, droom_t (by simp; omega), dif_t, ile_t h1.1, dif_t, ilt_t h1.2.1, dif_t, walk_step b k i out h1 h3]
        have h4 := h.snoc h1 h3
        have loop : ∀ (m j : Nat) (mt : Int → Int) (o : List Int), j + m = (pageAt b i).2.2.length → Met mt o → Inv b o → out.length + 1 ≤ o.length →
            ∃ met', impl_reachFrom_1_L5 (impl_reachFrom_1_R k) (m + 1) (b, mt, o, (pageAt b i).2.2, ((pageAt b i).2.2.length : Int), (j : Int)) = some (met', ((pageAt b i).2.2.drop j).foldl (fun out e => walk b k e.1 out) o) ∧ Met met' (((pageAt b i).2.2.drop j).foldl (fun out e => walk b k e.1 out) o) := by
          intro m
          induction m with
          | zero =>
            intro j mt o hj hmt ho hol
            simp only [impl_reachFrom_1_L5, dlen_eq]
            rw [ilt_f (by omega), dif_f, List.drop_eq_nil_of_le (by omega)]
            exact ⟨mt, rfl, hmt⟩
          | succ m ih =>
            intro j mt o hj hmt ho hol
            have hjl : j < (pageAt b i).2.2.length := by omega
            obtain ⟨mt', e, hmt'⟩ := walk_impl b hb k (pageAt b i).2.2[j].1 mt o ho hmt (by omega)
            generalize hq : m + 1 = q at ih ⊢
            simp only [impl_reachFrom_1_L5, dlen_eq]
            rw [ilt_t (by omega), dif_t, ile_t (by omega), dif_t, dif_t, dat_nat _ _ j hjl, e, dbind_s, iadd_in (by omega)]
            rw [List.drop_eq_getElem_cons hjl]
            have hw := walk_inv b k (pageAt b i).2.2[j].1 o ho
            exact ih (j + 1) mt' (walk b k (pageAt b i).2.2[j].1 o) (by omega) hmt' hw.1 (by omega)
        cases hl : (pageAt b i).2.1 with
        | true =>
          rw [dnot_t, dif_f, if_pos rfl]
          exact ⟨_, rfl, hm.snoc i⟩
        | false =>
          rw [dnot_f, dif_t, dif_t, dif_t, if_neg (by simp)]
          have := loop (pageAt b i).2.2.length 0 (mput met i 1) (out ++ [i]) (by omega) (hm.snoc i) h4 (by simp)
          simpa using this
    · rw [decide_eq_false h1, dnot_f, dif_t, walk_stop b k i out (.inl h1)]
      exact ⟨met, rfl, hm⟩
/-- the pages reached -/
def reach (b : BookT) (i : Int) : List Int := walk b (b.2.length + 1) i []
theorem inv_nil (b : BookT) : Inv b [] := ⟨List.nodup_nil, nofun⟩
theorem reach_inv (b : BookT) (i : Int) : Inv b (reach b i) := (walk_inv b _ i [] (inv_nil b)).1
theorem spec_Reach_eq (b : BookT) (hb : PagesSmall b.2) : spec_Reach b = some (reach b b.1) := by
  simp only [spec_Reach, dnil_eq, spec_l7Walk_of (walk_spec b hb (b.2.length + 1) b.1 [] (inv_nil b) (by simp)), dbind_s]
  rfl
theorem reachFrom_eq (b : BookT) (hb : PagesSmall b.2) (i : Int) : impl_reachFrom (b, i) = some (reach b i) := by
  obtain ⟨met', e, _⟩ := walk_impl b hb (b.2.length + 1) i mnil [] (inv_nil b) (fun x => by simp [mnil]) (by simp)
  simp only [impl_reachFrom, dnil_eq, impl_reachFrom_1_of e, dbind_s]
  rfl
end Rig.Pure
