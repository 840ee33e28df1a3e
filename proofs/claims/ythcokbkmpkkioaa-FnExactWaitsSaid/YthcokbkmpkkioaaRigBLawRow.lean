/- Part of Rig, a reflective evaluator of this project's own: a function's code, run over typed data by Lean's kernel, gives its contract. No condition. -/
import Derived.Test.YthcokbkmpkkioaaRigBLawIn
import Derived.Below
import Derived.SizedLaws
set_option linter.unusedVariables false
noncomputable section
namespace Rig
open Go Go.WideShapes Go.RowKit
/-- a law's statement of the machine, out of the contract of its function and of what that answers -/
theorem law_lifted {C : Checked} {os : Os} {H : Type} {enc : TypeId × Value → H} {f : Nat} {fn : Func} {s : ChangeSpec} {sp : FSpec} {dom : List PathCond} (own : ownKnob C.prog.godebug = none) (started : os.Started) (noInit : C.prog.inits.idxOf? f = none) (hfn : C.prog.funcs[f]? = some fn)
    (witness : ∃ (w : World) (tape : Tape) (i : Input), w.os = os ∧ (w.forCall tape i).Shaped C.prog ∧ i.vars = [] ∧ Input.okWide C.prog (w.forCall tape i) .any w.heap.size f i ∧
      s.pre6 enc C.prog fn dom false (w.forCall tape i).memory i.args ∧ ({} : Assume).holds C.prog (lone (Frame.enter C.prog f i.args .normal) [] (w.forCall tape i)))
    (hF : FnOk C.prog f sp) (ho : sp.outs = [{ mode := 0, cells := [(.bool, false)] }]) (hp : sp.ins.ptrs = []) (hin : paramsOk C.prog fn.params.toList sp.ins = true)
    (pure : ∀ x, Args.good sp.ins x → ∃ y, sp.f x = some y ∧ HEq (rfst sp.outs sp.ins.ptrs y) true)
    (hl : laidOutB C.prog = true) (hm : mapsRowed C.prog = true) (hz : ((List.range C.prog.types.size).all fun t => match C.prog.underlying t with | some (.slice e) => decide (0 < C.prog.cellsOf e) | _ => true) = true)
    (hts : fn.params.toList.all (fun t => decide (t < C.prog.types.size)) = true) (tb : Nat) (hres : fn.resultTypes.toList = [tb]) (hres1 : fn.resultTypes.size = 1) (hb : C.prog.underlying tb = some .bool)
    (hvars : s.vars = []) (hs : ∀ ds : List (DataW H), ds.length = fn.params.toList.length → s.fn H ds = { results := [.lit (.bool true)], args := ds }) :
    ReturnsInHanded {} C os f .any (s.pre6 enc C.prog fn dom false) (s.post enc C.prog fn false true false false) := by
  refine returnsInHanded_of_change_sized own started noInit hfn witness ?_
  intro W base args ds gs before hval hW hcnd hsz _
  have hW' := hW
  obtain ⟨p, q, hA, hV, rfl, hfz, hnd⟩ := hW
  rw [hvars] at hV
  have hg : gs = [] ∧ q = [] := by
    cases gs with
    | nil => exact ⟨rfl, hV⟩
    | cons _ _ => exact hV.elim
  obtain ⟨rfl, rfl⟩ := hg
  have hlen : ∀ {ts : List TypeId} {vs : List Value} {ds : List (DataW H)} {ps : List MemPlace}, DataW.TrodAll enc C.prog W 0 (fun _ => true) true ts vs ds ps → ds.length = ts.length := by
    intro ts
    induction ts with
    | nil => intro vs ds ps h; cases vs <;> cases ds <;> first | rfl | exact h.elim
    | cons t ts ih =>
      intro vs ds ps h
      cases vs with
      | nil => cases ds <;> exact h.elim
      | cons v vs =>
        cases ds with
        | nil => exact h.elim
        | cons d ds =>
          obtain ⟨p, q, _, h2, _⟩ := h
          simp [ih h2]
  have hd := hlen hA
  refine (law_walk hF ho hp hin pure (fun j t v ht hv => hval j t v (by simpa using ht) hv) hA).mono fun e W' ⟨he, hG⟩ => ⟨_, he, ds, [], _, [], p, [], hW', ?_, ?_, ?_, ?_, fun h => by cases h⟩
  · rw [List.append_nil, hs ds hd, hres]
    have : (Value.bool true).resultList fn.resultTypes.size = [.bool true] := by rw [hres1]; rfl
    rw [this]
    exact ⟨[], [], shut_bool hb true, rfl, rfl⟩
  · rw [List.append_nil, hs ds hd]
    exact args_kept (kids_rows hl hm) (slices_full_of C.prog hz) (fun t ht => of_decide_eq_true (List.all_eq_true.1 hts t ht)) hA hG
  · rw [hvars, List.append_nil, hs ds hd]; exact rfl
  · have hB : Below W.heap.size W W' := ⟨hG.os, hG.tape, hG.output, hG.size, fun k hk => hG.block k hk (fun h => h)⟩
    exact hB.frame _
end Rig
