/- A law's row from what the evaluator answers: it answers true, and all that was there is as it was. -/
import Derived.Test.YtkpbfldnickghaaDoorPEr
import Derived.Carry
import Derived.ChangeSame
import Derived.ProofKit
set_option linter.unusedVariables false
set_option linter.unusedSimpArgs false
namespace Go.PE
open Go.RowKit (Below)
section
variable {H : Type} {enc : TypeId × Value → H} {P : Program}
theorem trodAll_below (hl : laidOutB P = true) {W W' : World} (hb : Below W.heap.size W W') : ∀ {ts : List TypeId} {vs : List Value} {ds : List (DataW H)} {ps : List MemPlace}, (∀ t ∈ ts, P.readableRec t = true ∧ t < P.types.size) → DataW.TrodAll enc P W 0 (fun _ => true) true ts vs ds ps → (∀ x ∈ ps, x.block < W.heap.size) →
    DataW.TrodAll enc P W' 0 (fun b => decide (b < W.heap.size)) true ts vs ds ps
  | [], [], [], ps, _, h, _ => h
  | t :: ts, v :: vs, d :: ds, ps, hr, h, hlt => by
    obtain ⟨p, q, h1, h2, rfl⟩ := h
    obtain ⟨r1, r2⟩ := hr t (by simp)
    exact ⟨p, q, Go.RowKit.Below.trod hl r1 r2 h1 hb (fun x hx => hlt x (by simp [hx])), trodAll_below hl hb (fun t ht => hr t (by simp [ht])) h2 (fun x hx => hlt x (by simp [hx])), rfl⟩
  | [], [], _ :: _, _, _, h, _ => h.elim
  | [], _ :: _, _, _, _, h, _ => h.elim
  | _ :: _, [], _, _, _, h, _ => h.elim
  | _ :: _, _ :: _, [], _, _, h, _ => h.elim
/-- The row's word of a call that answers true and leaves all that was there. -/
theorem law_post {fn : Func} {s : ChangeSpec} {apart fresh handsOn : Bool} {W W' : World} {args : Array Value} {ds gs : List (DataW H)} {before : List MemPlace} {tb : TypeId} (hW : DataW.Whole enc P fn.params.toList s.vars apart W args.toList ds gs before) (hv : s.vars = [])
    (hs : gs = [] → s.fn H (ds ++ gs) = { results := [.lit (.bool true)], args := ds }) (hl : laidOutB P = true) (hr : ∀ t ∈ fn.params.toList, P.readableRec t = true ∧ t < P.types.size) (hres : fn.resultTypes = #[tb]) (htb : P.underlying tb = some .bool) (hb : Below W.heap.size W W') :
    s.post enc P fn apart fresh handsOn false W args (.bool true) W' := by
  have hlt := fun p hp => hW.lt p hp
  have hW0 := hW
  obtain ⟨p, q, h1, h2, rfl, hz, hn⟩ := hW
  rw [hv] at h2
  obtain ⟨rfl, rfl⟩ := Go.ChangeShapes.trodVars_none h2
  have hs := hs rfl
  refine ⟨ds, [], p ++ [], [], p, [], hW0, ?_, ?_, ?_, hb.frame _, fun h => by cases h⟩
  · rw [hs, hres]
    exact Go.ChangeShapes.trodAll_mk1 (Go.RowKit.shut_bool htb true)
  · rw [hs]
    exact trodAll_below hl hb hr h1 (fun x hx => hlt x (by simp [hx]))
  · rw [hs, hv]
    rfl
/-- A call of a law whose evaluation answers true. -/
theorem law_calls [Globs] {f : FuncId} {fn : Func} {s : ChangeSpec} {apart fresh handsOn : Bool} {W : World} {args : Array Value} {ds gs : List (DataW H)} {before : List MemPlace} {tb : TypeId} (hW : DataW.Whole enc P fn.params.toList s.vars apart W args.toList ds gs before) (hv : s.vars = [])
    (hs : gs = [] → s.fn H (ds ++ gs) = { results := [.lit (.bool true)], args := ds }) (hl : laidOutB P = true) (hr : ∀ t ∈ fn.params.toList, P.readableRec t = true ∧ t < P.types.size) (hres : fn.resultTypes = #[tb]) (htb : P.underlying tb = some .bool)
    {pargs : List PV} (hP : PureOK P f pargs [.bool true]) (hglob : Globs.ok W.heap.size W) (hrep : RepL W (gh0 (allProt W)) [] args.toList pargs) :
    Calls P f args W fun e W' => ∃ v, e = .returned v ∧ s.post enc P fn apart fresh handsOn false W args v W' := by
  obtain ⟨_, _, h⟩ := hP
  have := h W (allProt W) args.toList (allProt_ok W) hglob hrep
  simp only [Array.toArray_toList] at this
  refine this.mono fun e W' ⟨us, prot', e1, e2, _, _, _, e6⟩ => ?_
  obtain ⟨v, hv1, hv2⟩ := e6.get (i := 0) (p := .bool true) rfl
  have hlen := e6.1
  match us, hlen, hv1 with
  | [u], _, hv1 =>
    simp only [List.getElem?_cons_zero, Option.some.injEq] at hv1
    subst hv1
    obtain rfl := hv2.bool_inv
    exact ⟨.bool true, e1, law_post hW hv hs hl hr hres htb e2⟩
/-! ### Arguments -/
open Go.WideShapes in
theorem arg_struct {W : World} {r : Reach} {base : Nat} {t : TypeId} {fs : List (TypeId × Nat)} (ht : St P t fs) {v : Value} (hval : Value.okWide P W r base t v) {α : Type} {f : α → List PV} {R : DataW H → α → Prop} (hR : ∀ fuel, Rd enc P W (fun _ => true) true t f R fuel) {d : DataW H} {ps : List MemPlace}
    (h : DataW.Trod enc P W 0 (fun _ => true) true t v d ps) : ∃ y, R d y ∧ Rep W (gh0 (allProt W)) [] v (.agg (f y)) := by
  obtain ⟨fs', hu, _⟩ := ht
  obtain ⟨cs, rfl, _⟩ := okWide_struct hu hval
  obtain ⟨fuel, hf⟩ := h
  obtain ⟨y, h1, h2⟩ := hR fuel _ _ hf
  exact ⟨y, h1, RepL.agg h2⟩
theorem arg_cell {W : World} {t : TypeId} {v : Value} (hc : v.cells = #[v]) {α : Type} {f : α → PV} {R : DataW H → α → Prop} (hR : ∀ fuel, Rd enc P W (fun _ => true) true t (fun y => [f y]) R fuel) {d : DataW H} {ps : List MemPlace}
    (h : DataW.Trod enc P W 0 (fun _ => true) true t v d ps) : ∃ y, R d y ∧ Rep W (gh0 (allProt W)) [] v (f y) := by
  obtain ⟨fuel, hf⟩ := h
  rw [hc] at hf
  obtain ⟨y, h1, h2⟩ := hR fuel _ _ hf
  exact ⟨y, h1, h2.head⟩
end
end Go.PE
