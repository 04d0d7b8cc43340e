/- Regions in whatever order, code, functions: the evaluator is right. -/
import Derived.Test.YtkpbfldnickghaaDoorPEi
set_option linter.unusedVariables false
set_option linter.unusedSimpArgs false
set_option linter.unusedSectionVars false
namespace Go.PE
variable [Globs]
open Go.RowKit (Below)

/-! ### What an operation looks at -/
theorem ev_congr {e1 e2 : Env} {xs : List Opd} (h : ∀ t ∈ tmpsOf xs, get e1 t = get e2 t) {x : Opd} (hx : x ∈ xs) : x.ev e1 = x.ev e2 := by
  cases x with
  | tmp t => exact h t (List.mem_filterMap.2 ⟨.tmp t, hx, rfl⟩)
  | cst v => rfl
  | fn f => rfl
theorem evs_congr {e1 e2 : Env} {xs : List Opd} (h : ∀ t ∈ tmpsOf xs, get e1 t = get e2 t) : xs.map (·.ev e1) = xs.map (·.ev e2) := List.map_congr_left fun x hx => ev_congr h hx
theorem fillP_congr {e1 e2 : Env} : ∀ (ps : List (Nat × Nat × Opd)) (cs : List PV), (∀ q ∈ ps, q.2.2.ev e1 = q.2.2.ev e2) → fillP e1 cs ps = fillP e2 cs ps
  | [], _, _ => rfl
  | (off, sz, x) :: r, cs, h => by
    simp only [fillP, h (off, sz, x) (by simp)]
    split
    · split
      · exact fillP_congr r _ fun q hq => h q (by simp [hq])
      · rfl
    · rfl
theorem fillR_congr {e1 e2 : Env} (σ : Heap) (st : Nat) (sh : List (Option Nat)) : ∀ (ps : List (Nat × Opd)) (cs : List (List PV)), (∀ q ∈ ps, q.2.ev e1 = q.2.ev e2) → fillR σ e1 st sh cs ps = fillR σ e2 st sh cs ps
  | [], _, _ => rfl
  | (i, x) :: r, cs, h => by
    simp only [fillR, h (i, x) (by simp)]
    split
    · split
      · exact fillR_congr σ st sh r _ fun q hq => h q (by simp [hq])
      · rfl
    · rfl
theorem evOp_congr {C : Funcs} {H : Handler} {e1 e2 : Env} (σ : Heap) (p : POp) (h : ∀ t ∈ tmpsOf p.opds, get e1 t = get e2 t) : evOp C H e1 σ p = evOp C H e2 σ p := by
  have hx : ∀ x ∈ p.opds, x.ev e1 = x.ev e2 := fun x hx => ev_congr h hx
  cases p <;> simp only [POp.opds, List.mem_cons, List.not_mem_nil, or_false, forall_eq_or_imp, forall_eq] at hx <;> first
    | (simp only [evOp, evPrim, hx]; done)
    | skip
  case build zero ps => simp only [evOp, evPrim, fillP_congr ps zero fun q hq => hx _ (List.mem_map.2 ⟨q, hq, rfl⟩)]
  case bslice st sh zero len ps => simp only [evOp, evPrim, fillR_congr σ st sh ps _ fun q hq => hx _ (List.mem_map.2 ⟨q, hq, rfl⟩)]
  case mkfn f caps => simp only [evOp, evPrim, List.map_congr_left hx]
  case mx xs => simp only [evOp, evPrim, List.map_congr_left hx]
  case mn xs => simp only [evOp, evPrim, List.map_congr_left hx]
  case call pc f args => simp only [evOp, hx.1, List.map_congr_left hx.2]
  case slice str st x lo hi mx =>
    obtain ⟨h1, h2⟩ := hx
    have on : ∀ d (y : Option Opd), (∀ z ∈ y.toList, z.ev e1 = z.ev e2) → optNat e1 d y = optNat e2 d y := fun d y hy => by
      cases y with
      | none => rfl
      | some y => simp only [optNat, hy y (by simp)]
    have hl := fun d => on d lo fun z hz => h2 z (by simp [hz])
    have hh := fun d => on d hi fun z hz => h2 z (by simp [hz])
    have hm : ∀ z ∈ mx.toList, z.ev e1 = z.ev e2 := fun z hz => h2 z (by simp [hz])
    simp only [evOp, evPrim, h1]
    cases str
    · simp only [sliceP, sliceL, hl, hh]
      cases mx with
      | none => rfl
      | some m => simp only [hm m (by simp)]
    · simp only [sliceP, sliceS, hl, hh]

/-- A quiet operation leaves the abstract heap alone. -/
theorem quiet_same {C : Funcs} {H : Handler} {e : Env} {σ σ' : Heap} {p : POp} {v : PV} (hq : p.quiet = true) (h : evOp C H e σ p = some (v, σ')) : σ' = σ := by
  cases p <;> first | (simp [POp.quiet] at hq; done) | skip
  case call pc f args =>
    simp only [POp.quiet] at hq
    subst hq
    simp only [evOp] at h
    split at h
    · unfold evCall at h
      dsimp only at h
      split at h
      · simp only [Option.map_eq_some_iff, Prod.mk.injEq] at h
        obtain ⟨_, _, _, h⟩ := h
        exact h.symm
      · simp at h
    · cases h
  all_goals
    simp only [evOp, evPrim] at h
    repeat' split at h
    all_goals first
      | (cases h; rfl)
      | (cases h; done)
      | (simp only [Option.map_eq_some_iff, Option.bind_eq_some_iff, Prod.mk.injEq] at h; obtain ⟨_, _, _, h⟩ := h; exact h.symm)
      | (simp only [Option.map_eq_some_iff, Option.bind_eq_some_iff, Prod.mk.injEq] at h; obtain ⟨_, _, _, _, _, h⟩ := h; exact h.symm)
      | (simp only [Option.map_eq_some_iff, Option.bind_eq_some_iff] at h; obtain ⟨_, _, r, _, h⟩ := h; cases r <;> (cases h; rfl))

section
variable {P : Program} {C : Funcs} {H : Handler} {base : Nat} {w : World} {g : Gh} {σ : Heap} {a : Act} {e : Env} {o : Oper}

/-- An operation of a region and what it is. -/
structure CompI (P : Program) (ops : Array Oper) (o : Oper) (po : PO) : Prop where
  dst : po.dst = o.dst
  guard : (o.guard = none ∧ po.guard = none) ∨ ∃ j b d, o.guard = some (j, b) ∧ (ops[j]?).bind (·.dst) = some d ∧ po.guard = some (d, b)
  op : compOp P o = some po.op ∨ ∃ f xs, compOp P o = some (.call false f xs) ∧ po.op = .call true f xs
theorem compO_I {ops : Array Oper} {po : PO} (h : compO P ops o = some po) : CompI P ops o po ∧ CompI P ops o po.pureCall := by
  have key : ∀ po : PO, CompI P ops o po → (∃ p, compOp P o = some p ∧ po.op = p) → CompI P ops o po.pureCall := fun po h hp => by
    obtain ⟨p, hp1, hp2⟩ := hp
    unfold PO.pureCall
    split
    · rename_i pc f xs he
      refine ⟨h.dst, h.guard, .inr ⟨f, xs, ?_, rfl⟩⟩
      rw [hp1, ← hp2, he]
      rw [← hp2, he] at hp1
      rw [(comp_call hp1).1]
    · exact h
  unfold compO at h
  split at h
  · rename_i hg
    simp only [Option.map_eq_some_iff] at h
    obtain ⟨p, h1, rfl⟩ := h
    have h2 : CompI P ops o ⟨o.dst, none, p⟩ := ⟨rfl, .inl ⟨hg, rfl⟩, .inl h1⟩
    exact ⟨h2, key _ h2 ⟨p, h1, rfl⟩⟩
  · rename_i j b hg
    split at h
    · rename_i d hd
      simp only [Option.map_eq_some_iff] at h
      obtain ⟨p, h1, rfl⟩ := h
      have h2 : CompI P ops o ⟨o.dst, some (d, b), p⟩ := ⟨rfl, .inr ⟨j, b, d, hg, hd, rfl⟩, .inl h1⟩
      exact ⟨h2, key _ h2 ⟨p, h1, rfl⟩⟩
    · cases h
theorem compOs_I {ops : Array Oper} : ∀ {l : List Oper} {pl : List PO}, compOs P ops l = some pl → l.length = pl.length ∧ (∀ (i : Nat) o po, l[i]? = some o → pl[i]? = some po → CompI P ops o po) ∧ ∀ (i : Nat) o po, l[i]? = some o → (pl.map PO.pureCall)[i]? = some po → CompI P ops o po
  | [], pl, h => by
    simp only [compOs, Option.some.injEq] at h
    subst h
    exact ⟨rfl, fun i o po h => by simp at h, fun i o po h => by simp at h⟩
  | o :: l, pl, h => by
    simp only [compOs] at h
    split at h
    · rename_i p ps h1 h2
      cases h
      obtain ⟨k1, k2, k3⟩ := compOs_I h2
      have hI := compO_I h1
      refine ⟨by simp [k1], fun i o po h3 h4 => ?_, fun i o po h3 h4 => ?_⟩
      · cases i with
        | zero => simp at h3 h4; subst h3; subst h4; exact hI.1
        | succ i => exact k2 i o po (by simpa using h3) (by simpa using h4)
      · cases i with
        | zero => simp at h3 h4; subst h3; subst h4; exact hI.2
        | succ i => exact k3 i o po (by simpa using h3) (by simpa using h4)
    · cases h

/-- Is it wanted? -/
theorem want_ok {ops : Array Oper} {po : PO} (hI : CompI P ops o po) (hs : Sim w g σ a e) {b : Bool} (h : wantP e po.guard = some b) : Region.wanted o (yielded ops a.tmps) = b := by
  rcases hI.guard with ⟨h1, h2⟩ | ⟨j, want, d, h1, h2, h3⟩
  · rw [h2] at h
    cases h
    simp [Region.wanted, h1]
  · rw [h3] at h
    simp only [Region.wanted, h1, yielded, h2, Option.bind_some]
    simp only [wantP, get] at h
    cases hd : e[d]? with
    | none => rw [hd] at h; simp at h
    | some p =>
      rw [hd] at h
      obtain ⟨v, hv, hr⟩ := hs.get hd
      have hv' : a.tmps[d]? = some v := by simpa using hv
      simp only [Option.getD_some] at h
      split at h
      · cases h
        rw [hv', hr.bool_inv]
        cases want <;> rename_i c <;> cases c <;> rfl
      · cases h
        obtain ⟨vs, rfl, _⟩ := hr.tup_inv
        rw [hv']
        cases want <;> rfl
      · cases h

/-! ### A region in the order of the text -/
theorem ops_ok (SH : SoundH P C H) {ops : Array Oper} : ∀ (l : List Oper) (k : Nat) (pl : List PO), (∀ j : Nat, l[j]? = ops[k + j]?) → l.length = pl.length → (∀ (i : Nat) o po, l[i]? = some o → pl[i]? = some po → CompI P ops o po) →
    ∀ {e : Env} {σ : Heap} {e' : Env} {σ' : Heap} {w : World} {g : Gh} {a : Act} {Q : Exit → Act → World → Prop}, evOps C H pl e σ = some (e', σ') → Inv base w g σ → Sim w g σ a e → Ends base w g σ a.defers .norm e' σ' Q → wpOps P ops Q (List.range' k l.length) a w
  | [], k, pl, _, hl, _, e, σ, e', σ', w, g, a, Q, h, hi, hs, hQ => by
    have : pl = [] := List.eq_nil_of_length_eq_zero hl.symm
    subst this
    simp only [evOps, Option.some.injEq, Prod.mk.injEq] at h
    obtain ⟨rfl, rfl⟩ := h
    exact hQ a w g rfl (Prog.refl hi) hs
  | o :: l, k, [], _, hl, _, _, _, _, _, _, _, _, _, _, _, _, _ => by simp at hl
  | o :: l, k, po :: pl, hget, hl, hI, e, σ, e', σ', w, g, a, Q, h, hi, hs, hQ => by
    have h0 : ops[k]? = some o := by simpa using (hget 0).symm
    have hI0 := hI 0 o po (by simp) (by simp)
    have hget' : ∀ j : Nat, l[j]? = ops[k + 1 + j]? := fun j => by have := hget (j + 1); simpa [Nat.add_assoc, Nat.add_comm 1 j] using this
    have hI' : ∀ (i : Nat) o po, l[i]? = some o → pl[i]? = some po → CompI P ops o po := fun i o po h1 h2 => hI (i + 1) o po (by simpa using h1) (by simpa using h2)
    simp only [List.length_cons, List.range'_succ, wpOps, h0]
    simp only [evOps] at h
    split at h
    · rename_i hw
      rw [want_ok hI0 hs hw]
      simp only [if_true]
      simp only [Option.bind_eq_some_iff] at h
      obtain ⟨⟨v, σ1⟩, h1, h2⟩ := h
      refine .inl (op_ok SH hi hs hI0.op h1 fun u w' g' hp hr => ?_)
      refine ops_ok SH l (k + 1) pl hget' (by simpa using hl) hI' h2 hp.inv (by rw [hI0.dst]; exact put_ok (hs.mono hp.ext) hr) fun a'' w'' g'' hd hp2 hs2 => hQ a'' w'' g'' ?_ (hp.trans hp2) hs2
      rw [hd]
      unfold Act.put
      split <;> rfl
    · rename_i hw
      rw [want_ok hI0 hs hw]
      simp only [Bool.false_eq_true, if_false]
      refine ops_ok SH l (k + 1) pl hget' (by simpa using hl) hI' h hi (by rw [hI0.dst]; exact put_ok hs (Rep.und _ _ _)) fun a'' w'' g'' hd hp2 hs2 => hQ a'' w'' g'' ?_ hp2 hs2
      rw [hd]
      unfold Act.put
      split <;> rfl
    · cases h
end
end Go.PE
