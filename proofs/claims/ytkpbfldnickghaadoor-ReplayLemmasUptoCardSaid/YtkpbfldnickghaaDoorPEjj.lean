/- Quiet operations and those that it doesn't matter to: earlier or later, the answer is the same. -/
import Derived.Test.YtkpbfldnickghaaDoorPEj
set_option linter.unusedVariables false
set_option linter.unusedSimpArgs false
set_option linter.unusedSectionVars false
set_option linter.constructorNameAsVariable false
set_option linter.unusedSectionVars false
namespace Go.PE
variable [Globs]

/-- All objects stay, others may come. -/
def Grow (σ σ' : Heap) : Prop := ∃ l, σ' = σ ++ l
/-- All boxes stay. -/
def Boxes (σ σ' : Heap) : Prop := σ.length ≤ σ'.length ∧ ∀ (id : Nat) c, id < σ.length → (σ[id]? = some (.box c) ↔ σ'[id]? = some (.box c))
theorem Grow.get {σ σ' : Heap} (h : Grow σ σ') {id : Nat} (hi : id < σ.length) : σ'[id]? = σ[id]? := by
  obtain ⟨l, rfl⟩ := h
  exact List.getElem?_append_left hi
theorem Grow.some {σ σ' : Heap} (h : Grow σ σ') {id : Nat} {o : Obj} (hi : σ[id]? = some o) : σ'[id]? = some o := by
  rw [h.get (List.getElem?_eq_some_iff.1 hi).1, hi]
theorem Grow.boxes {σ σ' : Heap} (h : Grow σ σ') : Boxes σ σ' := by
  refine ⟨?_, fun id c hi => by rw [h.get hi]⟩
  obtain ⟨l, rfl⟩ := h
  simp
theorem Grow.refl (σ : Heap) : Grow σ σ := ⟨[], by simp⟩
theorem Grow.trans {a b c : Heap} (h : Grow a b) (k : Grow b c) : Grow a c := by
  obtain ⟨l, rfl⟩ := h
  obtain ⟨m, rfl⟩ := k
  exact ⟨l ++ m, by simp⟩
theorem Boxes.trans {a b c : Heap} (h : Boxes a b) (k : Boxes b c) : Boxes a c :=
  ⟨Nat.le_trans h.1 k.1, fun id x hi => (h.2 id x hi).trans (k.2 id x (Nat.lt_of_lt_of_le hi h.1))⟩
/-- What a quiet operation asks of the heaps between. -/
def Between (q : POp) (σ σ' : Heap) : Prop := q.blind = true ∨ (q.csts = true ∧ ((q.isLoad = true ∧ Boxes σ σ') ∨ Grow σ σ'))
theorem Between.refl (q : POp) (hq : q.blind = true ∨ q.csts = true) (σ : Heap) : Between q σ σ := hq.elim .inl fun h => .inr ⟨h, .inr (.refl σ)⟩
theorem Between.trans {q : POp} {a b c : Heap} (h : Between q a b) (k : Between q b c) : Between q a c := by
  rcases h with h | ⟨hc, h⟩
  · exact .inl h
  rcases k with k | ⟨_, k⟩
  · exact .inl k
  refine .inr ⟨hc, ?_⟩
  rcases h with ⟨hl, h⟩ | h
  · rcases k with ⟨_, k⟩ | k
    · exact .inl ⟨hl, h.trans k⟩
    · exact .inl ⟨hl, h.trans k.boxes⟩
  · rcases k with ⟨hl, k⟩ | k
    · exact .inl ⟨hl, h.boxes.trans k⟩
    · exact .inr (h.trans k)

/-! ### What an operation does to the heap -/
theorem alloc_grow {C : Funcs} {H : Handler} {e : Env} {σ σ' : Heap} {p : POp} {v : PV} (ha : p.alloc = true) (h : evOp C H e σ p = some (v, σ')) : Grow σ σ' := by
  cases p <;> first | (simp [POp.alloc] at ha; done) | skip
  all_goals
    simp only [evOp, evPrim] at h
    repeat' split at h
    all_goals first
      | (cases h; exact ⟨_, rfl⟩)
      | (cases h; done)
theorem set_boxes {σ : Heap} {id : Nat} {o o' : Obj} (ho : σ[id]? = some o) (h1 : ∀ c, o ≠ .box c) (h2 : ∀ c, o' ≠ .box c) : Boxes σ (σ.set id o') := by
  refine ⟨by simp, fun j c hj => ?_⟩
  by_cases hij : id = j
  · subst hij
    rw [List.getElem?_set_self hj, ho]
    simp only [Option.some.injEq]
    exact ⟨fun e => absurd e (h1 c), fun e => absurd e (h2 c)⟩
  · rw [List.getElem?_set_ne hij]
theorem logs_boxes {C : Funcs} {H : Handler} {e : Env} {σ σ' : Heap} {p : POp} {v : PV} (ha : p.logs = true) (h : evOp C H e σ p = some (v, σ')) : Boxes σ σ' := by
  cases p <;> first | (simp [POp.logs] at ha; done) | skip
  case append ty st b s x =>
    simp only [evOp, evPrim, appendP] at h
    repeat' split at h
    all_goals first
      | (cases h; done)
      | (cases h; exact (Grow.refl _).boxes)
      | (cases h; exact Grow.boxes ⟨_, rfl⟩)
      | (rename_i ho _; cases h; exact set_boxes ho (fun c e => by cases e) (fun c e => by cases e))
  case mapup kk x k v =>
    simp only [evOp, evPrim] at h
    split at h
    · split at h
      · rename_i ho
        simp only [Option.map_eq_some_iff] at h
        obtain ⟨r, _, h⟩ := h
        cases r <;> (cases h; exact set_boxes ho (fun c e => by cases e) (fun c e => by cases e))
      · cases h
    · cases h
theorem free_between {C : Funcs} {H : Handler} {e : Env} {σ σ' : Heap} {q p : POp} {v : PV} (hq : q.blind = true ∨ q.csts = true) (hf : q.free p = true) (h : evOp C H e σ p = some (v, σ')) : Between q σ σ' := by
  simp only [POp.free, Bool.or_eq_true, Bool.and_eq_true] at hf
  rcases hf with (hf | hf) | ⟨hc, hf | ⟨hl, hf⟩⟩
  · rw [quiet_same hf h]; exact .refl q hq σ
  · exact .inl hf
  · exact .inr ⟨hc, .inr (alloc_grow hf h)⟩
  · exact .inr ⟨hc, .inl ⟨hl, logs_boxes hf h⟩⟩

/-! ### Reading forward -/
theorem cellsAt_fwd' {σ σ' : Heap} (hb : Boxes σ σ') {p : PV} {c : List PV} (h : cellsAt σ p = some c) : cellsAt σ' p = some c := by
  cases p <;> first | exact h | skip
  rename_i id off
  simp only [cellsAt] at h ⊢
  split at h
  · rename_i cs ho
    rw [(hb.2 id cs (List.getElem?_eq_some_iff.1 ho).1).1 ho]
    exact h
  · cases h
section
variable {σ σ' : Heap} (hg : Grow σ σ')
include hg
theorem rowsP_fwd {st : Nat} {p : PV} {r : List (List PV)} (h : rowsP σ st p = some r) : rowsP σ' st p = some r := by
  cases p <;> first | exact h | skip
  rename_i id s n
  simp only [rowsP] at h ⊢
  split at h
  · rename_i ho
    rw [hg.some ho]
    exact h
  · cases h
theorem rowsOf_fwd {st : Nat} {p : PV} {r : List (List PV)} (h : rowsOf σ st p = some r) : rowsOf σ' st p = some r := by
  cases p with
  | own id s n =>
    unfold rowsOf at h ⊢
    simp only at h ⊢
    split at h
    · rename_i ho
      rw [hg.some ho]
      exact h
    · have h' := rowsP_fwd hg h
      simp only [rowsP] at h
      split at h
      · rename_i ho
        rw [hg.some ho]
        exact h'
      · cases h
  | _ =>
    simp only [rowsOf] at h ⊢
    exact rowsP_fwd hg h
theorem lenP_fwd {ty : TyK} {p : PV} {n : Nat} (h : lenP σ ty p = some n) : lenP σ' ty p = some n := by
  unfold lenP at h
  split at h <;> first | (cases h; done) | skip
  all_goals first
    | exact h
    | (unfold lenP; exact h)
    | (split at h <;> first | (cases h; done) | (rename_i ho; unfold lenP; simp only [hg.some ho]; exact h))
theorem mapOf_fwd {p : PV} {es : List (PV × PV)} (h : mapOf σ p = some es) : mapOf σ' p = some es := by
  cases p <;> first | exact h | skip
  simp only [mapOf] at h ⊢
  split at h
  · rename_i ho
    rw [hg.some ho]
    exact h
  · cases h
theorem coe1_fwd {p : PV} (h : (coe1 σ p).pure = true) : coe1 σ' p = coe1 σ p := by
  cases p with
  | own id s n =>
    simp only [coe1] at h ⊢
    cases ho : σ[id]? with
    | none => rw [ho] at h; simp [PV.pure] at h
    | some o => rw [hg.some ho]
  | _ => rfl
theorem coes_fwd : ∀ {l : List PV}, pureL (l.map (coe1 σ)) = true → l.map (coe1 σ') = l.map (coe1 σ)
  | [], _ => rfl
  | p :: l, h => by
    simp only [List.map_cons, pureL, Bool.and_eq_true] at h
    simp only [List.map_cons, coe1_fwd hg h.1, coes_fwd h.2]
theorem coeV_fwd {p : PV} (h : (coeV σ p).pure = true) : coeV σ' p = coeV σ p := by
  cases p with
  | agg cs =>
    simp only [coeV, PV.pure] at h ⊢
    rw [coes_fwd hg h]
  | tup cs =>
    simp only [coeV, PV.pure] at h ⊢
    rw [coes_fwd hg h]
  | _ =>
    simp only [coeV] at h ⊢
    exact coe1_fwd hg h
end
theorem canon1_pure {s : Option Nat} {p : PV} (h : (canon1 s p).pure = true) : p.pure = true := by
  unfold canon1 at h
  split at h
  · rfl
  · split at h <;> exact h
  · exact h
theorem canonL_pure : ∀ {ss : List (Option Nat)} {l : List PV}, pureL (canonL ss l) = true → pureL l = true
  | [], l, h => by cases l <;> exact h
  | s :: ss, [], h => rfl
  | s :: ss, v :: vs, h => by
    simp only [canonL, pureL, Bool.and_eq_true] at h ⊢
    exact ⟨canon1_pure h.1, canonL_pure h.2⟩
theorem canonV_pure {sh : List (Option Nat)} {p : PV} (h : (canonV sh p).pure = true) : p.pure = true := by
  unfold canonV at h
  split at h
  · exact canonL_pure h
  · split at h
    · exact canon1_pure h
    · exact h
theorem cells_pure {p : PV} {cs : List PV} (h : p.cells? = some cs) (hp : pureL cs = true) : p.pure = true := by
  cases p <;> simp only [PV.cells?, Option.some.injEq] at h <;> first
    | (cases h; done)
    | (subst h; first | exact hp | (simpa [pureL] using hp))
theorem keepArgs_fwd {σ σ' : Heap} (hg : Grow σ σ') : ∀ {ks : List (Bool × List (Option Nat))} {vs : List PV}, pureL (keepArgs σ ks vs) = true → keepArgs σ' ks vs = keepArgs σ ks vs
  | [], vs, h => by
    simp only [keepArgs] at h ⊢
    revert h
    induction vs with
    | nil => exact fun _ => rfl
    | cons v vs ih =>
      intro h
      simp only [List.map_cons, pureL, Bool.and_eq_true] at h
      simp only [List.map_cons, coeV_fwd hg h.1, ih h.2]
  | (true, _) :: ks, [], h => rfl
  | (false, _) :: ks, [], h => rfl
  | (true, _) :: ks, v :: vs, h => by
    simp only [keepArgs, pureL, Bool.and_eq_true] at h ⊢
    rw [keepArgs_fwd hg h.2]
  | (false, sh) :: ks, v :: vs, h => by
    simp only [keepArgs, pureL, Bool.and_eq_true] at h ⊢
    rw [keepArgs_fwd hg h.2, coeV_fwd hg (canonV_pure h.1)]
theorem fillR_fwd {σ σ' : Heap} (hg : Grow σ σ') {e : Env} {st : Nat} {sh : List (Option Nat)} : ∀ {ps : List (Nat × Opd)} {rs r : List (List PV)}, fillR σ e st sh rs ps = some r → fillR σ' e st sh rs ps = some r
  | [], rs, r, h => h
  | (i, x) :: ps, rs, r, h => by
    simp only [fillR] at h ⊢
    split at h
    · rename_i ys hy
      split at h
      · rename_i hc
        rw [coeV_fwd hg (canonV_pure (cells_pure hy hc.2.2)), hy]
        simp only
        rw [if_pos hc]
        exact fillR_fwd hg h
      · cases h
    · cases h
/-- What doesn't look at the heap answers as ever. -/
theorem comm_blind {C : Funcs} {H : Handler} {e : Env} {σ σ' : Heap} {q : POp} {v : PV} (hb : q.blind = true) (h : evOp C H e σ q = some (v, σ)) : evOp C H e σ' q = some (v, σ') := by
  cases q <;> first | (simp [POp.blind] at hb; done) | skip
  case slice str st x lo hi mx =>
    simp only [POp.blind] at hb
    subst hb
    simp only [evOp, evPrim, sliceP, Option.map_eq_some_iff, Prod.mk.injEq] at h ⊢
    obtain ⟨u, h1, h2, _⟩ := h
    exact ⟨u, h1, h2, trivial⟩
  case fld agg off sz x =>
    simp only [evOp, evPrim] at h ⊢
    split at h
    · rename_i cs he
      try simp only [he]
      split at h
      · rename_i ha
        rw [if_pos ha]
        split at h
        · rename_i hl
          rw [if_pos hl]
          cases h
          rfl
        · cases h
      · rename_i ha
        rw [if_neg ha]
        simp only [Option.map_eq_some_iff, Prod.mk.injEq, and_true] at h ⊢
        exact h
    · cases h
  case idxs x i =>
    simp only [evOp, evPrim] at h ⊢
    split at h
    · rename_i h1 h2
      try simp only [h1, h2]
      split at h
      · rename_i hl
        rw [if_pos hl]
        simp only [Option.map_eq_some_iff, Prod.mk.injEq, and_true] at h ⊢
        exact h
      · cases h
    · cases h
  all_goals
    simp only [evOp, evPrim] at h ⊢
    repeat' split at h
    all_goals first
      | (cases h; done)
      | (simp only [Option.some.injEq, Prod.mk.injEq, and_true] at h; subst h; simp only [*]; done)
      | (simp only [Option.map_eq_some_iff, Prod.mk.injEq, and_true] at h ⊢; simp only [*]; done)
/-- Later is as earlier. -/
theorem comm_fwd {C : Funcs} {H : Handler} {e : Env} {σ σ' : Heap} {q : POp} {v : PV} (hq : q.quiet = true) (hb : Between q σ σ') (h : evOp C H e σ q = some (v, σ)) : evOp C H e σ' q = some (v, σ') := by
  rcases hb with hb | ⟨_, ⟨hl, hb⟩ | hg⟩
  · exact comm_blind hb h
  · cases q <;> first | (simp [POp.isLoad] at hl; done) | skip
    simp only [evOp, evPrim, Option.bind_eq_some_iff, Option.map_eq_some_iff, Prod.mk.injEq] at h ⊢
    obtain ⟨cs, h1, u, h2, h3, _⟩ := h
    exact ⟨cs, cellsAt_fwd' hb h1, u, h2, h3, trivial⟩
  · cases hbl : q.blind with
    | true => exact comm_blind hbl h
    | false =>
      cases q <;> first | (simp [POp.blind] at hbl; done) | (simp [POp.quiet] at hq; done) | skip
      case bslice st sh zero len ps =>
        simp only [evOp, evPrim, Option.map_eq_some_iff, Prod.mk.injEq] at h ⊢
        obtain ⟨cs, h1, h2, _⟩ := h
        exact ⟨cs, fillR_fwd hg h1, h2, trivial⟩
      case load agg sz x =>
        simp only [evOp, evPrim, Option.bind_eq_some_iff, Option.map_eq_some_iff, Prod.mk.injEq] at h ⊢
        obtain ⟨cs, h1, u, h2, h3, _⟩ := h
        exact ⟨cs, cellsAt_fwd' hg.boxes h1, u, h2, h3, trivial⟩
      case ofbytes x =>
        simp only [evOp, evPrim] at h ⊢
        split at h
        · rename_i rows hr
          rw [rowsOf_fwd hg hr]
          simp only [Option.map_eq_some_iff, Prod.mk.injEq, and_true] at h ⊢
          exact h
        · cases h
      case slice str st x lo hi mx =>
        simp only [POp.blind] at hbl
        subst hbl
        simp only [evOp, evPrim, sliceP, sliceL, Option.map_eq_some_iff, Prod.mk.injEq] at h ⊢
        obtain ⟨u, h1, h2, _⟩ := h
        refine ⟨u, ?_, h2, trivial⟩
        split at h1
        · cases h1
        · rename_i rows hr
          rw [rowsP_fwd hg hr]
          exact h1
      case iaddr st x i =>
        simp only [evOp, evPrim] at h ⊢
        split at h
        · rename_i h1 h2
          try simp only [h1, h2]
          split at h
          · rename_i hl
            rw [if_pos hl]
            simp only [Option.map_eq_some_iff, Prod.mk.injEq, and_true] at h ⊢
            exact h
          · cases h
        · rename_i h1 h2
          try simp only [h1, h2]
          split at h
          · rename_i ho
            rw [hg.some ho]
            simp only
            split at h
            · rename_i hl
              rw [if_pos hl]
              simp only [Option.map_eq_some_iff, Prod.mk.injEq, and_true] at h ⊢
              exact h
            · cases h
          · rename_i ho
            rw [hg.some ho]
            simp only
            split at h
            · rename_i hl
              rw [if_pos hl]
              simp only [Option.some.injEq, Prod.mk.injEq, and_true] at h ⊢
              exact h
            · cases h
          · cases h
        · cases h
      case lookup kk zero x k ok =>
        simp only [evOp, evPrim] at h ⊢
        split at h
        · rename_i hk
          rw [if_pos hk]
          simp only [Option.bind_eq_some_iff, Option.map_eq_some_iff] at h ⊢
          obtain ⟨es, h1, r, h2, h3⟩ := h
          refine ⟨es, mapOf_fwd hg h1, r, h2, ?_⟩
          cases r <;> (simp only [Prod.mk.injEq, and_true] at h3 ⊢; exact h3)
        · cases h
      case len ty x =>
        simp only [evOp, evPrim, Option.map_eq_some_iff, Prod.mk.injEq, and_true] at h ⊢
        obtain ⟨n, h1, h2⟩ := h
        exact ⟨n, lenP_fwd hg h1, h2⟩
      case copy st b x =>
        simp only [evOp, evPrim] at h ⊢
        split at h
        · rename_i rows hr
          rw [rowsOf_fwd hg hr]
          simp only
          split at h
          · rename_i hl
            rw [if_pos hl]
            simp only [Option.some.injEq, Prod.mk.injEq, and_true] at h ⊢
            exact h
          · cases h
        · cases h
      case call pc f args =>
        simp only [POp.quiet] at hq
        subst hq
        simp only [evOp] at h ⊢
        split at h
        · rename_i fn caps he
          try simp only [he]
          unfold evCall at h ⊢
          dsimp only at h ⊢
          split at h
          · rename_i hp
            rw [keepArgs_fwd hg (asPure_pure hp), if_pos hp]
            simp only [Option.map_eq_some_iff, Prod.mk.injEq, and_true] at h ⊢
            exact h
          · simp at h
        · cases h

/-! ### Reading back -/
mutual
/-- It names no object from n on. -/
def PV.inH (n : Nat) : PV → Bool
  | .own id _ _ => decide (id < n)
  | .ptr id _ => decide (id < n)
  | .mp id => decide (id < n)
  | .fn _ caps => inHL n caps
  | .agg cells => inHL n cells
  | .tup vs => inHL n vs
  | _ => true
def inHL (n : Nat) : List PV → Bool
  | [] => true
  | v :: r => v.inH n && inHL n r
end
mutual
theorem pure_inH (n : Nat) : ∀ {p : PV}, p.pure = true → p.inH n = true
  | .own _ _ _, h => by simp [PV.pure] at h
  | .ptr _ _, h => by simp [PV.pure] at h
  | .mp _, h => by simp [PV.pure] at h
  | .fn _ caps, h => by simp only [PV.pure] at h; simp only [PV.inH]; exact pureL_inH n h
  | .agg cells, h => by simp only [PV.pure] at h; simp only [PV.inH]; exact pureL_inH n h
  | .tup vs, h => by simp only [PV.pure] at h; simp only [PV.inH]; exact pureL_inH n h
  | .top, _ | .int _ _, _ | .bool _, _ | .str _, _ | .nils, _ | .sl _ _ _, _ | .cref _, _ | .nilp, _ | .nilf, _ | .nilm, _ | .iface _ _, _ | .nili, _ => rfl
theorem pureL_inH (n : Nat) : ∀ {l : List PV}, pureL l = true → inHL n l = true
  | [], _ => rfl
  | v :: r, h => by
    simp only [pureL, Bool.and_eq_true] at h
    simp only [inHL, Bool.and_eq_true]
    exact ⟨pure_inH n h.1, pureL_inH n h.2⟩
end
theorem inHL_iff {n : Nat} : ∀ {l : List PV}, inHL n l = true ↔ ∀ v ∈ l, v.inH n = true
  | [] => by simp [inHL]
  | v :: r => by simp [inHL, inHL_iff (l := r)]
theorem rep_inH {w : World} {g : Gh} {σ : Heap} {v : Value} {p : PV} (h : Rep w g σ v p) : p.inH σ.length = true := by
  have key : ∀ (vs : Array Value) (ps : List PV), vs.size = ps.length → (∀ (i : Nat) v p, vs[i]? = some v → ps[i]? = some p → p.inH σ.length = true) → inHL σ.length ps = true := fun vs ps hl hr => by
    rw [inHL_iff]
    intro p hp
    obtain ⟨i, hi, rfl⟩ := List.mem_iff_getElem.1 hp
    exact hr i vs[i] _ (by simp [hl, hi]) (by simp [hi])
  induction h with
  | own v id st n h =>
    obtain ⟨_, h⟩ := h
    simp only [PV.inH, decide_eq_true_eq]
    split at h
    · rename_i ho; exact (List.getElem?_eq_some_iff.1 ho).1
    · rename_i ho; exact (List.getElem?_eq_some_iff.1 ho).1
    · cases h
  | ptr v id off h =>
    obtain ⟨_, ho, _⟩ := h
    simp only [PV.inH, decide_eq_true_eq]
    exact (List.getElem?_eq_some_iff.1 ho).1
  | mp v id h =>
    obtain ⟨_, ho, _⟩ := h
    simp only [PV.inH, decide_eq_true_eq]
    exact (List.getElem?_eq_some_iff.1 ho).1
  | fn f vs ps hl hr ih => simp only [PV.inH]; exact key vs ps hl ih
  | agg vs ps hl hr ih => simp only [PV.inH]; exact key vs ps hl ih
  | tup vs ps hl hr ih => simp only [PV.inH]; exact key vs ps hl ih
  | _ => rfl
section
variable {σ σ' : Heap} (hg : Grow σ σ')
include hg
theorem rowsP_bwd {st : Nat} {p : PV} (h : p.inH σ.length = true) : rowsP σ' st p = rowsP σ st p := by
  cases p with
  | own id s n => simp only [PV.inH, decide_eq_true_eq] at h; simp only [rowsP, hg.get h]
  | _ => rfl
theorem rowsOf_bwd {st : Nat} {p : PV} (h : p.inH σ.length = true) : rowsOf σ' st p = rowsOf σ st p := by
  have h2 := rowsP_bwd hg (st := st) h
  cases p with
  | own id s n =>
    simp only [PV.inH, decide_eq_true_eq] at h
    simp only [rowsOf, hg.get h, h2]
  | _ => simp only [rowsOf]; exact h2
theorem lenP_bwd {ty : TyK} {p : PV} (h : p.inH σ.length = true) : lenP σ' ty p = lenP σ ty p := by
  cases p with
  | own id s n =>
    simp only [PV.inH, decide_eq_true_eq] at h
    cases ty <;> simp only [lenP, hg.get h]
  | mp id =>
    simp only [PV.inH, decide_eq_true_eq] at h
    cases ty <;> simp only [lenP, hg.get h]
  | _ => cases ty <;> rfl
theorem mapOf_bwd {p : PV} (h : p.inH σ.length = true) : mapOf σ' p = mapOf σ p := by
  cases p with
  | mp id => simp only [PV.inH, decide_eq_true_eq] at h; simp only [mapOf, hg.get h]
  | _ => rfl
theorem coe1_bwd {p : PV} (h : p.inH σ.length = true) : coe1 σ' p = coe1 σ p := by
  cases p with
  | own id s n => simp only [PV.inH, decide_eq_true_eq] at h; simp only [coe1, hg.get h]
  | _ => rfl
theorem coes_bwd {l : List PV} (h : inHL σ.length l = true) : l.map (coe1 σ') = l.map (coe1 σ) :=
  List.map_congr_left fun v hv => coe1_bwd hg (inHL_iff.1 h v hv)
theorem coeV_bwd {p : PV} (h : p.inH σ.length = true) : coeV σ' p = coeV σ p := by
  cases p with
  | agg cs => simp only [PV.inH] at h; simp only [coeV, coes_bwd hg h]
  | tup cs => simp only [PV.inH] at h; simp only [coeV, coes_bwd hg h]
  | _ => simp only [coeV]; exact coe1_bwd hg h
theorem keepArgs_bwd : ∀ {ks : List (Bool × List (Option Nat))} {vs : List PV}, inHL σ.length vs = true → keepArgs σ' ks vs = keepArgs σ ks vs
  | [], vs, h => by
    simp only [keepArgs]
    exact List.map_congr_left fun v hv => coeV_bwd hg (inHL_iff.1 h v hv)
  | (true, _) :: ks, [], h => rfl
  | (false, _) :: ks, [], h => rfl
  | (true, _) :: ks, v :: vs, h => by
    simp only [inHL, Bool.and_eq_true] at h
    simp only [keepArgs, keepArgs_bwd h.2]
  | (false, sh) :: ks, v :: vs, h => by
    simp only [inHL, Bool.and_eq_true] at h
    simp only [keepArgs, keepArgs_bwd h.2, coeV_bwd hg h.1]
theorem fillR_bwd {e : Env} {st : Nat} {sh : List (Option Nat)} : ∀ {ps : List (Nat × Opd)} {rs : List (List PV)}, (∀ q ∈ ps, (q.2.ev e).inH σ.length = true) → fillR σ' e st sh rs ps = fillR σ e st sh rs ps
  | [], rs, h => rfl
  | (i, x) :: ps, rs, h => by
    simp only [fillR, coeV_bwd hg (h (i, x) (by simp))]
    split
    · split
      · exact fillR_bwd fun q hq => h q (by simp [hq])
      · rfl
    · rfl
end
theorem cellsAt_bwd {σ σ' : Heap} (hb : Boxes σ σ') {p : PV} (hp : p.inH σ.length = true) {c : List PV} (h : cellsAt σ' p = some c) : cellsAt σ p = some c := by
  cases p with
  | ptr id off =>
    simp only [PV.inH, decide_eq_true_eq] at hp
    simp only [cellsAt] at h ⊢
    split at h
    · rename_i cs ho
      rw [(hb.2 id cs hp).2 ho]
      exact h
    · cases h
  | _ => exact h
/-- Earlier is as later, where all that is looked at is there already. -/
theorem comm_bwd {C : Funcs} {H : Handler} {e : Env} {σ σ' : Heap} {q : POp} {v : PV} (hq : q.quiet = true) (hb : Between q σ σ') (hin : ∀ x ∈ q.opds, (x.ev e).inH σ.length = true) (h : evOp C H e σ' q = some (v, σ')) : evOp C H e σ q = some (v, σ) := by
  rcases hb with hb | ⟨hc, ⟨hl, hb⟩ | hg⟩
  · exact comm_blind hb h
  · clear hc
    cases q <;> first | (simp [POp.isLoad] at hl; done) | skip
    simp only [POp.opds, List.mem_singleton, forall_eq] at hin
    simp only [evOp, evPrim, Option.bind_eq_some_iff, Option.map_eq_some_iff, Prod.mk.injEq] at h ⊢
    obtain ⟨cs, h1, u, h2, h3, _⟩ := h
    exact ⟨cs, cellsAt_bwd hb hin h1, u, h2, h3, trivial⟩
  · clear hc
    cases hbl : q.blind with
    | true => exact comm_blind hbl h
    | false =>
      cases q <;> first | (simp [POp.blind] at hbl; done) | (simp [POp.quiet] at hq; done) | skip
      case bslice st sh zero len ps =>
        simp only [evOp, evPrim, Option.map_eq_some_iff, Prod.mk.injEq] at h ⊢
        obtain ⟨cs, h1, h2, _⟩ := h
        rw [fillR_bwd hg fun q hq => hin _ (List.mem_map.2 ⟨q, hq, rfl⟩)] at h1
        exact ⟨cs, h1, h2, trivial⟩
      case load agg sz x =>
        simp only [POp.opds, List.mem_singleton, forall_eq] at hin
        simp only [evOp, evPrim, Option.bind_eq_some_iff, Option.map_eq_some_iff, Prod.mk.injEq] at h ⊢
        obtain ⟨cs, h1, u, h2, h3, _⟩ := h
        exact ⟨cs, cellsAt_bwd hg.boxes hin h1, u, h2, h3, trivial⟩
      case ofbytes x =>
        simp only [POp.opds, List.mem_singleton, forall_eq] at hin
        simp only [evOp, evPrim, rowsOf_bwd hg hin] at h ⊢
        split at h
        · simp only [Option.map_eq_some_iff, Prod.mk.injEq, and_true] at h ⊢
          exact h
        · cases h
      case slice str st x lo hi mx =>
        simp only [POp.blind] at hbl
        subst hbl
        have hx := hin x (by simp [POp.opds])
        simp only [evOp, evPrim, sliceP, sliceL, rowsP_bwd hg hx, Option.map_eq_some_iff, Prod.mk.injEq] at h ⊢
        obtain ⟨u, h1, h2, _⟩ := h
        exact ⟨u, h1, h2, trivial⟩
      case iaddr st x i =>
        have hx := hin x (by simp [POp.opds])
        simp only [evOp, evPrim] at h ⊢
        split at h
        · split at h
          · rename_i hl
            rw [if_pos hl]
            simp only [Option.map_eq_some_iff, Prod.mk.injEq, and_true] at h ⊢
            exact h
          · cases h
        · rename_i h1 h2
          rw [h1] at hx
          simp only [PV.inH, decide_eq_true_eq] at hx
          rw [hg.get hx] at h
          split at h
          · split at h
            · rename_i hl
              rw [if_pos hl]
              simp only [Option.map_eq_some_iff, Prod.mk.injEq, and_true] at h ⊢
              exact h
            · cases h
          · split at h
            · rename_i hl
              rw [if_pos hl]
              simp only [Option.some.injEq, Prod.mk.injEq, and_true] at h ⊢
              exact h
            · cases h
          · cases h
        · cases h
      case lookup kk zero x k ok =>
        have hx := hin x (by simp [POp.opds])
        simp only [evOp, evPrim, mapOf_bwd hg hx] at h ⊢
        split at h
        · rename_i hk
          rw [if_pos hk]
          simp only [Option.bind_eq_some_iff, Option.map_eq_some_iff] at h ⊢
          obtain ⟨es, h1, r, h2, h3⟩ := h
          refine ⟨es, h1, r, h2, ?_⟩
          cases r <;> (simp only [Prod.mk.injEq, and_true] at h3 ⊢; exact h3)
        · cases h
      case len ty x =>
        simp only [POp.opds, List.mem_singleton, forall_eq] at hin
        simp only [evOp, evPrim, lenP_bwd hg hin, Option.map_eq_some_iff, Prod.mk.injEq, and_true] at h ⊢
        exact h
      case copy st b x =>
        simp only [POp.opds, List.mem_singleton, forall_eq] at hin
        simp only [evOp, evPrim, rowsOf_bwd hg hin] at h ⊢
        split at h
        · split at h
          · rename_i hl
            rw [if_pos hl]
            simp only [Option.some.injEq, Prod.mk.injEq, and_true] at h ⊢
            exact h
          · cases h
        · cases h
      case call pc f args =>
        simp only [POp.quiet] at hq
        subst hq
        have hf := hin f (by simp [POp.opds])
        have ha : ∀ x ∈ args, (x.ev e).inH σ.length = true := fun x hx => hin x (by simp [POp.opds, hx])
        simp only [evOp] at h ⊢
        split at h
        · rename_i fn caps he
          rw [he] at hf
          simp only [PV.inH] at hf
          have hall : inHL σ.length (args.map (·.ev e) ++ caps) = true := by
            rw [inHL_iff]
            intro v hv
            rcases List.mem_append.1 hv with hv | hv
            · obtain ⟨x, hx, rfl⟩ := List.mem_map.1 hv
              exact ha x hx
            · exact inHL_iff.1 hf v hv
          unfold evCall at h ⊢
          dsimp only at h ⊢
          rw [keepArgs_bwd hg hall] at h
          split at h
          · rename_i hp
            rw [if_pos hp]
            simp only [Option.map_eq_some_iff, Prod.mk.injEq, and_true] at h ⊢
            exact h
          · simp at h
        · cases h
end Go.PE
