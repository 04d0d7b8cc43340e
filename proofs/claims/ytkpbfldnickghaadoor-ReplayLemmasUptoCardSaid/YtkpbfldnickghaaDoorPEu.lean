/- Loops that append to a field of a box. -/
import Derived.Test.YtkpbfldnickghaaDoorPEt
set_option linter.unusedVariables false
set_option linter.unusedSimpArgs false
namespace Go.PE
/-- What stays beside: boxes, and values that have grown. -/
structure Oth (d : Nat) (v : PV) (fix : List (Nat × List PV)) (accs : List (PV × Nat × Nat × List (List PV))) (τ : Heap) : Prop where
  fix : ∀ x ∈ fix, x.1 ≠ d ∧ τ[x.1]? = some (.box x.2)
  accs : ∀ a ∈ accs, Acc τ a.1 a.2.1 a.2.2.1 a.2.2.2 ∧ ∀ L, AccAt a.1 L → ¬ AccAt v L
theorem Acc.lt {τ : Heap} {v : PV} {ty st : Nat} {rows : List (List PV)} (h : Acc τ v ty st rows) {L : Nat} (hL : AccAt v L) : τ[L]? = some (.log ty st rows) := by
  obtain ⟨st', n, rfl⟩ := hL
  rcases h with ⟨_, h⟩ | ⟨L', h, h'⟩
  · cases h
  · cases h; exact h'
theorem Acc.notBox {τ : Heap} {v : PV} {ty st : Nat} {rows : List (List PV)} (h : Acc τ v ty st rows) {d : Nat} {cs : List PV} (hd : τ[d]? = some (.box cs)) : ¬ AccAt v d := fun hL => by
  have := h.lt hL
  rw [hd] at this; cases this
theorem app_loopS {R α : Type} {f : α → List PV} {xs : List α} {ty st bytes d off : Nat} {cs : List PV} {fix : List (Nat × List PV)} {accs : List (PV × Nat × Nat × List (List PV))} {L : Nat → Heap → Option R} {Q : Option R → Prop}
    (hoff : off < cs.length) (hp : ∀ x ∈ xs, pureL (f x) = true) (hl : ∀ x ∈ xs, (f x).length = st) (hs : ∀ x ∈ xs, (f x).all PV.scalar = true) (hb : xs.length * bytes ≤ 140737488355328)
    (hstep : ∀ (i : Nat) (hi : i < xs.length) (τ : Heap) (v : PV), τ[d]? = some (.box (cs.set off v)) → Acc τ v ty st ((xs.take i).map f) → Oth d v fix accs τ →
      ∃ τ1, Stay (fun _ => False) τ τ1 ∧ ∀ (v' : PV) (τ' : Heap), (∀ x, rowsOf τ1 st x = some [f xs[i]] → appendP ty st bytes τ1 v x = some (v', τ')) → τ'[d]? = some (.box (cs.set off v)) → v'.scalar = true → Stay (AccAt v) τ1 τ' → L i τ = L (i + 1) (τ'.set d (.box (cs.set off v'))))
    {τ0 : Heap} (hend : ∀ (τ : Heap) (v : PV), τ[d]? = some (.box (cs.set off v)) → Acc τ v ty st (xs.map f) → Oth d v fix accs τ → Stay (fun id => id = d) τ0 τ → Q (L xs.length τ))
    (h0 : τ0[d]? = some (.box (cs.set off .nils))) (hO : Oth d .nils fix accs τ0) : Q (L 0 τ0) := by
  refine inv_loop (n := xs.length) (I := fun i τ => ∃ v, τ[d]? = some (.box (cs.set off v)) ∧ Acc τ v ty st ((xs.take i).map f) ∧ Oth d v fix accs τ ∧ Stay (fun id => id = d) τ0 τ ∧ ∀ L, AccAt v L → τ0.length ≤ L) ?_ ?_ ⟨.nils, h0, Acc.nil _ _ _, hO, Stay.refl _ _, fun L ⟨_, _, h⟩ => by cases h⟩
  · rintro τ ⟨v, k1, k2, k3, k4, _⟩
    rw [List.take_length] at k2
    exact hend τ v k1 k2 k3 k4
  · rintro i hi τ ⟨v, k1, k2, k3, k4, k5⟩
    have hm : xs[i] ∈ xs := List.getElem_mem hi
    obtain ⟨τ1, hst, hk⟩ := hstep i hi τ v k1 k2 k3
    have nf : ∀ id : Nat, ¬ (fun _ : Nat => False) id := fun _ h => h
    have a1 : Acc τ1 v ty st ((xs.take i).map f) := k2.keep fun L _ hlt => hst.2 L hlt (fun h => h)
    obtain ⟨v', τ', q1, q2, q3, q4⟩ := a1.append (bytes := bytes) (hp _ hm) (hl _ hm) (hs _ hm) (by
      have := Nat.mul_le_mul_right bytes (show ((xs.take i).map f).length + 1 ≤ xs.length by simp; omega)
      omega)
    have b1 : τ1[d]? = some (.box (cs.set off v)) := hst.get k1 (fun h => h)
    have b2 : τ'[d]? = some (.box (cs.set off v)) := q3.get b1 (a1.notBox b1)
    refine ⟨τ'.set d (.box (cs.set off v')), ⟨v', get_set b2 _, ?_, ⟨fun x hx => ?_, fun a ha => ?_⟩, ?_, fun L hL => ?_⟩, hk v' τ' q1 b2 q2.scal q3⟩
    · rw [take_map_succ f xs hi]
      exact q2.keep fun L hL hlt => List.getElem?_set_ne fun e => q2.notBox b2 (by rw [e]; exact hL)
    · obtain ⟨e1, e2⟩ := k3.fix x hx
      refine ⟨e1, get_other (q3.get (hst.get e2 (fun h => h)) (a1.notBox (hst.get e2 (fun h => h)))) (Ne.symm e1) _⟩
    · obtain ⟨e1, e2⟩ := k3.accs a ha
      have c1 : Acc τ1 a.1 a.2.1 a.2.2.1 a.2.2.2 := e1.keep fun L _ hlt => hst.2 L hlt (fun h => h)
      have c2 : Acc τ' a.1 a.2.1 a.2.2.1 a.2.2.2 := c1.keep fun L hL hlt => q3.2 L hlt (e2 L hL)
      refine ⟨c2.keep fun L hL hlt => List.getElem?_set_ne fun e => c2.notBox b2 (by rw [e]; exact hL), fun L hL hL' => ?_⟩
      rcases q4 with ⟨L1, h1, rfl⟩ | ⟨_, rfl⟩
      · obtain ⟨_, _, h⟩ := hL'
        cases h
        exact e2 _ hL h1
      · obtain ⟨_, _, h⟩ := hL'
        cases h
        have := id_lt (c1.lt hL)
        omega
    · refine ⟨by rw [List.length_set]; exact Nat.le_trans k4.1 (Nat.le_trans hst.1 q3.1), fun id hid hne => ?_⟩
      have l1 := Nat.lt_of_lt_of_le hid k4.1
      rw [List.getElem?_set_ne (fun e => hne e.symm), q3.2 id (Nat.lt_of_lt_of_le l1 hst.1) (fun h => by have := k5 id h; omega), hst.2 id l1 (fun h => h), k4.2 id hid hne]
    · rcases q4 with ⟨L1, h1, rfl⟩ | ⟨_, rfl⟩
      · obtain ⟨_, _, h⟩ := hL
        cases h
        exact k5 _ h1
      · obtain ⟨_, _, h⟩ := hL
        cases h
        exact Nat.le_trans k4.1 hst.1
theorem app_loop {R α : Type} {f : α → List PV} {xs : List α} {ty st bytes d off : Nat} {cs : List PV} {fix : List (Nat × List PV)} {accs : List (PV × Nat × Nat × List (List PV))} {L : Nat → Heap → Option R} {Q : Option R → Prop}
    (hoff : off < cs.length) (hp : ∀ x ∈ xs, pureL (f x) = true) (hl : ∀ x ∈ xs, (f x).length = st) (hs : ∀ x ∈ xs, (f x).all PV.scalar = true) (hb : xs.length * bytes ≤ 140737488355328)
    (hstep : ∀ (i : Nat) (hi : i < xs.length) (τ : Heap) (v : PV), τ[d]? = some (.box (cs.set off v)) → Acc τ v ty st ((xs.take i).map f) → Oth d v fix accs τ →
      ∃ τ1, Stay (fun _ => False) τ τ1 ∧ ∀ (v' : PV) (τ' : Heap), (∀ x, rowsOf τ1 st x = some [f xs[i]] → appendP ty st bytes τ1 v x = some (v', τ')) → τ'[d]? = some (.box (cs.set off v)) → v'.scalar = true → Stay (AccAt v) τ1 τ' → L i τ = L (i + 1) (τ'.set d (.box (cs.set off v'))))
    (hend : ∀ (τ : Heap) (v : PV), τ[d]? = some (.box (cs.set off v)) → Acc τ v ty st (xs.map f) → Oth d v fix accs τ → Q (L xs.length τ))
    {τ : Heap} (h0 : τ[d]? = some (.box (cs.set off .nils))) (hO : Oth d .nils fix accs τ) : Q (L 0 τ) :=
  app_loopS hoff hp hl hs hb hstep (fun τ v a b c _ => hend τ v a b c) h0 hO
/-- What is known behind one loop, for the next one: the value that has grown stands among the others. -/
theorem Oth.next {d : Nat} {v : PV} {fix : List (Nat × List PV)} {accs : List (PV × Nat × Nat × List (List PV))} {τ : Heap} (h : Oth d v fix accs τ) {ty st : Nat} {rows : List (List PV)} (hv : Acc τ v ty st rows) : Oth d .nils fix ((v, ty, st, rows) :: accs) τ := by
  refine ⟨h.fix, fun a ha => ?_⟩
  have nn : ∀ L, ¬ AccAt .nils L := fun L ⟨_, _, h⟩ => by cases h
  rcases List.mem_cons.1 ha with rfl | ha
  · exact ⟨hv, fun L _ => nn L⟩
  · exact ⟨(h.accs a ha).1, fun L _ => nn L⟩
theorem Oth.nil_of {d : Nat} {v : PV} {fix : List (Nat × List PV)} {accs : List (PV × Nat × Nat × List (List PV))} {τ : Heap} (h : Oth d v fix accs τ) : Oth d .nils fix accs τ :=
  ⟨h.fix, fun a ha => ⟨(h.accs a ha).1, fun L _ ⟨_, _, h⟩ => by cases h⟩⟩
/-- A new box: the one of the loop stands among the others. -/
theorem Oth.inner {d : Nat} {v : PV} {fix : List (Nat × List PV)} {accs : List (PV × Nat × Nat × List (List PV))} {τ τ1 : Heap} (h : Oth d v fix accs τ) {cs : List PV} (hd : τ[d]? = some (.box cs)) {ty st : Nat} {rows : List (List PV)} (hv : Acc τ v ty st rows) (hst : Stay (fun _ => False) τ τ1) {d' : Nat} (hd' : τ.length ≤ d') :
    Oth d' .nils ((d, cs) :: fix) ((v, ty, st, rows) :: accs) τ1 := by
  have nf : ∀ id : Nat, ¬ (fun _ : Nat => False) id := fun _ h => h
  have nn : ∀ L, ¬ AccAt .nils L := fun L ⟨_, _, h⟩ => by cases h
  refine ⟨fun x hx => ?_, fun a ha => ?_⟩
  · rcases List.mem_cons.1 hx with rfl | hx
    · have := id_lt hd
      exact ⟨by show d ≠ d'; omega, hst.get hd (fun h => h)⟩
    · obtain ⟨e1, e2⟩ := h.fix x hx
      have := id_lt e2
      exact ⟨by omega, hst.get e2 (fun h => h)⟩
  · refine ⟨?_, fun L _ => nn L⟩
    rcases List.mem_cons.1 ha with rfl | ha
    · exact hv.keep fun L _ hlt => hst.2 L hlt (fun h => h)
    · exact (h.accs a ha).1.keep fun L _ hlt => hst.2 L hlt (fun h => h)
theorem cells_agg (cs : List PV) : (PV.agg cs).cells? = some cs := rfl
theorem cells_int (k : IntKind) (n : Int) : (PV.int k n).cells? = some [.int k n] := rfl
theorem cells_bool (b : Bool) : (PV.bool b).cells? = some [.bool b] := rfl
theorem cells_str (s : Str) : (PV.str s).cells? = some [.str s] := rfl
theorem cells_sl (st : Nat) (f : Bool) (r : List (List PV)) : (PV.sl st f r).cells? = some [.sl st f r] := rfl
theorem cells_enc {α : Type} (st : Nat) (f : α → List PV) (xs : List α) : (encL st f xs).cells? = some [encL st f xs] := rfl
theorem cells_scal {v : PV} (h : v.scalar = true) : v.cells? = some [v] := by cases v <;> first | rfl | (simp [PV.scalar] at h)
theorem fin_ok {ks : List (Bool × List (Option Nat))} {vs rs : List PV} {σ : Heap} (h : finArgs σ ks vs = rs) (hp : pureL rs = true) : finVs ks vs σ = some rs := by
  unfold finVs
  rw [h, if_pos hp]
/-- A finished result: its cells frozen, in their canonical form. -/
theorem fin_cell_pure {σ : Heap} {p : PV} (h : p.pure = true) : fin1 σ p = p := by cases p <;> first | rfl | (simp [PV.pure] at h)
end Go.PE
