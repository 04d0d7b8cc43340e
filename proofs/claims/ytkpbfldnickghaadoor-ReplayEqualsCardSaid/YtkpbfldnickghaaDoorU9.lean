/- Contracts: Equal of proofs. -/
import Derived.Test.YtkpbfldnickghaaDoorU8
set_option linter.unusedVariables false
set_option linter.unusedSimpArgs false
namespace Go.Proofs.YtkpbfldnickghaaDoor
open Go Go.PE
theorem call26 {R : Type} (X : Ext) (a b : TProof) (ha : a.ok) (hb : b.ok) (σ : Heap) (pc : Bool) (k : PV → Heap → Option R) : callK C (Hw C X) σ pc (.fn 26 []) [.agg a.c, .agg b.c] k = k (.bool (eqb (bareOf a) (bareOf b))) σ :=
  callK_pure C26 rfl (by simp only [pureL, PV.pure, TProof.pure, Bool.and_self]) (by simp only [p26, canonA, canonV, TProof.canon]) (bare_ok X a b ha hb)
theorem call15 {R : Type} (X : Ext) {a b : TProof} {r : Bool} (h : (Hw C X).pure 15 [.agg a.c, .agg b.c] = some [.bool r]) (σ : Heap) (pc : Bool) (k : PV → Heap → Option R) : callK C (Hw C X) σ pc (.fn 15 []) [.agg a.c, .agg b.c] k = k (.bool r) σ :=
  callK_pure C15 rfl (by simp only [pureL, PV.pure, TProof.pure, Bool.and_self]) (by simp only [p15, canonA, canonV, TProof.canon]) h
theorem L15 (X : Ext) (a b : TProof) (hb : Sm (kidsOf a)) (hl : (kidsOf a).length = (kidsOf b).length) (IH : ∀ x ∈ kidsOf a, ∀ y ∈ kidsOf b, (Hw C X).pure 15 [.agg x.c, .agg y.c] = some [.bool (eqb x y)]) :
    L15_1 X (.ptr 0 0) (.ptr 1 0) (.int .i64 ((kidsOf a).length : Nat)) (.int .i64 (0 : Nat)) [.box a.c, .box b.c] = some [.bool (eqb (kidsOf a) (kidsOf b))] := by
  unfold Sm at hb
  refine all_loop_bool (I := fun σ => σ = [.box a.c, .box b.c]) (L := fun i σ => L15_1 X (.ptr 0 0) (.ptr 1 0) (.int .i64 ((kidsOf a).length : Nat)) (.int .i64 (i : Nat)) σ) hl ?_ ?_ ?_ rfl
  · rintro σ rfl
    try simp only
    rw [L15_1_eq]
    simp
    rfl
  · rintro i hi hi' σ rfl hc
    refine ⟨_, rfl, ?_⟩
    try simp only
    rw [L15_1_eq]
    simp [hi, hi', iaddr_enc, ld1, pr11, loadP_all (TProof.len _), call15 X (IH _ (List.getElem_mem hi) _ (List.getElem_mem hi')), eqb_eq hc, wrap_succ (show i < 9223372036854775807 by omega)]
  · rintro i hi hi' σ rfl hc
    try simp only
    rw [L15_1_eq]
    simp [hi, hi', iaddr_enc, ld1, pr11, loadP_all (TProof.len _), call15 X (IH _ (List.getElem_mem hi) _ (List.getElem_mem hi')), eqb_ne hc]
    rfl
theorem kids_size {p k : TProof} (h : k ∈ kidsOf p) : SizeOf.sizeOf k < SizeOf.sizeOf p := by
  cases p
  have := List.sizeOf_lt_of_mem h
  simp only [kidsOf] at this
  simp only [TProof.mk.sizeOf_spec]
  omega
theorem equal_ok (X : Ext) (a b : TProof) (ha : a.ok) (hb : b.ok) : (Hw C X).pure 15 [.agg a.c, .agg b.c] = some [.bool (eqb a b)] := by
  have A := kids_ok_of ha
  have B := kids_ok_of hb
  have IH : ∀ x ∈ kidsOf a, ∀ y ∈ kidsOf b, (Hw C X).pure 15 [.agg x.c, .agg y.c] = some [.bool (eqb x y)] := fun x hx y hy => by
    have := kids_size hx
    exact equal_ok X x y (A.2 x hx) (B.2 y hy)
  rw [F15]
  by_cases h1 : bareOf a = bareOf b
  · by_cases h2 : (kidsOf a).length = (kidsOf b).length
    · have hL := L15 X a b A.1 h2 IH
      have : eqb a b = eqb (kidsOf a) (kidsOf b) := by
        rw [Bool.eq_iff_iff]
        simp only [eqb_iff, proof_eq, h1, true_and]
      rw [this]
      simp [ld1, loadP_all (TProof.len _), call26 X a b ha hb, eqb_eq h1, pr11, h2] at hL ⊢
      exact hL
    · rw [eqb_ne (fun e => h2 (by rw [e]))]
      simp [ld1, loadP_all (TProof.len _), call26 X a b ha hb, eqb_eq h1, pr11, h2]
      rfl
  · rw [eqb_ne (fun e => h1 (by rw [e]))]
    simp [ld1, loadP_all (TProof.len _), call26 X a b ha hb, eqb_ne h1]
    rfl
termination_by SizeOf.sizeOf a
end Go.Proofs.YtkpbfldnickghaaDoor
