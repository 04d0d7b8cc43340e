/- Contracts: polynomials. -/
import Derived.Test.YtkpbfldnickghaaDoorU4
set_option linter.unusedVariables false
set_option linter.unusedSimpArgs false
namespace Go.Proofs.YtkpbfldnickghaaDoor
open Go Go.PE
theorem L63 (X : Ext) (p q : TPoly) (hp : p.ok) (hq : q.ok) (hl : p.terms.length = q.terms.length) (σ : Heap) (hσ : σ[1]? = some (.box q.c)) :
    L63_1 X (.ptr 1 0) (encL 4 TMono.c p.terms) (.int .i64 (p.terms.length : Nat)) (.int .i64 (0 : Nat)) σ = some [.bool (eqb p.terms q.terms)] := by
  have hb := hp.1
  unfold Sm at hb
  have d1 : List.drop 1 q.c = [encL 4 TMono.c q.terms] := rfl
  refine all_loop_bool (I := fun σ => σ[1]? = some (.box q.c)) (L := fun i σ => L63_1 X (.ptr 1 0) (encL 4 TMono.c p.terms) (.int .i64 (p.terms.length : Nat)) (.int .i64 (i : Nat)) σ) hl ?_ ?_ ?_ hσ
  · intro σ hσ
    try simp only
    rw [L63_1_eq]
    simp
    rfl
  · intro i hi hi' σ hσ hc
    have hlt : 1 < σ.length := (List.getElem?_eq_some_iff.1 hσ).1
    have hm := hp.2 p.terms[i] (by simp)
    have hm' := hq.2 q.terms[i] (by simp)
    refine ⟨σ ++ [.box p.terms[i].c], by rw [List.getElem?_append_left hlt]; exact hσ, ?_⟩
    have e0 : ∀ m : TMono, loadP false 1 m.c = some (encL 1 cInt m.exps) := fun _ => rfl
    have e1 : ∀ m : TMono, List.drop 1 m.c = m.coef.c := fun _ => rfl
    try simp only
    rw [L63_1_eq]
    simp [hi, hi', iaddr_enc, loadP_all (TMono.len _), loadP_all (TRat.len _), storeV_last (sz := 4) (cs := [.nils, .bool false, .nils, .nils]) rfl (TMono.len _) (TMono.scal _), loadV_last, loadV_prev hlt, loadV_ptr hσ, d1, e0, e1, ← hc, call27 X _ _ hm.1, call62 X _ _ hm.2 hm.2, eqb_eq, wrap_succ (show i < 9223372036854775807 by omega)]
  · intro i hi hi' σ hσ hc
    have hlt : 1 < σ.length := (List.getElem?_eq_some_iff.1 hσ).1
    have hm := hp.2 p.terms[i] (by simp)
    have hm' := hq.2 q.terms[i] (by simp)
    have e0 : ∀ m : TMono, loadP false 1 m.c = some (encL 1 cInt m.exps) := fun _ => rfl
    have e1 : ∀ m : TMono, List.drop 1 m.c = m.coef.c := fun _ => rfl
    try simp only
    rw [L63_1_eq]
    by_cases h1 : p.terms[i].exps = q.terms[i].exps
    · have h2 : p.terms[i].coef ≠ q.terms[i].coef := fun h2 => hc (by
        generalize p.terms[i] = a at h1 h2
        generalize q.terms[i] = b at h1 h2
        cases a; cases b; simp_all)
      simp [hi, hi', iaddr_enc, loadP_all (TMono.len _), loadP_all (TRat.len _), storeV_last (sz := 4) (cs := [.nils, .bool false, .nils, .nils]) rfl (TMono.len _) (TMono.scal _), loadV_last, loadV_prev hlt, loadV_ptr hσ, d1, e0, e1, call27 X _ _ hm.1, call62 X _ _ hm.2 hm'.2, eqb_eq h1, eqb_ne h2]
      rfl
    · simp [hi, hi', iaddr_enc, loadP_all (TMono.len _), loadP_all (TRat.len _), storeV_last (sz := 4) (cs := [.nils, .bool false, .nils, .nils]) rfl (TMono.len _) (TMono.scal _), loadV_last, loadV_prev hlt, loadV_ptr hσ, d1, e0, e1, call27 X _ _ hm.1, eqb_ne h1]
      rfl
theorem polys_ok (X : Ext) (p q : TPoly) (hp : p.ok) (hq : q.ok) : (Hw C X).pure 63 [.agg p.c, .agg q.c] = some [.bool (eqb p q)] := by
  have f0 : ∀ p : TPoly, loadP false 1 p.c = some (.int .i64 p.n) := fun _ => rfl
  have f1 : ∀ p : TPoly, List.drop 1 p.c = [encL 4 TMono.c p.terms] := fun _ => rfl
  rw [F63]
  by_cases h1 : p.n = q.n
  · by_cases h2 : p.terms.length = q.terms.length
    · have hL := L63 X p q hp hq h2 [.box p.c, .box q.c] rfl
      have : eqb p q = eqb p.terms q.terms := by
        obtain ⟨n, t⟩ := p
        obtain ⟨n', t'⟩ := q
        simp only at h1
        simp [eqb, h1]
      rw [this]
      simp [ld1, f0, f1, h1, h2]
      simpa [h2] using hL
    · have : p ≠ q := fun e => h2 (by rw [e])
      simp [ld1, f0, f1, h1, h2, eqb_ne this]
      rfl
  · have : p ≠ q := fun e => h1 (by rw [e])
    simp [ld1, f0, f1, h1, eqb_ne this]
    rfl
theorem call63 {R : Type} (X : Ext) (a b : TPoly) (ha : a.ok) (hb : b.ok) (σ : Heap) (pc : Bool) (k : PV → Heap → Option R) : callK C (Hw C X) σ pc (.fn 63 []) [.agg a.c, .agg b.c] k = k (.bool (eqb a b)) σ :=
  callK_pure C63 rfl (by simp only [pureL, PV.pure, TPoly.pure, Bool.and_self]) (by simp only [p63, canonA, canonV, TPoly.canon]) (polys_ok X a b ha hb)
end Go.Proofs.YtkpbfldnickghaaDoor
