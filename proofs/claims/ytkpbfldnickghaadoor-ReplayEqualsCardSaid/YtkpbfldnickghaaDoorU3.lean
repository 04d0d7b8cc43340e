/- Contracts: equality on the program's side. -/
import Derived.Test.YtkpbfldnickghaaDoorU2
set_option linter.unusedVariables false
set_option linter.unusedSimpArgs false
namespace Go.Proofs.YtkpbfldnickghaaDoor
open Go Go.PE
theorem eq_ok (X : Ext) (a b : TNode) (ha : a.ok) (hb : b.ok) : (Hw C X).pure 61 [.agg a.c, .agg b.c] = some [.bool (eqb a b)] := by
  obtain ⟨n, hn, hc⟩ := cmp_call (R := List PV) (cmp_ok X a b ha hb)
  rw [F61]
  simp [ld1, loadP_all (TNode.len _), hc]
  by_cases h : a = b
  · rw [eqb_eq h, hn.2 h]; rfl
  · rw [eqb_ne h, decide_eq_false (fun e => h (hn.1 e))]; rfl
theorem call61 {R : Type} (X : Ext) (a b : TNode) (ha : a.ok) (hb : b.ok) (σ : Heap) (pc : Bool) (k : PV → Heap → Option R) : callK C (Hw C X) σ pc (.fn 61 []) [.agg a.c, .agg b.c] k = k (.bool (eqb a b)) σ :=
  callK_pure C61 rfl (by simp only [pureL, PV.pure, TNode.pure, Bool.and_self]) (by simp only [p61, canonA, canonV, TNode.canon]) (eq_ok X a b ha hb)
theorem L45 (X : Ext) (xs ys : List TNode) (hl : xs.length = ys.length) (hx : TNodes.ok xs) (hy : TNodes.ok ys) : ∀ (n i : Nat), i + n = xs.length → L45_1 X (encL 6 TNode.c xs) (encL 6 TNode.c ys) (.int .i64 (xs.length : Nat)) (.int .i64 i) [] = some [.bool (eqb (xs.drop i) (ys.drop i))]
  | 0, i, h => by
    rw [L45_1_eq]
    have h1 : xs.drop i = [] := List.drop_eq_nil_of_le (by omega)
    have h2 : ys.drop i = [] := List.drop_eq_nil_of_le (by omega)
    simp [h1, h2, show ¬ (i < xs.length) by omega, eqb_eq]
    rfl
  | n + 1, i, h => by
    rw [L45_1_eq]
    have hb := hx.1
    unfold Sm at hb
    have hi : i < xs.length := by omega
    have hi' : i < ys.length := by omega
    have ih := L45 X xs ys hl hx hy n (i + 1) (by omega)
    have hd := drop_eq_iff hi hi'
    have hcl := fun σ pc (k : PV → Heap → Option (List PV)) => call61 X xs[i] ys[i] (hx.2 _ (by simp)) (hy.2 _ (by simp)) σ pc k
    by_cases hc : xs[i] = ys[i]
    · simp [hi, iaddr_enc, hi', loadP_all (TNode.len _), hcl, eqb_eq hc, wrap_succ (show i < 9223372036854775807 by omega)]
      have : eqb (xs.drop i) (ys.drop i) = eqb (xs.drop (i + 1)) (ys.drop (i + 1)) := by simp [eqb, hd, hc]
      rw [this]
      simpa using ih
    · simp [hi, iaddr_enc, hi', loadP_all (TNode.len _), hcl, eqb_ne hc, eqb_ne (fun e => hc (hd.1 e).1)]
      rfl
theorem nodes_ok (X : Ext) (xs ys : List TNode) (hx : TNodes.ok xs) (hy : TNodes.ok ys) : (Hw C X).pure 45 [encL 6 TNode.c xs, encL 6 TNode.c ys] = some [.bool (eqb xs ys)] := by
  rw [F45]
  by_cases hl : xs.length = ys.length
  · simp [hl]
    have := L45 X xs ys hl hx hy xs.length 0 (by omega)
    simpa [hl] using this
  · have hne : xs ≠ ys := fun e => hl (by rw [e])
    simp [hl, eqb_ne hne]
    rfl
end Go.Proofs.YtkpbfldnickghaaDoor
