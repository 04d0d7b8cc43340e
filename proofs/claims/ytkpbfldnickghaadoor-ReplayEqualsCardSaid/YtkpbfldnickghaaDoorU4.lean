/- Contracts: numbers, polynomials, pairs, texts. -/
import Derived.Test.YtkpbfldnickghaaDoorU3
set_option linter.unusedVariables false
set_option linter.unusedSimpArgs false
namespace Go.Proofs.YtkpbfldnickghaaDoor
open Go Go.PE
theorem rat_node (σ : Heap) (r : TRat) : evPrim [] σ (.build [(.int .i64 0), (.str []), (.bool false), .nils, .nils, .nils] [(2, 3, (.cst (.agg r.c)))]) = some (.agg [.int .i64 0, .str [], .bool r.neg, encL 1 cU32 r.num, encL 1 cU32 r.den, .nils], σ) := by
  simp [evPrim, fillP, Opd.ev, PV.cells?, TRat.c]
theorem rats_ok (X : Ext) (a b : TRat) (ha : a.ok) (hb : b.ok) : (Hw C X).pure 62 [.agg a.c, .agg b.c] = some [.bool (eqb a b)] := by
  have e2 : eqb (TNode.mk 0 [] a []) (TNode.mk 0 [] b []) = eqb a b := by simp [eqb]
  have h1 := eq_ok X (.mk 0 [] a []) (.mk 0 [] b []) ⟨ha, by simp [Sm], trivial⟩ ⟨hb, by simp [Sm], trivial⟩
  rw [e2] at h1
  have e3 : ∀ r : TRat, canonV [none, none, none, some 1, some 1, some 6] (.agg [.int .i64 0, .str [], .bool r.neg, encL 1 cU32 r.num, encL 1 cU32 r.den, .nils]) = .agg (TNode.mk 0 [] r []).c := fun r => by
    simp only [canonV, canonL, canon1_none, canon1_encL]; rfl
  have hcl : ∀ σ pc (k : PV → Heap → Option (List PV)), callK C (Hw C X) σ pc (.fn 61 []) [.agg [.int .i64 0, .str [], .bool a.neg, encL 1 cU32 a.num, encL 1 cU32 a.den, .nils], .agg [.int .i64 0, .str [], .bool b.neg, encL 1 cU32 b.num, encL 1 cU32 b.den, .nils]] k = k (.bool (eqb a b)) σ := fun σ pc k =>
    callK_pure2 C61 rfl (by simp only [pureL, PV.pure, encL_pure (fun x _ => cU32_pure x), Bool.and_self]) (by simp only [p61, canonA, e3]) h1
  rw [F62]
  simp [ld1, loadP_all (TRat.len _), rat_node, hcl]
  cases eqb a b <;> rfl
theorem call62 {R : Type} (X : Ext) (a b : TRat) (ha : a.ok) (hb : b.ok) (σ : Heap) (pc : Bool) (k : PV → Heap → Option R) : callK C (Hw C X) σ pc (.fn 62 []) [.agg a.c, .agg b.c] k = k (.bool (eqb a b)) σ :=
  callK_pure C62 rfl (by simp only [pureL, PV.pure, TRat.pure, Bool.and_self]) (by simp only [p62, canonA, canonV, TRat.canon]) (rats_ok X a b ha hb)
theorem call27 {R : Type} (X : Ext) (a b : List Int) (ha : Sm a) (σ : Heap) (pc : Bool) (k : PV → Heap → Option R) : callK C (Hw C X) σ pc (.fn 27 []) [encL 1 cInt a, encL 1 cInt b] k = k (.bool (eqb a b)) σ :=
  callK_pure C27 rfl (by simp only [pureL, encL_pure (fun x _ => cInt_pure x), Bool.and_self]) (by simp only [p27, canonA, canon_sl]) (ints_ok X a b ha)
theorem call45 {R : Type} (X : Ext) (a b : List TNode) (ha : TNodes.ok a) (hb : TNodes.ok b) (σ : Heap) (pc : Bool) (k : PV → Heap → Option R) : callK C (Hw C X) σ pc (.fn 45 []) [encL 6 TNode.c a, encL 6 TNode.c b] k = k (.bool (eqb a b)) σ :=
  callK_pure C45 rfl (by simp only [pureL, encL_pure (fun x _ => TNode.pure x), Bool.and_self]) (by simp only [p45, canonA, canon_sl]) (nodes_ok X a b ha hb)
end Go.Proofs.YtkpbfldnickghaaDoor
