/- Contracts: texts, pairs. -/
import Derived.Test.YtkpbfldnickghaaDoorU5
set_option linter.unusedVariables false
set_option linter.unusedSimpArgs false
namespace Go.Proofs.YtkpbfldnickghaaDoor
open Go Go.PE
theorem texts_ok (X : Ext) (xs ys : List Str) (hb : Sm xs) : (Hw C X).pure 47 [encL 1 cStr xs, encL 1 cStr ys] = some [.bool (eqb xs ys)] := by
  unfold Sm at hb
  rw [F47]
  by_cases hl : xs.length = ys.length
  · have hL : L47_1 X (encL 1 cStr xs) (encL 1 cStr ys) (.int .i64 (xs.length : Nat)) (.int .i64 (0 : Nat)) [] = some [.bool (eqb xs ys)] := by
      refine all_loop_bool (I := fun σ => True) (L := fun i σ => L47_1 X (encL 1 cStr xs) (encL 1 cStr ys) (.int .i64 (xs.length : Nat)) (.int .i64 (i : Nat)) σ) hl ?_ ?_ ?_ trivial
      · intro σ _
        try simp only
        rw [L47_1_eq]
        simp
        rfl
      · intro i hi hi' σ _ hc
        refine ⟨σ, trivial, ?_⟩
        try simp only
        rw [L47_1_eq]
        simp [hi, hi', iaddr_enc, cStr, hc, wrap_succ (show i < 9223372036854775807 by omega)]
      · intro i hi hi' σ _ hc
        try simp only
        rw [L47_1_eq]
        simp [hi, hi', iaddr_enc, cStr, hc]
        rfl
    simp [hl]
    simpa [hl] using hL
  · have hne : xs ≠ ys := fun e => hl (by rw [e])
    simp [hl, eqb_ne hne]
    rfl
theorem call47 {R : Type} (X : Ext) (a b : List Str) (ha : Sm a) (σ : Heap) (pc : Bool) (k : PV → Heap → Option R) : callK C (Hw C X) σ pc (.fn 47 []) [encL 1 cStr a, encL 1 cStr b] k = k (.bool (eqb a b)) σ :=
  callK_pure C47 rfl (by simp only [pureL, encL_pure (fun x _ => cStr_pure x), Bool.and_self]) (by simp only [p47, canonA, canon_sl]) (texts_ok X a b ha)
theorem pa0 (p : TPair) : loadP true 6 p.c = some (.agg p.what.c) := by
  obtain ⟨⟨o, n, r, k⟩, ⟨o', n', r', k'⟩, l⟩ := p
  simp only [TPair.c, TNode.c_eq]
  rfl
theorem pa6 (p : TPair) : loadP true 6 (p.c.drop 6) = some (.agg p.with_.c) := by
  obtain ⟨⟨o, n, r, k⟩, ⟨o', n', r', k'⟩, l⟩ := p
  simp only [TPair.c, TNode.c_eq]
  rfl
theorem pa12 (p : TPair) : loadP false 1 (p.c.drop 12) = some (encL 6 TNode.c p.rates) := by
  obtain ⟨⟨o, n, r, k⟩, ⟨o', n', r', k'⟩, l⟩ := p
  simp only [TPair.c, TNode.c_eq]
  rfl
theorem st13 (σ : Heap) (p : TPair) : storeV (σ ++ [.box [(.int .i64 0), (.str []), (.bool false), .nils, .nils, .nils, (.int .i64 0), (.str []), (.bool false), .nils, .nils, .nils, .nils]]) 13 (.ptr σ.length 0) (.agg p.c) = some (σ ++ [.box p.c]) :=
  storeV_last rfl (TPair.len p) (TPair.scal p)
theorem two_last (σ : Heap) (cs ds : List PV) (a : Bool) (sz off : Nat) : loadV (σ ++ [.box cs] ++ [.box ds]) a sz (.ptr σ.length off) = loadP a sz (cs.drop off) := by
  rw [loadV_prev (by simp), loadV_last]
theorem pairs_ok (X : Ext) (xs ys : List TPair) (hx : Sm xs ∧ ∀ p ∈ xs, p.ok) (hy : Sm ys ∧ ∀ p ∈ ys, p.ok) : (Hw C X).pure 46 [encL 13 TPair.c xs, encL 13 TPair.c ys] = some [.bool (eqb xs ys)] := by
  obtain ⟨hb, hx⟩ := hx
  unfold Sm at hb
  rw [F46]
  by_cases hl : xs.length = ys.length
  · have hL : L46_1 X (encL 13 TPair.c ys) (encL 13 TPair.c xs) (.int .i64 (xs.length : Nat)) (.int .i64 (0 : Nat)) [] = some [.bool (eqb xs ys)] := by
      refine all_loop_bool (I := fun σ => True) (L := fun i σ => L46_1 X (encL 13 TPair.c ys) (encL 13 TPair.c xs) (.int .i64 (xs.length : Nat)) (.int .i64 (i : Nat)) σ) hl ?_ ?_ ?_ trivial
      · intro σ _
        try simp only
        rw [L46_1_eq]
        simp
        rfl
      · intro i hi hi' σ _ hc
        obtain ⟨k1, k2, k3⟩ := hx xs[i] (by simp)
        refine ⟨σ ++ [.box xs[i].c] ++ [.box ys[i].c], trivial, ?_⟩
        try simp only
        rw [L46_1_eq, ← hc]
        simp only [bin_lss, iaddr_enc _ _ hi, iaddr_enc _ _ hi', Option.bind_some, loadV_cref, loadP_all (TPair.len _), st13, faddrV_ptr, Nat.zero_add, two_last, loadV_last, List.drop_zero, pa0, pa6, pa12, ← hc, call61 X _ _ k1 k1, call61 X _ _ k2 k2, call45 X _ _ k3 k3, eqb_eq, not_bool, Bool.not_true, guardR_yes, nthV_zero, nthV_succ, pickV_false, condK_false, bin_add, wrap_succ (show i < 9223372036854775807 by omega)]
        simp [hi]
      · intro i hi hi' σ _ hc
        obtain ⟨k1, k2, k3⟩ := hx xs[i] (by simp)
        obtain ⟨m1, m2, m3⟩ := hy.2 ys[i] (by simp)
        try simp only
        rw [L46_1_eq]
        by_cases h1 : xs[i].what = ys[i].what
        · by_cases h2 : xs[i].with_ = ys[i].with_
          · have h3 : xs[i].rates ≠ ys[i].rates := fun h3 => hc (by
              generalize xs[i] = a at h1 h2 h3
              generalize ys[i] = b at h1 h2 h3
              cases a; cases b; simp_all)
            simp only [bin_lss, iaddr_enc _ _ hi, iaddr_enc _ _ hi', Option.bind_some, loadV_cref, loadP_all (TPair.len _), st13, faddrV_ptr, Nat.zero_add, two_last, loadV_last, List.drop_zero, pa0, pa6, pa12, call61 X _ _ k1 m1, call61 X _ _ k2 m2, call45 X _ _ k3 m3, not_bool, Bool.not_true, Bool.not_false, guardR_yes, guardR_tf, guardR_ft, nthV_zero, nthV_succ, pickV_false, pickV_true, condK_false, condK_true, eqb_eq h1, eqb_eq h2, eqb_ne h3]
            simp [hi]
            rfl
          · simp only [bin_lss, iaddr_enc _ _ hi, iaddr_enc _ _ hi', Option.bind_some, loadV_cref, loadP_all (TPair.len _), st13, faddrV_ptr, Nat.zero_add, two_last, loadV_last, List.drop_zero, pa0, pa6, pa12, call61 X _ _ k1 m1, call61 X _ _ k2 m2, call45 X _ _ k3 m3, not_bool, Bool.not_true, Bool.not_false, guardR_yes, guardR_tf, guardR_ft, nthV_zero, nthV_succ, pickV_false, pickV_true, condK_false, condK_true, eqb_eq h1, eqb_ne h2]
            simp [hi]
            rfl
        · simp only [bin_lss, iaddr_enc _ _ hi, iaddr_enc _ _ hi', Option.bind_some, loadV_cref, loadP_all (TPair.len _), st13, faddrV_ptr, Nat.zero_add, two_last, loadV_last, List.drop_zero, pa0, pa6, pa12, call61 X _ _ k1 m1, call61 X _ _ k2 m2, call45 X _ _ k3 m3, not_bool, Bool.not_true, Bool.not_false, guardR_yes, guardR_tf, guardR_ft, nthV_zero, nthV_succ, pickV_false, pickV_true, condK_false, condK_true, eqb_ne h1]
          simp [hi]
          rfl
    simp [hl]
    simpa [hl] using hL
  · have hne : xs ≠ ys := fun e => hl (by rw [e])
    simp [hl, eqb_ne hne]
    rfl
theorem call46 {R : Type} (X : Ext) (a b : List TPair) (ha : Sm a ∧ ∀ p ∈ a, p.ok) (hb : Sm b ∧ ∀ p ∈ b, p.ok) (σ : Heap) (pc : Bool) (k : PV → Heap → Option R) : callK C (Hw C X) σ pc (.fn 46 []) [encL 13 TPair.c a, encL 13 TPair.c b] k = k (.bool (eqb a b)) σ :=
  callK_pure C46 rfl (by simp only [pureL, encL_pure (fun x _ => TPair.pure x), Bool.and_self]) (by simp only [p46, canonA, canon_sl]) (pairs_ok X a b ha hb)
end Go.Proofs.YtkpbfldnickghaaDoor
