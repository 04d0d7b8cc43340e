/- Contracts: Compare and Equal of trees. -/
import Derived.Test.YtkpbfldnickghaaDoorU1
set_option linter.unusedVariables false
set_option linter.unusedSimpArgs false
namespace Go.Proofs.YtkpbfldnickghaaDoor
open Go Go.PE
theorem loadP_all {sz : Nat} {cs : List PV} (h : cs.length = sz) : loadP true sz cs = some (.agg cs) := by
  rw [loadP_agg sz cs (by omega), List.take_of_length_le (by omega)]
theorem ld1 (o : PE.Obj) (cs : List PV) (σ : Heap) (a : Bool) (sz off : Nat) : loadV (o :: .box cs :: σ) a sz (.ptr 1 off) = loadP a sz (cs.drop off) := rfl
def Cmp (X : Ext) (a b : TNode) : Prop := ∃ n : Int, (Hw C X).pure 72 [.agg a.c, .agg b.c] = some [.int .i64 n] ∧ (n = 0 ↔ a = b)
theorem cmp_call {R : Type} {X : Ext} {a b : TNode} (h : Cmp X a b) : ∃ n : Int, (n = 0 ↔ a = b) ∧ ∀ (σ : Heap) (pc : Bool) (k : PV → Heap → Option R), callK C (Hw C X) σ pc (.fn 72 []) [.agg a.c, .agg b.c] k = k (.int .i64 n) σ := by
  obtain ⟨n, h1, h2⟩ := h
  exact ⟨n, h2, fun σ pc k => callK_pure C72 rfl (by simp only [pureL, PV.pure, TNode.pure, Bool.and_self]) (by simp only [p72, canonA, canonV, TNode.canon]) h1⟩
theorem L72 (X : Ext) (u v : List PV) (hu : u.length = 5) (hv : v.length = 5) (ks ks' : List TNode) (hb : Sm ks) (hl : ks.length = ks'.length) (IH : ∀ x ∈ ks, ∀ y ∈ ks', Cmp X x y) :
    ∀ (n i : Nat), i + n = ks.length → ∃ m : Int, L72_1 X (.ptr 0 0) (.ptr 1 0) (.int .i64 (ks.length : Nat)) (.int .i64 i) [.box (u ++ [encL 6 TNode.c ks]), .box (v ++ [encL 6 TNode.c ks'])] = some [.int .i64 m] ∧ (m = 0 ↔ ks.drop i = ks'.drop i)
  | 0, i, h => by
    have h1 : ks.drop i = [] := List.drop_eq_nil_of_le (by omega)
    have h2 : ks'.drop i = [] := List.drop_eq_nil_of_le (by omega)
    refine ⟨0, ?_, by simp [h1, h2]⟩
    rw [L72_1_eq]
    simp [show ¬ (i < ks.length) by omega]
    rfl
  | n + 1, i, h => by
    unfold Sm at hb
    have hi : i < ks.length := by omega
    have hi' : i < ks'.length := by omega
    have hd := drop_eq_iff hi hi'
    obtain ⟨m, ih, hm⟩ := L72 X u v hu hv ks ks' hb hl IH n (i + 1) (by omega)
    obtain ⟨n1, hn1, hc1⟩ := cmp_call (R := List PV) (IH ks[i] (by simp) ks'[i] (by simp))
    have d5 : List.drop 5 (u ++ [encL 6 TNode.c ks]) = [encL 6 TNode.c ks] := by simp [← hu]
    have d5' : List.drop 5 (v ++ [encL 6 TNode.c ks']) = [encL 6 TNode.c ks'] := by simp [← hv]
    rw [L72_1_eq]
    by_cases hc : n1 = 0
    · refine ⟨m, ?_, by rw [hm, hd]; simp [hn1.1 hc]⟩
      simp [hi, hi', iaddr_enc, ld1, d5, d5', loadP_all (TNode.len _), hc1, hc, wrap_succ (show i < 9223372036854775807 by omega)]
      simpa using ih
    · refine ⟨n1, ?_, by rw [hd]; constructor <;> intro h; exact absurd h hc; exact absurd (hn1.2 h.1) hc⟩
      simp [hi, hi', iaddr_enc, ld1, d5, d5', loadP_all (TNode.len _), hc1, hc]
      rfl
theorem cmp_ok (X : Ext) : ∀ (a b : TNode), a.ok → b.ok → Cmp X a b
  | .mk op name num kids, .mk op' name' num' kids', ha, hb => by
    obtain ⟨⟨ha1, ha2⟩, ha3, ha4⟩ := ha
    obtain ⟨⟨hb1, hb2⟩, hb3, hb4⟩ := hb
    rw [TNode.oks_iff] at ha4 hb4
    obtain ⟨n1, hn1, hw1⟩ := call91 (R := List PV) X num.num num'.num ha1 hb1
    obtain ⟨n2, hn2, hw2⟩ := call91 (R := List PV) X num.den num'.den ha2 hb2
    have IH : ∀ x ∈ kids, ∀ y ∈ kids', Cmp X x y := fun x hx y hy => by
      have := List.sizeOf_lt_of_mem hx
      exact cmp_ok X x y (ha4 x hx) (hb4 y hy)
    have hL := fun hl => L72 X [.int .i64 op, .str name, .bool num.neg, encL 1 cU32 num.num, encL 1 cU32 num.den] [.int .i64 op', .str name', .bool num'.neg, encL 1 cU32 num'.num, encL 1 cU32 num'.den] rfl rfl kids kids' ha3 hl IH kids.length 0 (by omega)
    obtain ⟨neg, nu, de⟩ := num
    obtain ⟨neg', nu', de'⟩ := num'
    unfold Cmp
    rw [F72]
    simp only [TNode.c_eq]
    by_cases h1 : op = op'
    · by_cases h2 : name = name'
      · by_cases h3 : neg = neg'
        · by_cases h4 : n1 = 0
          · by_cases h5 : n2 = 0
            · by_cases h6 : kids.length = kids'.length
              · obtain ⟨m, hm, hm'⟩ := hL h6
                refine ⟨m, ?_, ?_⟩
                · simp [h1, h2, h3, h4, h5, h6, ld1, hw1, hw2] at hm ⊢
                  exact hm
                · have e1 : nu = nu' := hn1.1 h4
                  have e2 : de = de' := hn2.1 h5
                  rw [hm']; simp [h1, h2, h3, e1, e2]
              · refine ⟨if kids.length < kids'.length then -1 else 1, ?_, ?_⟩
                · simp [h1, h2, h3, h4, h5, h6, ld1, hw1, hw2, call90]
                  split <;> rfl
                · constructor
                  · intro h; split at h <;> cases h
                  · intro h; simp only [TNode.mk.injEq] at h; exact absurd (by rw [h.2.2.2]) h6
            · refine ⟨n2, ?_, ?_⟩
              · simp [h1, h2, h3, h4, h5, ld1, hw1, hw2]
                rfl
              · constructor
                · intro h; exact absurd h h5
                · intro h; simp only [TNode.mk.injEq, TRat.mk.injEq] at h; exact hn2.2 h.2.2.1.2.2
          · refine ⟨n1, ?_, ?_⟩
            · simp [h1, h2, h3, h4, ld1, hw1, hw2]
              rfl
            · constructor
              · intro h; exact absurd h h4
              · intro h; simp only [TNode.mk.injEq, TRat.mk.injEq] at h; exact hn1.2 h.2.2.1.2.1
        · refine ⟨if neg' = true then -1 else 1, ?_, ?_⟩
          · simp [h1, h2, h3, ld1, call90]
            split <;> rfl
          · constructor
            · intro h; split at h <;> cases h
            · intro h; simp only [TNode.mk.injEq, TRat.mk.injEq] at h; exact absurd h.2.2.1.1 h3
      · refine ⟨if Op.bytesLess name name' = true then -1 else 1, ?_, ?_⟩
        · simp [h1, h2, ld1, call90]
          split <;> rfl
        · constructor
          · intro h; split at h <;> cases h
          · intro h; simp only [TNode.mk.injEq] at h; exact absurd h.2.1 h2
    · refine ⟨if op < op' then -1 else 1, ?_, ?_⟩
      · simp [h1, ld1, call90]
        split <;> rfl
      · constructor
        · intro h; split at h <;> cases h
        · intro h; simp only [TNode.mk.injEq] at h; exact absurd h.1 h1
termination_by a => SizeOf.sizeOf a
end Go.Proofs.YtkpbfldnickghaaDoor
