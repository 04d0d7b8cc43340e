/- Contracts: the reference's comparisons of lists. -/
import Derived.Test.YtkpbfldnickghaaDoorU9
set_option linter.unusedVariables false
set_option linter.unusedSimpArgs false
namespace Go.Proofs.YtkpbfldnickghaaDoor
open Go Go.PE
theorem sameInts_ok (X : Ext) (xs ys : List Int) (hb : Sm xs) : (Hw C X).pure 53 [encL 1 cInt xs, encL 1 cInt ys] = some [.bool (eqb xs ys)] := by
  unfold Sm at hb
  rw [F53]
  by_cases hl : xs.length = ys.length
  · have hL : L53_1 X (encL 1 cInt xs) (encL 1 cInt ys) (.int .i64 (0 : Nat)) [] = some [.bool (eqb xs ys)] := by
      refine all_loop_bool (I := fun σ => True) (L := fun i σ => L53_1 X (encL 1 cInt xs) (encL 1 cInt ys) (.int .i64 (i : Nat)) σ) hl ?_ ?_ ?_ trivial
      · intro σ _
        try simp only
        rw [L53_1_eq]
        simp
        rfl
      · intro i hi hi' σ _ hc
        refine ⟨σ, trivial, ?_⟩
        try simp only
        rw [L53_1_eq]
        simp [hi, hi', iaddr_enc, cInt, hc, wrap_succ (show i < 9223372036854775807 by omega)]
      · intro i hi hi' σ _ hc
        try simp only
        rw [L53_1_eq]
        simp [hi, hi', iaddr_enc, cInt, hc]
        rfl
    simp [hl]
    simpa [hl] using hL
  · have hne : xs ≠ ys := fun e => hl (by rw [e])
    simp [hl, eqb_ne hne]
    rfl
theorem call53 {R : Type} (X : Ext) (a b : List Int) (hb : Sm a) (σ : Heap) (pc : Bool) (k : PV → Heap → Option R) : callK C (Hw C X) σ pc (.fn 53 []) [encL 1 cInt a, encL 1 cInt b] k = k (.bool (eqb a b)) σ :=
  callK_pure C53 rfl (by simp only [pureL, encL_pure (fun x _ => cInt_pure x), Bool.and_self]) (by simp only [p53, canonA, canon_sl]) (sameInts_ok X a b hb)
theorem sameStrs_ok (X : Ext) (xs ys : List Str) (hb : Sm xs) : (Hw C X).pure 18 [encL 1 cStr xs, encL 1 cStr ys] = some [.bool (eqb xs ys)] := by
  unfold Sm at hb
  rw [F18]
  by_cases hl : xs.length = ys.length
  · have hL : L18_1 X (encL 1 cStr xs) (encL 1 cStr ys) (.int .i64 (0 : Nat)) [] = some [.bool (eqb xs ys)] := by
      refine all_loop_bool (I := fun σ => True) (L := fun i σ => L18_1 X (encL 1 cStr xs) (encL 1 cStr ys) (.int .i64 (i : Nat)) σ) hl ?_ ?_ ?_ trivial
      · intro σ _
        try simp only
        rw [L18_1_eq]
        simp
        rfl
      · intro i hi hi' σ _ hc
        refine ⟨σ, trivial, ?_⟩
        try simp only
        rw [L18_1_eq]
        simp [hi, hi', iaddr_enc, cStr, hc, wrap_succ (show i < 9223372036854775807 by omega)]
      · intro i hi hi' σ _ hc
        try simp only
        rw [L18_1_eq]
        simp [hi, hi', iaddr_enc, cStr, hc]
        rfl
    simp [hl]
    simpa [hl] using hL
  · have hne : xs ≠ ys := fun e => hl (by rw [e])
    simp [hl, eqb_ne hne]
    rfl
theorem call18 {R : Type} (X : Ext) (a b : List Str) (hb : Sm a) (σ : Heap) (pc : Bool) (k : PV → Heap → Option R) : callK C (Hw C X) σ pc (.fn 18 []) [encL 1 cStr a, encL 1 cStr b] k = k (.bool (eqb a b)) σ :=
  callK_pure C18 rfl (by simp only [pureL, encL_pure (fun x _ => cStr_pure x), Bool.and_self]) (by simp only [p18, canonA, canon_sl]) (sameStrs_ok X a b hb)
theorem sameWords_ok (X : Ext) (xs ys : List Nat) (hb : Sm xs) : (Hw C X).pure 74 [encL 1 cU32 xs, encL 1 cU32 ys] = some [.bool (eqb xs ys)] := by
  unfold Sm at hb
  rw [F74]
  by_cases hl : xs.length = ys.length
  · have hL : L74_1 X (encL 1 cU32 xs) (encL 1 cU32 ys) (.int .i64 (xs.length : Nat)) (.int .i64 (0 : Nat)) [] = some [.bool (eqb xs ys)] := by
      refine all_loop_bool (I := fun σ => True) (L := fun i σ => L74_1 X (encL 1 cU32 xs) (encL 1 cU32 ys) (.int .i64 (xs.length : Nat)) (.int .i64 (i : Nat)) σ) hl ?_ ?_ ?_ trivial
      · intro σ _
        try simp only
        rw [L74_1_eq]
        simp
        rfl
      · intro i hi hi' σ _ hc
        refine ⟨σ, trivial, ?_⟩
        try simp only
        rw [L74_1_eq]
        simp [hi, hi', iaddr_enc, cU32, hc, wrap_succ (show i < 9223372036854775807 by omega)]
      · intro i hi hi' σ _ hc
        try simp only
        rw [L74_1_eq]
        simp [hi, hi', iaddr_enc, cU32, hc]
        rfl
    simp [hl]
    simpa [hl] using hL
  · have hne : xs ≠ ys := fun e => hl (by rw [e])
    simp [hl, eqb_ne hne]
    rfl
theorem call74 {R : Type} (X : Ext) (a b : List Nat) (hb : Sm a) (σ : Heap) (pc : Bool) (k : PV → Heap → Option R) : callK C (Hw C X) σ pc (.fn 74 []) [encL 1 cU32 a, encL 1 cU32 b] k = k (.bool (eqb a b)) σ :=
  callK_pure C74 rfl (by simp only [pureL, encL_pure (fun x _ => cU32_pure x), Bool.and_self]) (by simp only [p74, canonA, canon_sl]) (sameWords_ok X a b hb)
theorem sameRat_ok (X : Ext) (a b : TRat) (ha : a.ok) : (Hw C X).pure 67 [.agg a.c, .agg b.c] = some [.bool (eqb a b)] := by
  obtain ⟨n, u, d⟩ := a
  obtain ⟨n', u', d'⟩ := b
  have key : eqb (TRat.mk n u d) (TRat.mk n' u' d') = (decide (n = n') && (eqb u u' && eqb d d')) := by
    rw [Bool.eq_iff_iff]
    simp only [eqb_iff, Bool.and_eq_true, TRat.mk.injEq, decide_eq_true_iff]
  rw [F67, key]
  have c1 := fun σ pc (k : PV → Heap → Option (List PV × Heap)) => call74 X u u' ha.1 σ pc k
  have c2 := fun σ pc (k : PV → Heap → Option (List PV × Heap)) => call74 X d d' ha.2 σ pc k
  by_cases h1 : n = n'
  · simp [TRat.c, ld1, h1, c1]
    cases eqb u u'
    · simp; rfl
    · simp [ld1, c2]
      cases eqb d d' <;> rfl
  · simp [TRat.c, ld1, h1]
    rfl
theorem call67 {R : Type} (X : Ext) (a b : TRat) (ha : a.ok) (σ : Heap) (pc : Bool) (k : PV → Heap → Option R) : callK C (Hw C X) σ pc (.fn 67 []) [.agg a.c, .agg b.c] k = k (.bool (eqb a b)) σ :=
  callK_pure C67 rfl (by simp only [pureL, PV.pure, TRat.pure, Bool.and_self]) (by simp only [p67, canonA, canonV, TRat.canon]) (sameRat_ok X a b ha)
theorem sameRats_ok (X : Ext) (xs ys : List TRat) (hx : Sm xs ∧ ∀ r ∈ xs, r.ok) : (Hw C X).pure 65 [encL 3 TRat.c xs, encL 3 TRat.c ys] = some [.bool (eqb xs ys)] := by
  obtain ⟨hb, hx⟩ := hx
  unfold Sm at hb
  rw [F65]
  by_cases hl : xs.length = ys.length
  · have hL : L65_1 X (encL 3 TRat.c xs) (encL 3 TRat.c ys) (.int .i64 (0 : Nat)) [] = some [.bool (eqb xs ys)] := by
      refine all_loop_bool (I := fun σ => True) (L := fun i σ => L65_1 X (encL 3 TRat.c xs) (encL 3 TRat.c ys) (.int .i64 (i : Nat)) σ) hl ?_ ?_ ?_ trivial
      · intro σ _
        try simp only
        rw [L65_1_eq]
        simp
        rfl
      · intro i hi hi' σ _ hc
        refine ⟨σ, trivial, ?_⟩
        try simp only
        rw [L65_1_eq]
        simp [hi, hi', iaddr_enc, loadP_all (TRat.len _), call67 X _ _ (hx _ (List.getElem_mem hi)), eqb_eq hc, wrap_succ (show i < 9223372036854775807 by omega)]
      · intro i hi hi' σ _ hc
        try simp only
        rw [L65_1_eq]
        simp [hi, hi', iaddr_enc, loadP_all (TRat.len _), call67 X _ _ (hx _ (List.getElem_mem hi)), eqb_ne hc]
        rfl
    simp [hl]
    simpa [hl] using hL
  · have hne : xs ≠ ys := fun e => hl (by rw [e])
    simp [hl, eqb_ne hne]
    rfl
theorem call65 {R : Type} (X : Ext) (a b : List TRat) (hb : Sm a ∧ ∀ r ∈ a, r.ok) (σ : Heap) (pc : Bool) (k : PV → Heap → Option R) : callK C (Hw C X) σ pc (.fn 65 []) [encL 3 TRat.c a, encL 3 TRat.c b] k = k (.bool (eqb a b)) σ :=
  callK_pure C65 rfl (by simp only [pureL, encL_pure (fun x _ => TRat.pure x), Bool.and_self]) (by simp only [p65, canonA, canon_sl]) (sameRats_ok X a b hb)
def lessI (a b : Int) : Int := if a < b then -1 else if b < a then 1 else 0
theorem less8_ok (X : Ext) (a b : Int) : (Hw C X).pure 92 [.int .i64 a, .int .i64 b] = some [.int .i64 (lessI a b)] := by
  unfold lessI
  rw [F92]
  by_cases h1 : a < b
  · simp [h1]; rfl
  · by_cases h2 : b < a
    · simp [h1, h2]; rfl
    · simp [h1, h2]; rfl
theorem call92 {R : Type} (X : Ext) (σ : Heap) (pc : Bool) (a b : Int) (k : PV → Heap → Option R) : callK C (Hw C X) σ pc (.fn 92 []) [.int .i64 a, .int .i64 b] k = k (.int .i64 (lessI a b)) σ :=
  callK_pure C92 rfl rfl rfl (less8_ok X a b)
theorem less0 (a b : Int) : lessI a b = 0 ↔ a = b := by
  unfold lessI
  split
  · constructor
    · intro h; cases h
    · intro h; omega
  · split
    · constructor
      · intro h; cases h
      · intro h; omega
    · constructor
      · intro _; omega
      · intro _; rfl
theorem L93 (X : Ext) (a b : List Nat) (hl : a.length = b.length) (hb : Sm a) : ∀ (i : Nat), i ≤ a.length → ∃ n : Int, L93_1 X (encL 1 cU32 a) (encL 1 cU32 b) (.int .i64 ((i : Int) - 1)) [] = some [.int .i64 n] ∧ (n = 0 ↔ a.take i = b.take i)
  | 0, _ => ⟨0, by rw [L93_1_eq]; simp; rfl, by simp⟩
  | i + 1, h => by
    unfold Sm at hb
    have hi : i < a.length := by omega
    have hi' : i < b.length := by omega
    obtain ⟨n, ih, hn⟩ := L93 X a b hl hb i (by omega)
    have e1 : ((i + 1 : Nat) : Int) - 1 = (i : Int) := by omega
    have ht : a.take (i + 1) = b.take (i + 1) ↔ a.take i = b.take i ∧ a[i] = b[i] := by
      rw [List.take_succ_eq_append_getElem hi, List.take_succ_eq_append_getElem hi']
      constructor
      · intro h
        have := List.append_inj h (by simp; omega)
        exact ⟨this.1, by simpa using this.2⟩
      · rintro ⟨h1, h2⟩
        rw [h1, h2]
    rw [e1, L93_1_eq]
    by_cases hc : a[i] = b[i]
    · refine ⟨n, ?_, by rw [hn, ht]; simp [hc]⟩
      simp [hi, iaddr_enc, hi', cU32, hc, wrap_i64 (show -9223372036854775808 ≤ (i : Int) - 1 by omega) (by omega)]
      exact ih
    · refine ⟨if a[i] < b[i] then -1 else 1, ?_, ?_⟩
      · by_cases hd : a[i] < b[i]
        · simp [hi, iaddr_enc, hi', cU32, hc, hd]
          rfl
        · simp [hi, iaddr_enc, hi', cU32, hc, hd]
          rfl
      · rw [ht]
        constructor
        · intro h; split at h <;> cases h
        · intro h; exact absurd h.2 hc
theorem words8_ok (X : Ext) (a b : List Nat) (hb : Sm a) (hb' : Sm b) : ∃ n : Int, (Hw C X).pure 93 [encL 1 cU32 a, encL 1 cU32 b] = some [.int .i64 n] ∧ (n = 0 ↔ a = b) := by
  rw [F93]
  unfold Sm at hb hb'
  by_cases hl : a.length = b.length
  · obtain ⟨n, h1, h2⟩ := L93 X a b hl hb a.length (Nat.le_refl _)
    refine ⟨n, ?_, by rw [h2, List.take_length, hl, List.take_length]⟩
    simp [hl, wrap_i64 (show -9223372036854775808 ≤ (b.length : Int) - 1 by omega) (by omega)]
    simpa [hl] using h1
  · refine ⟨if a.length < b.length then -1 else 1, ?_, ?_⟩
    · by_cases hd : a.length < b.length
      · simp [hl, hd]
        rfl
      · simp [hl, hd]
        rfl
    · constructor
      · intro h; split at h <;> cases h
      · intro h; exact absurd (by rw [h]) hl
theorem call93 {R : Type} (X : Ext) (a b : List Nat) (hb : Sm a) (hb' : Sm b) : ∃ n : Int, (n = 0 ↔ a = b) ∧ ∀ (σ : Heap) (pc : Bool) (k : PV → Heap → Option R), callK C (Hw C X) σ pc (.fn 93 []) [encL 1 cU32 a, encL 1 cU32 b] k = k (.int .i64 n) σ := by
  obtain ⟨n, h1, h2⟩ := words8_ok X a b hb hb'
  exact ⟨n, h2, fun σ pc k => callK_pure C93 rfl (by simp only [pureL, encL_pure (fun x _ => cU32_pure x), Bool.and_self]) (by simp only [p93, canonA, canon_sl]) h1⟩
def Cmp8 (X : Ext) (a b : TNode) : Prop := ∃ n : Int, (Hw C X).pure 73 [.agg a.c, .agg b.c] = some [.int .i64 n] ∧ (n = 0 ↔ a = b)
theorem cmp8_call {R : Type} {X : Ext} {a b : TNode} (h : Cmp8 X a b) : ∃ n : Int, (n = 0 ↔ a = b) ∧ ∀ (σ : Heap) (pc : Bool) (k : PV → Heap → Option R), callK C (Hw C X) σ pc (.fn 73 []) [.agg a.c, .agg b.c] k = k (.int .i64 n) σ := by
  obtain ⟨n, h1, h2⟩ := h
  exact ⟨n, h2, fun σ pc k => callK_pure C73 rfl (by simp only [pureL, PV.pure, TNode.pure, Bool.and_self]) (by simp only [p73, canonA, canonV, TNode.canon]) h1⟩
theorem L73 (X : Ext) (u v : List PV) (hu : u.length = 5) (hv : v.length = 5) (ks ks' : List TNode) (hb : Sm ks) (hl : ks.length = ks'.length) (IH : ∀ x ∈ ks, ∀ y ∈ ks', Cmp8 X x y) :
    ∀ (n i : Nat), i + n = ks.length → ∃ m : Int, L73_1 X (.ptr 0 0) (.ptr 1 0) (.int .i64 i) [.box (u ++ [encL 6 TNode.c ks]), .box (v ++ [encL 6 TNode.c ks'])] = some [.int .i64 m] ∧ (m = 0 ↔ ks.drop i = ks'.drop i)
  | 0, i, h => by
    have h1 : ks.drop i = [] := List.drop_eq_nil_of_le (by omega)
    have h2 : ks'.drop i = [] := List.drop_eq_nil_of_le (by omega)
    have d5 : List.drop 5 (u ++ [encL 6 TNode.c ks]) = [encL 6 TNode.c ks] := by simp [← hu]
    refine ⟨0, ?_, by simp [h1, h2]⟩
    rw [L73_1_eq]
    simp [show ¬ (i < ks.length) by omega, d5]
    rfl
  | n + 1, i, h => by
    unfold Sm at hb
    have hi : i < ks.length := by omega
    have hi' : i < ks'.length := by omega
    have hd := drop_eq_iff hi hi'
    obtain ⟨m, ih, hm⟩ := L73 X u v hu hv ks ks' hb hl IH n (i + 1) (by omega)
    obtain ⟨n1, hn1, hc1⟩ := cmp8_call (R := List PV) (IH ks[i] (by simp) ks'[i] (by simp))
    have d5 : List.drop 5 (u ++ [encL 6 TNode.c ks]) = [encL 6 TNode.c ks] := by simp [← hu]
    have d5' : List.drop 5 (v ++ [encL 6 TNode.c ks']) = [encL 6 TNode.c ks'] := by simp [← hv]
    rw [L73_1_eq]
    by_cases hc : n1 = 0
    · refine ⟨m, ?_, by rw [hm, hd]; simp [hn1.1 hc]⟩
      simp [hi, hi', iaddr_enc, ld1, d5, d5', loadP_all (TNode.len _), hc1, hc, wrap_succ (show i < 9223372036854775807 by omega)]
      simpa using ih
    · refine ⟨n1, ?_, by rw [hd]; constructor <;> intro h; exact absurd h hc; exact absurd (hn1.2 h.1) hc⟩
      simp [hi, hi', iaddr_enc, ld1, d5, d5', loadP_all (TNode.len _), hc1, hc]
      rfl
theorem cmp8_ok (X : Ext) : ∀ (a b : TNode), a.ok → b.ok → Cmp8 X a b
  | .mk op name num kids, .mk op' name' num' kids', ha, hb => by
    obtain ⟨⟨ha1, ha2⟩, ha3, ha4⟩ := ha
    obtain ⟨⟨hb1, hb2⟩, hb3, hb4⟩ := hb
    rw [TNode.oks_iff] at ha4 hb4
    obtain ⟨n1, hn1, hw1⟩ := call93 (R := List PV) X num.num num'.num ha1 hb1
    obtain ⟨n2, hn2, hw2⟩ := call93 (R := List PV) X num.den num'.den ha2 hb2
    have IH : ∀ x ∈ kids, ∀ y ∈ kids', Cmp8 X x y := fun x hx y hy => by
      have := List.sizeOf_lt_of_mem hx
      exact cmp8_ok X x y (ha4 x hx) (hb4 y hy)
    have hL := fun hl => L73 X [.int .i64 op, .str name, .bool num.neg, encL 1 cU32 num.num, encL 1 cU32 num.den] [.int .i64 op', .str name', .bool num'.neg, encL 1 cU32 num'.num, encL 1 cU32 num'.den] rfl rfl kids kids' ha3 hl IH kids.length 0 (by omega)
    obtain ⟨neg, nu, de⟩ := num
    obtain ⟨neg', nu', de'⟩ := num'
    have w92 := fun σ pc a b (k : PV → Heap → Option (List PV)) => call92 X σ pc a b k
    unfold Cmp8
    rw [F73]
    simp only [TNode.c_eq]
    have z1 := less0 op op'
    have z6 := less0 kids.length kids'.length
    generalize hq1 : lessI op op' = q1 at z1
    generalize hq6 : lessI kids.length kids'.length = q6 at z6
    by_cases h1 : q1 = 0
    · by_cases h2 : name = name'
      · by_cases h3 : neg = neg'
        · by_cases h4 : n1 = 0
          · by_cases h5 : n2 = 0
            · by_cases h6 : q6 = 0
              · have h6' : kids.length = kids'.length := by have := z6.1 h6; omega
                obtain ⟨m, hm, hm'⟩ := hL h6'
                refine ⟨m, ?_, ?_⟩
                · simp only [List.cons_append, List.nil_append] at hm
                  simp [w92, hq1, hq6, h1, h2, h3, h4, h5, h6, ld1, hw1, hw2]
                  simpa [h2, h3] using hm
                · have e1 : nu = nu' := hn1.1 h4
                  have e2 : de = de' := hn2.1 h5
                  rw [hm']; simp [z1.1 h1, h2, h3, e1, e2]
              · refine ⟨q6, ?_, ?_⟩
                · simp [w92, hq1, hq6, h1, h2, h3, h4, h5, h6, ld1, hw1, hw2]
                  rfl
                · constructor
                  · intro h; exact absurd h h6
                  · intro h; simp only [TNode.mk.injEq] at h; exact z6.2 (by rw [h.2.2.2])
            · refine ⟨n2, ?_, ?_⟩
              · simp [w92, hq1, h1, h2, h3, h4, h5, ld1, hw1, hw2]
                rfl
              · constructor
                · intro h; exact absurd h h5
                · intro h; simp only [TNode.mk.injEq, TRat.mk.injEq] at h; exact hn2.2 h.2.2.1.2.2
          · refine ⟨n1, ?_, ?_⟩
            · simp [w92, hq1, h1, h2, h3, h4, ld1, hw1, hw2]
              rfl
            · constructor
              · intro h; exact absurd h h4
              · intro h; simp only [TNode.mk.injEq, TRat.mk.injEq] at h; exact hn1.2 h.2.2.1.2.1
        · refine ⟨if neg' = true then -1 else 1, ?_, ?_⟩
          · cases neg' <;> (simp [w92, hq1, h1, h2, h3, ld1]; rfl)
          · constructor
            · intro h; split at h <;> cases h
            · intro h; simp only [TNode.mk.injEq, TRat.mk.injEq] at h; exact absurd h.2.2.1.1 h3
      · refine ⟨if Op.bytesLess name name' = true then -1 else 1, ?_, ?_⟩
        · by_cases hq : Op.bytesLess name name' = true
          · simp [w92, hq1, h1, h2, ld1, hq]
            rfl
          · simp [w92, hq1, h1, h2, ld1, hq]
            rfl
        · constructor
          · intro h; split at h <;> cases h
          · intro h; simp only [TNode.mk.injEq] at h; exact absurd h.2.1 h2
    · refine ⟨q1, ?_, ?_⟩
      · simp [w92, hq1, h1, ld1]
        rfl
      · constructor
        · intro h; exact absurd h h1
        · intro h; simp only [TNode.mk.injEq] at h; exact z1.2 h.1
termination_by a => SizeOf.sizeOf a
theorem eq8_ok (X : Ext) (a b : TNode) (ha : a.ok) (hb : b.ok) : (Hw C X).pure 64 [.agg a.c, .agg b.c] = some [.bool (eqb a b)] := by
  obtain ⟨n, hn, hc⟩ := cmp8_call (R := List PV) (cmp8_ok X a b ha hb)
  rw [F64]
  simp [ld1, loadP_all (TNode.len _), hc]
  by_cases h : a = b
  · rw [eqb_eq h, hn.2 h]; rfl
  · rw [eqb_ne h, decide_eq_false (fun e => h (hn.1 e))]; rfl
theorem call64 {R : Type} (X : Ext) (a b : TNode) (ha : a.ok) (hb : b.ok) (σ : Heap) (pc : Bool) (k : PV → Heap → Option R) : callK C (Hw C X) σ pc (.fn 64 []) [.agg a.c, .agg b.c] k = k (.bool (eqb a b)) σ :=
  callK_pure C64 rfl (by simp only [pureL, PV.pure, TNode.pure, Bool.and_self]) (by simp only [p64, canonA, canonV, TNode.canon]) (eq8_ok X a b ha hb)
theorem sameNodes_ok (X : Ext) (xs ys : List TNode) (hx : TNodes.ok xs) (hy : TNodes.ok ys) : (Hw C X).pure 51 [encL 6 TNode.c xs, encL 6 TNode.c ys] = some [.bool (eqb xs ys)] := by
  obtain ⟨hb, hx⟩ := hx
  unfold Sm at hb
  rw [F51]
  by_cases hl : xs.length = ys.length
  · have hL : L51_1 X (encL 6 TNode.c xs) (encL 6 TNode.c ys) (.int .i64 (0 : Nat)) [] = some [.bool (eqb xs ys)] := by
      refine all_loop_bool (I := fun σ => True) (L := fun i σ => L51_1 X (encL 6 TNode.c xs) (encL 6 TNode.c ys) (.int .i64 (i : Nat)) σ) hl ?_ ?_ ?_ trivial
      · intro σ _
        try simp only
        rw [L51_1_eq]
        simp
        rfl
      · intro i hi hi' σ _ hc
        refine ⟨σ, trivial, ?_⟩
        try simp only
        rw [L51_1_eq]
        simp [hi, hi', iaddr_enc, loadP_all (TNode.len _), call64 X _ _ (hx _ (List.getElem_mem hi)) (hy.2 _ (List.getElem_mem hi')), eqb_eq hc, wrap_succ (show i < 9223372036854775807 by omega)]
      · intro i hi hi' σ _ hc
        try simp only
        rw [L51_1_eq]
        simp [hi, hi', iaddr_enc, loadP_all (TNode.len _), call64 X _ _ (hx _ (List.getElem_mem hi)) (hy.2 _ (List.getElem_mem hi')), eqb_ne hc]
        rfl
    simp [hl]
    simpa [hl] using hL
  · have hne : xs ≠ ys := fun e => hl (by rw [e])
    simp [hl, eqb_ne hne]
    rfl
theorem call51 {R : Type} (X : Ext) (a b : List TNode) (hb : TNodes.ok a) (hb2 : TNodes.ok b) (σ : Heap) (pc : Bool) (k : PV → Heap → Option R) : callK C (Hw C X) σ pc (.fn 51 []) [encL 6 TNode.c a, encL 6 TNode.c b] k = k (.bool (eqb a b)) σ :=
  callK_pure C51 rfl (by simp only [pureL, encL_pure (fun x _ => TNode.pure x), Bool.and_self]) (by simp only [p51, canonA, canon_sl]) (sameNodes_ok X a b hb hb2)
end Go.Proofs.YtkpbfldnickghaaDoor
