/- U1, U2, U3, U4, U5, U6, U7, U8, U9, U10, U11, U12 of the seat, in one text. -/
import Derived.Test.YtkpbfldnickghaaDoorEqs0
import Derived.Test.YtkpbfldnickghaaDoorEqs1
import Derived.Test.YtkpbfldnickghaaDoorEqs2
import Derived.Test.YtkpbfldnickghaaDoorPEo
set_option linter.unusedVariables false
set_option linter.unusedSimpArgs false
namespace Go.Proofs.YtkpbfldnickghaaDoor
open Go Go.PE
theorem canon_sl {α : Type} {st : Nat} {f : α → List PV} {l : List α} : canonV [some st] (encL st f l) = encL st f l := by
  show canon1 (some st) (encL st f l) = _
  exact canon1_encL
theorem L27 (X : Ext) (xs ys : List Int) (hl : xs.length = ys.length) (hb : Sm xs) : ∀ (n i : Nat), i + n = xs.length → L27_1 X (encL 1 cInt xs) (encL 1 cInt ys) (.int .i64 (xs.length : Nat)) (.int .i64 i) [] = some [.bool (eqb (xs.drop i) (ys.drop i))]
  | 0, i, h => by
    rw [L27_1_eq]
    have h1 : xs.drop i = [] := List.drop_eq_nil_of_le (by omega)
    have h2 : ys.drop i = [] := List.drop_eq_nil_of_le (by omega)
    simp [h1, h2, show ¬ (i < xs.length) by omega, eqb_eq]
    rfl
  | n + 1, i, h => by
    rw [L27_1_eq]
    unfold Sm at hb
    have hi : i < xs.length := by omega
    have hi' : i < ys.length := by omega
    have ih := L27 X xs ys hl hb n (i + 1) (by omega)
    have hd := drop_eq_iff hi hi'
    by_cases hc : xs[i] = ys[i]
    · simp [hi, iaddr_enc, hi', cInt, hc, wrap_succ (show i < 9223372036854775807 by omega)]
      have : eqb (xs.drop i) (ys.drop i) = eqb (xs.drop (i + 1)) (ys.drop (i + 1)) := by simp [eqb, hd, hc]
      rw [this]
      simpa using ih
    · simp [hi, iaddr_enc, hi', cInt, hc, eqb_ne (fun e => hc (hd.1 e).1)]
      rfl
theorem ints_ok (X : Ext) (xs ys : List Int) (hb : Sm xs) : (Hw C X).pure 27 [encL 1 cInt xs, encL 1 cInt ys] = some [.bool (eqb xs ys)] := by
  rw [F27]
  by_cases hl : xs.length = ys.length
  · simp [hl]
    have := L27 X xs ys hl hb xs.length 0 (by omega)
    simpa [hl] using this
  · have hne : xs ≠ ys := fun e => hl (by rw [e])
    simp [hl, eqb_ne hne]
    rfl
theorem less_ok (X : Ext) (b : Bool) : (Hw C X).pure 90 [.bool b] = some [.int .i64 (if b = true then -1 else 1)] := by
  rw [F90]
  cases b <;> rfl
theorem call90 {R : Type} (X : Ext) (σ : Heap) (pc : Bool) (b : Bool) (k : PV → Heap → Option R) : callK C (Hw C X) σ pc (.fn 90 []) [.bool b] k = k (.int .i64 (if b = true then -1 else 1)) σ :=
  callK_pure C90 rfl rfl rfl (less_ok X b)
theorem L91 (X : Ext) (a b : List Nat) (hl : a.length = b.length) (hb : Sm a) : ∀ (i : Nat), i ≤ a.length → ∃ n : Int, L91_1 X (encL 1 cU32 a) (encL 1 cU32 b) (.int .i64 ((i : Int) - 1)) [] = some [.int .i64 n] ∧ (n = 0 ↔ a.take i = b.take i)
  | 0, _ => ⟨0, by rw [L91_1_eq]; simp; rfl, by simp⟩
  | i + 1, h => by
    unfold Sm at hb
    have hi : i < a.length := by omega
    have hi' : i < b.length := by omega
    obtain ⟨n, ih, hn⟩ := L91 X a b hl hb i (by omega)
    have e1 : ((i + 1 : Nat) : Int) - 1 = (i : Int) := by omega
    have ht : a.take (i + 1) = b.take (i + 1) ↔ a.take i = b.take i ∧ a[i] = b[i] := by
      rw [List.take_succ_eq_append_getElem hi, List.take_succ_eq_append_getElem hi']
      constructor
      · intro h
        have := List.append_inj h (by simp; omega)
        exact ⟨this.1, by simpa using this.2⟩
      · rintro ⟨h1, h2⟩
        rw [h1, h2]
    rw [e1, L91_1_eq]
    by_cases hc : a[i] = b[i]
    · refine ⟨n, ?_, by rw [hn, ht]; simp [hc]⟩
      simp [hi, iaddr_enc, hi', cU32, hc, wrap_i64 (show -9223372036854775808 ≤ (i : Int) - 1 by omega) (by omega)]
      exact ih
    · refine ⟨if a[i] < b[i] then -1 else 1, ?_, ?_⟩
      · simp [hi, iaddr_enc, hi', cU32, hc, call90]
        split <;> rfl
      · rw [ht]
        constructor
        · intro h; split at h <;> cases h
        · intro h; exact absurd h.2 hc
theorem words_ok (X : Ext) (a b : List Nat) (hb : Sm a) (hb' : Sm b) : ∃ n : Int, (Hw C X).pure 91 [encL 1 cU32 a, encL 1 cU32 b] = some [.int .i64 n] ∧ (n = 0 ↔ a = b) := by
  rw [F91]
  unfold Sm at hb hb'
  by_cases hl : a.length = b.length
  · obtain ⟨n, h1, h2⟩ := L91 X a b hl hb a.length (Nat.le_refl _)
    refine ⟨n, ?_, by rw [h2, List.take_length, hl, List.take_length]⟩
    simp [hl, wrap_i64 (show -9223372036854775808 ≤ (b.length : Int) - 1 by omega) (by omega)]
    simpa [hl] using h1
  · refine ⟨if a.length < b.length then -1 else 1, ?_, ?_⟩
    · simp [hl, call90]
      split <;> rfl
    · constructor
      · intro h; split at h <;> cases h
      · intro h; exact absurd (by rw [h]) hl
theorem call91 {R : Type} (X : Ext) (a b : List Nat) (hb : Sm a) (hb' : Sm b) : ∃ n : Int, (n = 0 ↔ a = b) ∧ ∀ (σ : Heap) (pc : Bool) (k : PV → Heap → Option R), callK C (Hw C X) σ pc (.fn 91 []) [encL 1 cU32 a, encL 1 cU32 b] k = k (.int .i64 n) σ := by
  obtain ⟨n, h1, h2⟩ := words_ok X a b hb hb'
  exact ⟨n, h2, fun σ pc k => callK_pure C91 rfl (by simp only [pureL, encL_pure (fun x _ => cU32_pure x), Bool.and_self]) (by simp only [p91, canonA, canon_sl]) h1⟩
end Go.Proofs.YtkpbfldnickghaaDoor
set_option linter.unusedVariables false
set_option linter.unusedSimpArgs false
namespace Go.Proofs.YtkpbfldnickghaaDoor
open Go Go.PE
theorem loadP_all {sz : Nat} {cs : List PV} (h : cs.length = sz) : loadP true sz cs = some (.agg cs) := by
  rw [loadP_agg sz cs (by omega), List.take_of_length_le (by omega)]
theorem ld1 (o : PE.Obj) (cs : List PV) (σ : Heap) (a : Bool) (sz off : Nat) : loadV (o :: .box cs :: σ) a sz (.ptr 1 off) = loadP a sz (cs.drop off) := rfl
def Cmp (X : Ext) (a b : TNode) : Prop := ∃ n : Int, (Hw C X).pure 72 [.agg a.c, .agg b.c] = some [.int .i64 n] ∧ (n = 0 ↔ a = b)
theorem cmp_call {R : Type} {X : Ext} {a b : TNode} (h : Cmp X a b) : ∃ n : Int, (n = 0 ↔ a = b) ∧ ∀ (σ : Heap) (pc : Bool) (k : PV → Heap → Option R), callK C (Hw C X) σ pc (.fn 72 []) [.agg a.c, .agg b.c] k = k (.int .i64 n) σ := by
  obtain ⟨n, h1, h2⟩ := h
  exact ⟨n, h2, fun σ pc k => callK_pure C72 rfl (by simp only [pureL, PV.pure, TNode.pure, Bool.and_self]) (by simp only [p72, canonA, canonV, TNode.canon]) h1⟩
theorem L72 (X : Ext) (u v : List PV) (hu : u.length = 5) (hv : v.length = 5) (ks ks' : List TNode) (hb : Sm ks) (hl : ks.length = ks'.length) (IH : ∀ x ∈ ks, ∀ y ∈ ks', Cmp X x y) :
    ∀ (n i : Nat), i + n = ks.length → ∃ m : Int, L72_1 X (.ptr 0 0) (.ptr 1 0) (.int .i64 (ks.length : Nat)) (.int .i64 i) [.box (u ++ [encL 6 TNode.c ks]), .box (v ++ [encL 6 TNode.c ks'])] = some [.int .i64 m] ∧ (m = 0 ↔ ks.drop i = ks'.drop i)
  | 0, i, h => by
    have h1 : ks.drop i = [] := List.drop_eq_nil_of_le (by omega)
    have h2 : ks'.drop i = [] := List.drop_eq_nil_of_le (by omega)
    refine ⟨0, ?_, by simp [h1, h2]⟩
    rw [L72_1_eq]
    simp [show ¬ (i < ks.length) by omega]
    rfl
  | n + 1, i, h => by
    unfold Sm at hb
    have hi : i < ks.length := by omega
    have hi' : i < ks'.length := by omega
    have hd := drop_eq_iff hi hi'
    obtain ⟨m, ih, hm⟩ := L72 X u v hu hv ks ks' hb hl IH n (i + 1) (by omega)
    obtain ⟨n1, hn1, hc1⟩ := cmp_call (R := List PV) (IH ks[i] (by simp) ks'[i] (by simp))
    have d5 : List.drop 5 (u ++ [encL 6 TNode.c ks]) = [encL 6 TNode.c ks] := by simp [← hu]
    have d5' : List.drop 5 (v ++ [encL 6 TNode.c ks']) = [encL 6 TNode.c ks'] := by simp [← hv]
    rw [L72_1_eq]
    by_cases hc : n1 = 0
    · refine ⟨m, ?_, by rw [hm, hd]; simp [hn1.1 hc]⟩
      simp [hi, hi', iaddr_enc, ld1, d5, d5', loadP_all (TNode.len _), hc1, hc, wrap_succ (show i < 9223372036854775807 by omega)]
      simpa using ih
    · refine ⟨n1, ?_, by rw [hd]; constructor <;> intro h; exact absurd h hc; exact absurd (hn1.2 h.1) hc⟩
      simp [hi, hi', iaddr_enc, ld1, d5, d5', loadP_all (TNode.len _), hc1, hc]
      rfl
theorem cmp_ok (X : Ext) : ∀ (a b : TNode), a.ok → b.ok → Cmp X a b
  | .mk op name num kids, .mk op' name' num' kids', ha, hb => by
    obtain ⟨⟨ha1, ha2⟩, ha3, ha4⟩ := ha
    obtain ⟨⟨hb1, hb2⟩, hb3, hb4⟩ := hb
    rw [TNode.oks_iff] at ha4 hb4
    obtain ⟨n1, hn1, hw1⟩ := call91 (R := List PV) X num.num num'.num ha1 hb1
    obtain ⟨n2, hn2, hw2⟩ := call91 (R := List PV) X num.den num'.den ha2 hb2
    have IH : ∀ x ∈ kids, ∀ y ∈ kids', Cmp X x y := fun x hx y hy => by
      have := List.sizeOf_lt_of_mem hx
      exact cmp_ok X x y (ha4 x hx) (hb4 y hy)
    have hL := fun hl => L72 X [.int .i64 op, .str name, .bool num.neg, encL 1 cU32 num.num, encL 1 cU32 num.den] [.int .i64 op', .str name', .bool num'.neg, encL 1 cU32 num'.num, encL 1 cU32 num'.den] rfl rfl kids kids' ha3 hl IH kids.length 0 (by omega)
    obtain ⟨neg, nu, de⟩ := num
    obtain ⟨neg', nu', de'⟩ := num'
    unfold Cmp
    rw [F72]
    simp only [TNode.c_eq]
    by_cases h1 : op = op'
    · by_cases h2 : name = name'
      · by_cases h3 : neg = neg'
        · by_cases h4 : n1 = 0
          · by_cases h5 : n2 = 0
            · by_cases h6 : kids.length = kids'.length
              · obtain ⟨m, hm, hm'⟩ := hL h6
                refine ⟨m, ?_, ?_⟩
                · simp [h1, h2, h3, h4, h5, h6, ld1, hw1, hw2] at hm ⊢
                  exact hm
                · have e1 : nu = nu' := hn1.1 h4
                  have e2 : de = de' := hn2.1 h5
                  rw [hm']; simp [h1, h2, h3, e1, e2]
              · refine ⟨if kids.length < kids'.length then -1 else 1, ?_, ?_⟩
                · simp [h1, h2, h3, h4, h5, h6, ld1, hw1, hw2, call90]
                  split <;> rfl
                · constructor
                  · intro h; split at h <;> cases h
                  · intro h; simp only [TNode.mk.injEq] at h; exact absurd (by rw [h.2.2.2]) h6
            · refine ⟨n2, ?_, ?_⟩
              · simp [h1, h2, h3, h4, h5, ld1, hw1, hw2]
                rfl
              · constructor
                · intro h; exact absurd h h5
                · intro h; simp only [TNode.mk.injEq, TRat.mk.injEq] at h; exact hn2.2 h.2.2.1.2.2
          · refine ⟨n1, ?_, ?_⟩
            · simp [h1, h2, h3, h4, ld1, hw1, hw2]
              rfl
            · constructor
              · intro h; exact absurd h h4
              · intro h; simp only [TNode.mk.injEq, TRat.mk.injEq] at h; exact hn1.2 h.2.2.1.2.1
        · refine ⟨if neg' = true then -1 else 1, ?_, ?_⟩
          · simp [h1, h2, h3, ld1, call90]
            split <;> rfl
          · constructor
            · intro h; split at h <;> cases h
            · intro h; simp only [TNode.mk.injEq, TRat.mk.injEq] at h; exact absurd h.2.2.1.1 h3
      · refine ⟨if Op.bytesLess name name' = true then -1 else 1, ?_, ?_⟩
        · simp [h1, h2, ld1, call90]
          split <;> rfl
        · constructor
          · intro h; split at h <;> cases h
          · intro h; simp only [TNode.mk.injEq] at h; exact absurd h.2.1 h2
    · refine ⟨if op < op' then -1 else 1, ?_, ?_⟩
      · simp [h1, ld1, call90]
        split <;> rfl
      · constructor
        · intro h; split at h <;> cases h
        · intro h; simp only [TNode.mk.injEq] at h; exact absurd h.1 h1
termination_by a => SizeOf.sizeOf a
end Go.Proofs.YtkpbfldnickghaaDoor
set_option linter.unusedVariables false
set_option linter.unusedSimpArgs false
namespace Go.Proofs.YtkpbfldnickghaaDoor
open Go Go.PE
theorem eq_ok (X : Ext) (a b : TNode) (ha : a.ok) (hb : b.ok) : (Hw C X).pure 61 [.agg a.c, .agg b.c] = some [.bool (eqb a b)] := by
  obtain ⟨n, hn, hc⟩ := cmp_call (R := List PV) (cmp_ok X a b ha hb)
  rw [F61]
  simp [ld1, loadP_all (TNode.len _), hc]
  by_cases h : a = b
  · rw [eqb_eq h, hn.2 h]; rfl
  · rw [eqb_ne h, decide_eq_false (fun e => h (hn.1 e))]; rfl
theorem call61 {R : Type} (X : Ext) (a b : TNode) (ha : a.ok) (hb : b.ok) (σ : Heap) (pc : Bool) (k : PV → Heap → Option R) : callK C (Hw C X) σ pc (.fn 61 []) [.agg a.c, .agg b.c] k = k (.bool (eqb a b)) σ :=
  callK_pure C61 rfl (by simp only [pureL, PV.pure, TNode.pure, Bool.and_self]) (by simp only [p61, canonA, canonV, TNode.canon]) (eq_ok X a b ha hb)
theorem L45 (X : Ext) (xs ys : List TNode) (hl : xs.length = ys.length) (hx : TNodes.ok xs) (hy : TNodes.ok ys) : ∀ (n i : Nat), i + n = xs.length → L45_1 X (encL 6 TNode.c xs) (encL 6 TNode.c ys) (.int .i64 (xs.length : Nat)) (.int .i64 i) [] = some [.bool (eqb (xs.drop i) (ys.drop i))]
  | 0, i, h => by
    rw [L45_1_eq]
    have h1 : xs.drop i = [] := List.drop_eq_nil_of_le (by omega)
    have h2 : ys.drop i = [] := List.drop_eq_nil_of_le (by omega)
    simp [h1, h2, show ¬ (i < xs.length) by omega, eqb_eq]
    rfl
  | n + 1, i, h => by
    rw [L45_1_eq]
    have hb := hx.1
    unfold Sm at hb
    have hi : i < xs.length := by omega
    have hi' : i < ys.length := by omega
    have ih := L45 X xs ys hl hx hy n (i + 1) (by omega)
    have hd := drop_eq_iff hi hi'
    have hcl := fun σ pc (k : PV → Heap → Option (List PV)) => call61 X xs[i] ys[i] (hx.2 _ (by simp)) (hy.2 _ (by simp)) σ pc k
    by_cases hc : xs[i] = ys[i]
    · simp [hi, iaddr_enc, hi', loadP_all (TNode.len _), hcl, eqb_eq hc, wrap_succ (show i < 9223372036854775807 by omega)]
      have : eqb (xs.drop i) (ys.drop i) = eqb (xs.drop (i + 1)) (ys.drop (i + 1)) := by simp [eqb, hd, hc]
      rw [this]
      simpa using ih
    · simp [hi, iaddr_enc, hi', loadP_all (TNode.len _), hcl, eqb_ne hc, eqb_ne (fun e => hc (hd.1 e).1)]
      rfl
theorem nodes_ok (X : Ext) (xs ys : List TNode) (hx : TNodes.ok xs) (hy : TNodes.ok ys) : (Hw C X).pure 45 [encL 6 TNode.c xs, encL 6 TNode.c ys] = some [.bool (eqb xs ys)] := by
  rw [F45]
  by_cases hl : xs.length = ys.length
  · simp [hl]
    have := L45 X xs ys hl hx hy xs.length 0 (by omega)
    simpa [hl] using this
  · have hne : xs ≠ ys := fun e => hl (by rw [e])
    simp [hl, eqb_ne hne]
    rfl
end Go.Proofs.YtkpbfldnickghaaDoor
set_option linter.unusedVariables false
set_option linter.unusedSimpArgs false
namespace Go.Proofs.YtkpbfldnickghaaDoor
open Go Go.PE
theorem rat_node (σ : Heap) (r : TRat) : evPrim [] σ (.build [(.int .i64 0), (.str []), (.bool false), .nils, .nils, .nils] [(2, 3, (.cst (.agg r.c)))]) = some (.agg [.int .i64 0, .str [], .bool r.neg, encL 1 cU32 r.num, encL 1 cU32 r.den, .nils], σ) := by
  simp [evPrim, fillP, Opd.ev, PV.cells?, TRat.c]
theorem rats_ok (X : Ext) (a b : TRat) (ha : a.ok) (hb : b.ok) : (Hw C X).pure 62 [.agg a.c, .agg b.c] = some [.bool (eqb a b)] := by
  have e2 : eqb (TNode.mk 0 [] a []) (TNode.mk 0 [] b []) = eqb a b := by simp [eqb]
  have h1 := eq_ok X (.mk 0 [] a []) (.mk 0 [] b []) ⟨ha, by simp [Sm], trivial⟩ ⟨hb, by simp [Sm], trivial⟩
  rw [e2] at h1
  have e3 : ∀ r : TRat, canonV [none, none, none, some 1, some 1, some 6] (.agg [.int .i64 0, .str [], .bool r.neg, encL 1 cU32 r.num, encL 1 cU32 r.den, .nils]) = .agg (TNode.mk 0 [] r []).c := fun r => by
    simp only [canonV, canonL, canon1_none, canon1_encL]; rfl
  have hcl : ∀ σ pc (k : PV → Heap → Option (List PV)), callK C (Hw C X) σ pc (.fn 61 []) [.agg [.int .i64 0, .str [], .bool a.neg, encL 1 cU32 a.num, encL 1 cU32 a.den, .nils], .agg [.int .i64 0, .str [], .bool b.neg, encL 1 cU32 b.num, encL 1 cU32 b.den, .nils]] k = k (.bool (eqb a b)) σ := fun σ pc k =>
    callK_pure2 C61 rfl (by simp only [pureL, PV.pure, encL_pure (fun x _ => cU32_pure x), Bool.and_self]) (by simp only [p61, canonA, e3]) h1
  rw [F62]
  simp [ld1, loadP_all (TRat.len _), rat_node, hcl]
  cases eqb a b <;> rfl
theorem call62 {R : Type} (X : Ext) (a b : TRat) (ha : a.ok) (hb : b.ok) (σ : Heap) (pc : Bool) (k : PV → Heap → Option R) : callK C (Hw C X) σ pc (.fn 62 []) [.agg a.c, .agg b.c] k = k (.bool (eqb a b)) σ :=
  callK_pure C62 rfl (by simp only [pureL, PV.pure, TRat.pure, Bool.and_self]) (by simp only [p62, canonA, canonV, TRat.canon]) (rats_ok X a b ha hb)
theorem call27 {R : Type} (X : Ext) (a b : List Int) (ha : Sm a) (σ : Heap) (pc : Bool) (k : PV → Heap → Option R) : callK C (Hw C X) σ pc (.fn 27 []) [encL 1 cInt a, encL 1 cInt b] k = k (.bool (eqb a b)) σ :=
  callK_pure C27 rfl (by simp only [pureL, encL_pure (fun x _ => cInt_pure x), Bool.and_self]) (by simp only [p27, canonA, canon_sl]) (ints_ok X a b ha)
theorem call45 {R : Type} (X : Ext) (a b : List TNode) (ha : TNodes.ok a) (hb : TNodes.ok b) (σ : Heap) (pc : Bool) (k : PV → Heap → Option R) : callK C (Hw C X) σ pc (.fn 45 []) [encL 6 TNode.c a, encL 6 TNode.c b] k = k (.bool (eqb a b)) σ :=
  callK_pure C45 rfl (by simp only [pureL, encL_pure (fun x _ => TNode.pure x), Bool.and_self]) (by simp only [p45, canonA, canon_sl]) (nodes_ok X a b ha hb)
end Go.Proofs.YtkpbfldnickghaaDoor
set_option linter.unusedVariables false
set_option linter.unusedSimpArgs false
namespace Go.Proofs.YtkpbfldnickghaaDoor
open Go Go.PE
theorem L63 (X : Ext) (p q : TPoly) (hp : p.ok) (hq : q.ok) (hl : p.terms.length = q.terms.length) (σ : Heap) (hσ : σ[1]? = some (.box q.c)) :
    L63_1 X (.ptr 1 0) (encL 4 TMono.c p.terms) (.int .i64 (p.terms.length : Nat)) (.int .i64 (0 : Nat)) σ = some [.bool (eqb p.terms q.terms)] := by
  have hb := hp.1
  unfold Sm at hb
  have d1 : List.drop 1 q.c = [encL 4 TMono.c q.terms] := rfl
  refine all_loop_bool (I := fun σ => σ[1]? = some (.box q.c)) (L := fun i σ => L63_1 X (.ptr 1 0) (encL 4 TMono.c p.terms) (.int .i64 (p.terms.length : Nat)) (.int .i64 (i : Nat)) σ) hl ?_ ?_ ?_ hσ
  · intro σ hσ
    try simp only
    rw [L63_1_eq]
    simp
    rfl
  · intro i hi hi' σ hσ hc
    have hlt : 1 < σ.length := (List.getElem?_eq_some_iff.1 hσ).1
    have hm := hp.2 p.terms[i] (by simp)
    have hm' := hq.2 q.terms[i] (by simp)
    refine ⟨σ ++ [.box p.terms[i].c], by rw [List.getElem?_append_left hlt]; exact hσ, ?_⟩
    have e0 : ∀ m : TMono, loadP false 1 m.c = some (encL 1 cInt m.exps) := fun _ => rfl
    have e1 : ∀ m : TMono, List.drop 1 m.c = m.coef.c := fun _ => rfl
    try simp only
    rw [L63_1_eq]
    simp [hi, hi', iaddr_enc, loadP_all (TMono.len _), loadP_all (TRat.len _), storeV_last (sz := 4) (cs := [.nils, .bool false, .nils, .nils]) rfl (TMono.len _) (TMono.scal _), loadV_last, loadV_prev hlt, loadV_ptr hσ, d1, e0, e1, ← hc, call27 X _ _ hm.1, call62 X _ _ hm.2 hm.2, eqb_eq, wrap_succ (show i < 9223372036854775807 by omega)]
  · intro i hi hi' σ hσ hc
    have hlt : 1 < σ.length := (List.getElem?_eq_some_iff.1 hσ).1
    have hm := hp.2 p.terms[i] (by simp)
    have hm' := hq.2 q.terms[i] (by simp)
    have e0 : ∀ m : TMono, loadP false 1 m.c = some (encL 1 cInt m.exps) := fun _ => rfl
    have e1 : ∀ m : TMono, List.drop 1 m.c = m.coef.c := fun _ => rfl
    try simp only
    rw [L63_1_eq]
    by_cases h1 : p.terms[i].exps = q.terms[i].exps
    · have h2 : p.terms[i].coef ≠ q.terms[i].coef := fun h2 => hc (by
        generalize p.terms[i] = a at h1 h2
        generalize q.terms[i] = b at h1 h2
        cases a; cases b; simp_all)
      simp [hi, hi', iaddr_enc, loadP_all (TMono.len _), loadP_all (TRat.len _), storeV_last (sz := 4) (cs := [.nils, .bool false, .nils, .nils]) rfl (TMono.len _) (TMono.scal _), loadV_last, loadV_prev hlt, loadV_ptr hσ, d1, e0, e1, call27 X _ _ hm.1, call62 X _ _ hm.2 hm'.2, eqb_eq h1, eqb_ne h2]
      rfl
    · simp [hi, hi', iaddr_enc, loadP_all (TMono.len _), loadP_all (TRat.len _), storeV_last (sz := 4) (cs := [.nils, .bool false, .nils, .nils]) rfl (TMono.len _) (TMono.scal _), loadV_last, loadV_prev hlt, loadV_ptr hσ, d1, e0, e1, call27 X _ _ hm.1, eqb_ne h1]
      rfl
theorem polys_ok (X : Ext) (p q : TPoly) (hp : p.ok) (hq : q.ok) : (Hw C X).pure 63 [.agg p.c, .agg q.c] = some [.bool (eqb p q)] := by
  have f0 : ∀ p : TPoly, loadP false 1 p.c = some (.int .i64 p.n) := fun _ => rfl
  have f1 : ∀ p : TPoly, List.drop 1 p.c = [encL 4 TMono.c p.terms] := fun _ => rfl
  rw [F63]
  by_cases h1 : p.n = q.n
  · by_cases h2 : p.terms.length = q.terms.length
    · have hL := L63 X p q hp hq h2 [.box p.c, .box q.c] rfl
      have : eqb p q = eqb p.terms q.terms := by
        obtain ⟨n, t⟩ := p
        obtain ⟨n', t'⟩ := q
        simp only at h1
        simp [eqb, h1]
      rw [this]
      simp [ld1, f0, f1, h1, h2]
      simpa [h2] using hL
    · have : p ≠ q := fun e => h2 (by rw [e])
      simp [ld1, f0, f1, h1, h2, eqb_ne this]
      rfl
  · have : p ≠ q := fun e => h1 (by rw [e])
    simp [ld1, f0, f1, h1, eqb_ne this]
    rfl
theorem call63 {R : Type} (X : Ext) (a b : TPoly) (ha : a.ok) (hb : b.ok) (σ : Heap) (pc : Bool) (k : PV → Heap → Option R) : callK C (Hw C X) σ pc (.fn 63 []) [.agg a.c, .agg b.c] k = k (.bool (eqb a b)) σ :=
  callK_pure C63 rfl (by simp only [pureL, PV.pure, TPoly.pure, Bool.and_self]) (by simp only [p63, canonA, canonV, TPoly.canon]) (polys_ok X a b ha hb)
end Go.Proofs.YtkpbfldnickghaaDoor
set_option linter.unusedVariables false
set_option linter.unusedSimpArgs false
namespace Go.Proofs.YtkpbfldnickghaaDoor
open Go Go.PE
theorem texts_ok (X : Ext) (xs ys : List Str) (hb : Sm xs) : (Hw C X).pure 47 [encL 1 cStr xs, encL 1 cStr ys] = some [.bool (eqb xs ys)] := by
  unfold Sm at hb
  rw [F47]
  by_cases hl : xs.length = ys.length
  · have hL : L47_1 X (encL 1 cStr xs) (encL 1 cStr ys) (.int .i64 (xs.length : Nat)) (.int .i64 (0 : Nat)) [] = some [.bool (eqb xs ys)] := by
      refine all_loop_bool (I := fun σ => True) (L := fun i σ => L47_1 X (encL 1 cStr xs) (encL 1 cStr ys) (.int .i64 (xs.length : Nat)) (.int .i64 (i : Nat)) σ) hl ?_ ?_ ?_ trivial
      · intro σ _
        try simp only
        rw [L47_1_eq]
        simp
        rfl
      · intro i hi hi' σ _ hc
        refine ⟨σ, trivial, ?_⟩
        try simp only
        rw [L47_1_eq]
        simp [hi, hi', iaddr_enc, cStr, hc, wrap_succ (show i < 9223372036854775807 by omega)]
      · intro i hi hi' σ _ hc
        try simp only
        rw [L47_1_eq]
        simp [hi, hi', iaddr_enc, cStr, hc]
        rfl
    simp [hl]
    simpa [hl] using hL
  · have hne : xs ≠ ys := fun e => hl (by rw [e])
    simp [hl, eqb_ne hne]
    rfl
theorem call47 {R : Type} (X : Ext) (a b : List Str) (ha : Sm a) (σ : Heap) (pc : Bool) (k : PV → Heap → Option R) : callK C (Hw C X) σ pc (.fn 47 []) [encL 1 cStr a, encL 1 cStr b] k = k (.bool (eqb a b)) σ :=
  callK_pure C47 rfl (by simp only [pureL, encL_pure (fun x _ => cStr_pure x), Bool.and_self]) (by simp only [p47, canonA, canon_sl]) (texts_ok X a b ha)
theorem pa0 (p : TPair) : loadP true 6 p.c = some (.agg p.what.c) := by
  obtain ⟨⟨o, n, r, k⟩, ⟨o', n', r', k'⟩, l⟩ := p
  simp only [TPair.c, TNode.c_eq]
  rfl
theorem pa6 (p : TPair) : loadP true 6 (p.c.drop 6) = some (.agg p.with_.c) := by
  obtain ⟨⟨o, n, r, k⟩, ⟨o', n', r', k'⟩, l⟩ := p
  simp only [TPair.c, TNode.c_eq]
  rfl
theorem pa12 (p : TPair) : loadP false 1 (p.c.drop 12) = some (encL 6 TNode.c p.rates) := by
  obtain ⟨⟨o, n, r, k⟩, ⟨o', n', r', k'⟩, l⟩ := p
  simp only [TPair.c, TNode.c_eq]
  rfl
theorem st13 (σ : Heap) (p : TPair) : storeV (σ ++ [.box [(.int .i64 0), (.str []), (.bool false), .nils, .nils, .nils, (.int .i64 0), (.str []), (.bool false), .nils, .nils, .nils, .nils]]) 13 (.ptr σ.length 0) (.agg p.c) = some (σ ++ [.box p.c]) :=
  storeV_last rfl (TPair.len p) (TPair.scal p)
theorem two_last (σ : Heap) (cs ds : List PV) (a : Bool) (sz off : Nat) : loadV (σ ++ [.box cs] ++ [.box ds]) a sz (.ptr σ.length off) = loadP a sz (cs.drop off) := by
  rw [loadV_prev (by simp), loadV_last]
theorem pairs_ok (X : Ext) (xs ys : List TPair) (hx : Sm xs ∧ ∀ p ∈ xs, p.ok) (hy : Sm ys ∧ ∀ p ∈ ys, p.ok) : (Hw C X).pure 46 [encL 13 TPair.c xs, encL 13 TPair.c ys] = some [.bool (eqb xs ys)] := by
  obtain ⟨hb, hx⟩ := hx
  unfold Sm at hb
  rw [F46]
  by_cases hl : xs.length = ys.length
  · have hL : L46_1 X (encL 13 TPair.c ys) (encL 13 TPair.c xs) (.int .i64 (xs.length : Nat)) (.int .i64 (0 : Nat)) [] = some [.bool (eqb xs ys)] := by
      refine all_loop_bool (I := fun σ => True) (L := fun i σ => L46_1 X (encL 13 TPair.c ys) (encL 13 TPair.c xs) (.int .i64 (xs.length : Nat)) (.int .i64 (i : Nat)) σ) hl ?_ ?_ ?_ trivial
      · intro σ _
        try simp only
        rw [L46_1_eq]
        simp
        rfl
      · intro i hi hi' σ _ hc
        obtain ⟨k1, k2, k3⟩ := hx xs[i] (by simp)
        refine ⟨σ ++ [.box xs[i].c] ++ [.box ys[i].c], trivial, ?_⟩
        try simp only
        rw [L46_1_eq, ← hc]
        simp only [bin_lss, iaddr_enc _ _ hi, iaddr_enc _ _ hi', Option.bind_some, loadV_cref, loadP_all (TPair.len _), st13, faddrV_ptr, Nat.zero_add, two_last, loadV_last, List.drop_zero, pa0, pa6, pa12, ← hc, call61 X _ _ k1 k1, call61 X _ _ k2 k2, call45 X _ _ k3 k3, eqb_eq, not_bool, Bool.not_true, guardR_yes, nthV_zero, nthV_succ, pickV_false, condK_false, bin_add, wrap_succ (show i < 9223372036854775807 by omega)]
        simp [hi]
      · intro i hi hi' σ _ hc
        obtain ⟨k1, k2, k3⟩ := hx xs[i] (by simp)
        obtain ⟨m1, m2, m3⟩ := hy.2 ys[i] (by simp)
        try simp only
        rw [L46_1_eq]
        by_cases h1 : xs[i].what = ys[i].what
        · by_cases h2 : xs[i].with_ = ys[i].with_
          · have h3 : xs[i].rates ≠ ys[i].rates := fun h3 => hc (by
              generalize xs[i] = a at h1 h2 h3
              generalize ys[i] = b at h1 h2 h3
              cases a; cases b; simp_all)
            simp only [bin_lss, iaddr_enc _ _ hi, iaddr_enc _ _ hi', Option.bind_some, loadV_cref, loadP_all (TPair.len _), st13, faddrV_ptr, Nat.zero_add, two_last, loadV_last, List.drop_zero, pa0, pa6, pa12, call61 X _ _ k1 m1, call61 X _ _ k2 m2, call45 X _ _ k3 m3, not_bool, Bool.not_true, Bool.not_false, guardR_yes, guardR_tf, guardR_ft, nthV_zero, nthV_succ, pickV_false, pickV_true, condK_false, condK_true, eqb_eq h1, eqb_eq h2, eqb_ne h3]
            simp [hi]
            rfl
          · simp only [bin_lss, iaddr_enc _ _ hi, iaddr_enc _ _ hi', Option.bind_some, loadV_cref, loadP_all (TPair.len _), st13, faddrV_ptr, Nat.zero_add, two_last, loadV_last, List.drop_zero, pa0, pa6, pa12, call61 X _ _ k1 m1, call61 X _ _ k2 m2, call45 X _ _ k3 m3, not_bool, Bool.not_true, Bool.not_false, guardR_yes, guardR_tf, guardR_ft, nthV_zero, nthV_succ, pickV_false, pickV_true, condK_false, condK_true, eqb_eq h1, eqb_ne h2]
            simp [hi]
            rfl
        · simp only [bin_lss, iaddr_enc _ _ hi, iaddr_enc _ _ hi', Option.bind_some, loadV_cref, loadP_all (TPair.len _), st13, faddrV_ptr, Nat.zero_add, two_last, loadV_last, List.drop_zero, pa0, pa6, pa12, call61 X _ _ k1 m1, call61 X _ _ k2 m2, call45 X _ _ k3 m3, not_bool, Bool.not_true, Bool.not_false, guardR_yes, guardR_tf, guardR_ft, nthV_zero, nthV_succ, pickV_false, pickV_true, condK_false, condK_true, eqb_ne h1]
          simp [hi]
          rfl
    simp [hl]
    simpa [hl] using hL
  · have hne : xs ≠ ys := fun e => hl (by rw [e])
    simp [hl, eqb_ne hne]
    rfl
theorem call46 {R : Type} (X : Ext) (a b : List TPair) (ha : Sm a ∧ ∀ p ∈ a, p.ok) (hb : Sm b ∧ ∀ p ∈ b, p.ok) (σ : Heap) (pc : Bool) (k : PV → Heap → Option R) : callK C (Hw C X) σ pc (.fn 46 []) [encL 13 TPair.c a, encL 13 TPair.c b] k = k (.bool (eqb a b)) σ :=
  callK_pure C46 rfl (by simp only [pureL, encL_pure (fun x _ => TPair.pure x), Bool.and_self]) (by simp only [p46, canonA, canon_sl]) (pairs_ok X a b ha hb)
end Go.Proofs.YtkpbfldnickghaaDoor
set_option linter.unusedVariables false
set_option linter.unusedSimpArgs false
namespace Go.Proofs.YtkpbfldnickghaaDoor
open Go Go.PE
theorem cd1 (kind : Int) (nums : List TRat) (polys : List TPoly) (squares : List TSquare) (kids : List TCert) : List.drop 1 (TCert.mk kind nums polys squares kids).c = [encL 3 TRat.c nums, encL 2 TPoly.c polys, encL 5 TSquare.c squares, encL 5 TCert.c kids] := by rw [TCert.c_eq]; rfl
theorem call48 {R : Type} (X : Ext) {a b : TCert} {r : Bool} (h : (Hw C X).pure 48 [.agg a.c, .agg b.c] = some [.bool r]) (σ : Heap) (pc : Bool) (k : PV → Heap → Option R) : callK C (Hw C X) σ pc (.fn 48 []) [.agg a.c, .agg b.c] k = k (.bool r) σ :=
  callK_pure C48 rfl (by simp only [pureL, PV.pure, TCert.pure, Bool.and_self]) (by simp only [p48, canonA, canonV, TCert.canon]) h
/-- The cells of a certificate. -/
def cc (kind : Int) (nums : List TRat) (polys : List TPoly) (squares : List TSquare) (kids : List TCert) : List PV := [.int .i64 kind, encL 3 TRat.c nums, encL 2 TPoly.c polys, encL 5 TSquare.c squares, encL 5 TCert.c kids]
section
variable (X : Ext) {kind kind' : Int} {nums nums' : List TRat} {polys polys' : List TPoly} {squares squares' : List TSquare} {kids kids' : List TCert}
theorem L48a (hb : Sm kids) (hl : kids.length = kids'.length) (IH : ∀ x ∈ kids, ∀ y ∈ kids', (Hw C X).pure 48 [.agg x.c, .agg y.c] = some [.bool (eqb x y)]) :
    L48_1 X (.ptr 0 0) (.ptr 1 0) (.int .i64 (kids.length : Nat)) (.int .i64 (0 : Nat)) [.box (cc kind nums polys squares kids), .box (cc kind' nums' polys' squares' kids')] = some [.bool (eqb kids kids')] := by
  unfold Sm at hb
  refine all_loop_bool (I := fun σ => σ = [.box (cc kind nums polys squares kids), .box (cc kind' nums' polys' squares' kids')]) (L := fun i σ => L48_1 X (.ptr 0 0) (.ptr 1 0) (.int .i64 (kids.length : Nat)) (.int .i64 (i : Nat)) σ) hl ?_ ?_ ?_ rfl
  · rintro σ rfl
    try simp only
    rw [L48_1_eq]
    simp
    rfl
  · rintro i hi hi' σ rfl hc
    refine ⟨_, rfl, ?_⟩
    try simp only
    rw [L48_1_eq]
    simp [hi, hi', iaddr_enc, ld1, cc, loadP_all (TCert.len _), call48 X (IH _ (List.getElem_mem hi) _ (List.getElem_mem hi')), eqb_eq hc, wrap_succ (show i < 9223372036854775807 by omega)]
  · rintro i hi hi' σ rfl hc
    try simp only
    rw [L48_1_eq]
    simp [hi, hi', iaddr_enc, ld1, cc, loadP_all (TCert.len _), call48 X (IH _ (List.getElem_mem hi) _ (List.getElem_mem hi')), eqb_ne hc]
    rfl
theorem L48c (hb : Sm polys) (hl : polys.length = polys'.length) (h1 : ∀ p ∈ polys, p.ok) (h2 : ∀ p ∈ polys', p.ok) {r : Bool} (hT : J48_5 X (.ptr 0 0) (.ptr 1 0) [.box (cc kind nums polys squares kids), .box (cc kind' nums' polys' squares' kids')] = some [.bool r]) :
    L48_4 X (.ptr 0 0) (.ptr 1 0) (.int .i64 (polys.length : Nat)) (.int .i64 (0 : Nat)) [.box (cc kind nums polys squares kids), .box (cc kind' nums' polys' squares' kids')] = some [.bool (eqb polys polys' && r)] := by
  unfold Sm at hb
  obtain ⟨k1, k2⟩ := all_loop (F := some [.bool false]) (T := fun _ => some [.bool r]) (I := fun σ => σ = [.box (cc kind nums polys squares kids), .box (cc kind' nums' polys' squares' kids')]) (L := fun i σ => L48_4 X (.ptr 0 0) (.ptr 1 0) (.int .i64 (polys.length : Nat)) (.int .i64 (i : Nat)) σ) hl (by
    rintro σ rfl
    try simp only
    rw [L48_4_eq]
    simp [hT]) (by
    rintro i hi hi' σ rfl hc
    refine ⟨_, rfl, ?_⟩
    try simp only
    rw [L48_4_eq]
    simp [hi, hi', iaddr_enc, ld1, cc, loadP_all (TPoly.len _), call63 X _ _ (h1 _ (List.getElem_mem hi)) (h2 _ (List.getElem_mem hi')), eqb_eq hc, wrap_succ (show i < 9223372036854775807 by omega)]) (by
    rintro i hi hi' σ rfl hc
    try simp only
    rw [L48_4_eq]
    simp [hi, hi', iaddr_enc, ld1, cc, loadP_all (TPoly.len _), call63 X _ _ (h1 _ (List.getElem_mem hi)) (h2 _ (List.getElem_mem hi')), eqb_ne hc]
    rfl) rfl
  by_cases h : polys = polys'
  · obtain ⟨_, _, h3⟩ := k1 h
    rw [eqb_eq h, Bool.true_and]; exact h3
  · rw [eqb_ne h]; exact k2 h
theorem L48d (hb : Sm nums) (hl : nums.length = nums'.length) (h1 : ∀ p ∈ nums, p.ok) (h2 : ∀ p ∈ nums', p.ok) {r : Bool} (hT : J48_7 X (.ptr 0 0) (.ptr 1 0) [.box (cc kind nums polys squares kids), .box (cc kind' nums' polys' squares' kids')] = some [.bool r]) :
    L48_6 X (.ptr 0 0) (.ptr 1 0) (.int .i64 (nums.length : Nat)) (.int .i64 (0 : Nat)) [.box (cc kind nums polys squares kids), .box (cc kind' nums' polys' squares' kids')] = some [.bool (eqb nums nums' && r)] := by
  unfold Sm at hb
  obtain ⟨k1, k2⟩ := all_loop (F := some [.bool false]) (T := fun _ => some [.bool r]) (I := fun σ => σ = [.box (cc kind nums polys squares kids), .box (cc kind' nums' polys' squares' kids')]) (L := fun i σ => L48_6 X (.ptr 0 0) (.ptr 1 0) (.int .i64 (nums.length : Nat)) (.int .i64 (i : Nat)) σ) hl (by
    rintro σ rfl
    try simp only
    rw [L48_6_eq]
    simp [hT]) (by
    rintro i hi hi' σ rfl hc
    refine ⟨_, rfl, ?_⟩
    try simp only
    rw [L48_6_eq]
    simp [hi, hi', iaddr_enc, ld1, cc, loadP_all (TRat.len _), call62 X _ _ (h1 _ (List.getElem_mem hi)) (h2 _ (List.getElem_mem hi')), eqb_eq hc, wrap_succ (show i < 9223372036854775807 by omega)]) (by
    rintro i hi hi' σ rfl hc
    try simp only
    rw [L48_6_eq]
    simp [hi, hi', iaddr_enc, ld1, cc, loadP_all (TRat.len _), call62 X _ _ (h1 _ (List.getElem_mem hi)) (h2 _ (List.getElem_mem hi')), eqb_ne hc]
    rfl) rfl
  by_cases h : nums = nums'
  · obtain ⟨_, _, h3⟩ := k1 h
    rw [eqb_eq h, Bool.true_and]; exact h3
  · rw [eqb_ne h]; exact k2 h
theorem sq0 (s : TSquare) : loadP true 3 s.c = some (.agg s.weight.c) := rfl
theorem sq3 (s : TSquare) : loadP true 2 (s.c.drop 3) = some (.agg s.poly.c) := rfl
theorem L48b (hb : Sm squares) (hl : squares.length = squares'.length) (h1 : ∀ p ∈ squares, p.ok) (h2 : ∀ p ∈ squares', p.ok) {r : Bool} (hT : J48_3 X (.ptr 0 0) (.ptr 1 0) [.box (cc kind nums polys squares kids), .box (cc kind' nums' polys' squares' kids')] = some [.bool r]) :
    L48_2 X (.ptr 0 0) (.ptr 1 0) (.int .i64 (squares.length : Nat)) (.int .i64 (0 : Nat)) [.box (cc kind nums polys squares kids), .box (cc kind' nums' polys' squares' kids')] = some [.bool (eqb squares squares' && r)] := by
  unfold Sm at hb
  obtain ⟨k1, k2⟩ := all_loop (F := some [.bool false]) (T := fun _ => some [.bool r]) (I := fun σ => σ = [.box (cc kind nums polys squares kids), .box (cc kind' nums' polys' squares' kids')]) (L := fun i σ => L48_2 X (.ptr 0 0) (.ptr 1 0) (.int .i64 (squares.length : Nat)) (.int .i64 (i : Nat)) σ) hl (by
    rintro σ rfl
    try simp only
    rw [L48_2_eq]
    simp [hT]) (by
    rintro i hi hi' σ rfl hc
    refine ⟨_, rfl, ?_⟩
    try simp only
    rw [L48_2_eq]
    simp [hi, hi', iaddr_enc, ld1, cc, sq0, sq3, call62 X _ _ (h2 _ (List.getElem_mem hi')).1 (h2 _ (List.getElem_mem hi')).1, call63 X _ _ (h2 _ (List.getElem_mem hi')).2 (h2 _ (List.getElem_mem hi')).2, hc, eqb_eq, wrap_succ (show i < 9223372036854775807 by omega)]) (by
    rintro i hi hi' σ rfl hc
    try simp only
    rw [L48_2_eq]
    by_cases hw : squares[i].weight = squares'[i].weight
    · have hp : squares[i].poly ≠ squares'[i].poly := fun hp => hc (by
        generalize squares[i] = a at hw hp
        generalize squares'[i] = b at hw hp
        cases a; cases b; simp_all)
      simp [hi, hi', iaddr_enc, ld1, cc, sq0, sq3, call62 X _ _ (h1 _ (List.getElem_mem hi)).1 (h2 _ (List.getElem_mem hi')).1, call63 X _ _ (h1 _ (List.getElem_mem hi)).2 (h2 _ (List.getElem_mem hi')).2, eqb_eq hw, eqb_ne hp]
      rfl
    · simp [hi, hi', iaddr_enc, ld1, cc, sq0, sq3, call62 X _ _ (h1 _ (List.getElem_mem hi)).1 (h2 _ (List.getElem_mem hi')).1, eqb_ne hw]
      rfl) rfl
  by_cases h : squares = squares'
  · obtain ⟨_, _, h3⟩ := k1 h
    rw [eqb_eq h, Bool.true_and]; exact h3
  · rw [eqb_ne h]; exact k2 h
end
theorem cc_eq (kind : Int) (nums : List TRat) (polys : List TPoly) (squares : List TSquare) (kids : List TCert) : (TCert.mk kind nums polys squares kids).c = cc kind nums polys squares kids := by rw [TCert.c_eq]; rfl
theorem certs_ok (X : Ext) : ∀ (a b : TCert), a.ok → b.ok → (Hw C X).pure 48 [.agg a.c, .agg b.c] = some [.bool (eqb a b)]
  | .mk kind nums polys squares kids, .mk kind' nums' polys' squares' kids', ha, hb => by
    obtain ⟨⟨a1, a1'⟩, ⟨a2, a2'⟩, ⟨a3, a3'⟩, a4, a4'⟩ := ha
    obtain ⟨⟨b1, b1'⟩, ⟨b2, b2'⟩, ⟨b3, b3'⟩, b4, b4'⟩ := hb
    rw [TCert.oks_iff] at a4' b4'
    have IH : ∀ x ∈ kids, ∀ y ∈ kids', (Hw C X).pure 48 [.agg x.c, .agg y.c] = some [.bool (eqb x y)] := fun x hx y hy => by
      have := List.sizeOf_lt_of_mem hx
      exact certs_ok X x y (a4' x hx) (b4' y hy)
    rw [F48, cc_eq, cc_eq]
    by_cases h1 : kind = kind'
    · by_cases h2 : nums.length = nums'.length
      · by_cases h3 : polys.length = polys'.length
        · by_cases h4 : squares.length = squares'.length
          · by_cases h5 : kids.length = kids'.length
            · have k1 := L48a X (kind := kind) (kind' := kind') (nums := nums) (nums' := nums') (polys := polys) (polys' := polys') (squares := squares) (squares' := squares') a4 h5 IH
              have j1 : J48_3 X (.ptr 0 0) (.ptr 1 0) [.box (cc kind nums polys squares kids), .box (cc kind' nums' polys' squares' kids')] = some [.bool (eqb kids kids')] := by
                rw [J48_3_eq]; simp [cc] at k1 ⊢; exact k1
              have k2 := L48b X a3 h4 a3' b3' j1
              have j2 : J48_5 X (.ptr 0 0) (.ptr 1 0) [.box (cc kind nums polys squares kids), .box (cc kind' nums' polys' squares' kids')] = some [.bool (eqb squares squares' && eqb kids kids')] := by
                rw [J48_5_eq]; simp [cc] at k2 ⊢; exact k2
              have k3 := L48c X a2 h3 a2' b2' j2
              have j3 : J48_7 X (.ptr 0 0) (.ptr 1 0) [.box (cc kind nums polys squares kids), .box (cc kind' nums' polys' squares' kids')] = some [.bool (eqb polys polys' && (eqb squares squares' && eqb kids kids'))] := by
                rw [J48_7_eq]; simp [cc] at k3 ⊢; exact k3
              have k4 := L48d X a1 h2 a1' b1' j3
              have : eqb (TCert.mk kind nums polys squares kids) (TCert.mk kind' nums' polys' squares' kids') = (eqb nums nums' && (eqb polys polys' && (eqb squares squares' && eqb kids kids'))) := by
                rw [Bool.eq_iff_iff]
                simp only [eqb_iff, Bool.and_eq_true, TCert.mk.injEq, h1, true_and]
              rw [this]
              simp [cc, ld1, h1, h2, h3, h4, h5] at k4 ⊢
              exact k4
            · rw [eqb_ne (fun e => h5 (by simp only [TCert.mk.injEq] at e; rw [e.2.2.2.2]))]
              simp [cc, ld1, h1, h2, h3, h4, h5]
              rfl
          · rw [eqb_ne (fun e => h4 (by simp only [TCert.mk.injEq] at e; rw [e.2.2.2.1]))]
            simp [cc, ld1, h1, h2, h3, h4]
            rfl
        · rw [eqb_ne (fun e => h3 (by simp only [TCert.mk.injEq] at e; rw [e.2.2.1]))]
          simp [cc, ld1, h1, h2, h3]
          rfl
      · rw [eqb_ne (fun e => h2 (by simp only [TCert.mk.injEq] at e; rw [e.2.1]))]
        simp [cc, ld1, h1, h2]
        rfl
    · rw [eqb_ne (fun e => h1 (by simp only [TCert.mk.injEq] at e; exact e.1))]
      simp [cc, ld1, h1]
      rfl
termination_by a => SizeOf.sizeOf a
end Go.Proofs.YtkpbfldnickghaaDoor
set_option linter.unusedVariables false
set_option linter.unusedSimpArgs false
namespace Go.Proofs.YtkpbfldnickghaaDoor
open Go Go.PE
theorem call48' {R : Type} (X : Ext) (a b : TCert) (ha : a.ok) (hb : b.ok) (σ : Heap) (pc : Bool) (k : PV → Heap → Option R) : callK C (Hw C X) σ pc (.fn 48 []) [.agg a.c, .agg b.c] k = k (.bool (eqb a b)) σ := call48 X (certs_ok X a b ha hb) σ pc k
/-- The parts of a proof's node. -/
structure Bare where
  rule : Str
  name : Str
  forms : List TNode
  subst : List TPair
  path : List Int
  args : List Str
  cert : TCert
def bareOf : TProof → Bare
  | .mk rule name forms subst path args cert _ => ⟨rule, name, forms, subst, path, args, cert⟩
def kidsOf : TProof → List TProof
  | .mk _ _ _ _ _ _ _ kids => kids
theorem proof_eq {a b : TProof} : a = b ↔ bareOf a = bareOf b ∧ kidsOf a = kidsOf b := by
  cases a; cases b
  simp only [TProof.mk.injEq, bareOf, kidsOf, Bare.mk.injEq]
  constructor
  · rintro ⟨h1, h2, h3, h4, h5, h6, h7, h8⟩; exact ⟨⟨h1, h2, h3, h4, h5, h6, h7⟩, h8⟩
  · rintro ⟨⟨h1, h2, h3, h4, h5, h6, h7⟩, h8⟩; exact ⟨h1, h2, h3, h4, h5, h6, h7, h8⟩
section
variable (p : TProof)
theorem pr0 : loadP false 1 p.c = some (.str (bareOf p).rule) := by cases p; rw [TProof.c_eq]; rfl
theorem pr1 : loadP false 1 (p.c.drop 1) = some (.str (bareOf p).name) := by cases p; rw [TProof.c_eq]; rfl
theorem pr1' : loadP false 1 p.c.tail = some (.str (bareOf p).name) := by cases p; rw [TProof.c_eq]; rfl
theorem pr2 : loadP false 1 (p.c.drop 2) = some (encL 6 TNode.c (bareOf p).forms) := by cases p; rw [TProof.c_eq]; rfl
theorem pr3 : loadP false 1 (p.c.drop 3) = some (encL 13 TPair.c (bareOf p).subst) := by cases p; rw [TProof.c_eq]; rfl
theorem pr4 : loadP false 1 (p.c.drop 4) = some (encL 1 cInt (bareOf p).path) := by cases p; rw [TProof.c_eq]; rfl
theorem pr5 : loadP false 1 (p.c.drop 5) = some (encL 1 cStr (bareOf p).args) := by cases p; rw [TProof.c_eq]; rfl
theorem pr6 : loadP true 5 (p.c.drop 6) = some (.agg (bareOf p).cert.c) := by
  obtain ⟨rule, name, forms, subst, path, args, ⟨kind, nums, polys, squares, ckids⟩, kids⟩ := p
  rw [TProof.c_eq]
  simp only [bareOf, TCert.c_eq]
  rfl
theorem pr11 : loadP false 1 (p.c.drop 11) = some (encL 12 TProof.c (kidsOf p)) := by
  obtain ⟨rule, name, forms, subst, path, args, ⟨kind, nums, polys, squares, ckids⟩, kids⟩ := p
  rw [TProof.c_eq]
  simp only [kidsOf, TCert.c_eq]
  rfl
end
structure BareOk (b : Bare) : Prop where
  forms : TNodes.ok b.forms
  subst : Sm b.subst ∧ ∀ p ∈ b.subst, p.ok
  path : Sm b.path
  args : Sm b.args
  cert : b.cert.ok
theorem bare_ok_of {p : TProof} (h : p.ok) : BareOk (bareOf p) := by
  cases p
  obtain ⟨h1, h2, h3, h4, h5, _⟩ := h
  exact ⟨h1, h2, h3, h4, h5⟩
theorem kids_ok_of {p : TProof} (h : p.ok) : Sm (kidsOf p) ∧ ∀ k ∈ kidsOf p, k.ok := by
  cases p
  obtain ⟨_, _, _, _, _, h6, h7⟩ := h
  exact ⟨h6, TProof.oks_iff.1 h7⟩
theorem bare_ok (X : Ext) (a b : TProof) (ha : a.ok) (hb : b.ok) : (Hw C X).pure 26 [.agg a.c, .agg b.c] = some [.bool (eqb (bareOf a) (bareOf b))] := by
  have A := bare_ok_of ha
  have B := bare_ok_of hb
  have key : eqb (bareOf a) (bareOf b) = (eqb (bareOf a).rule (bareOf b).rule && (eqb (bareOf a).name (bareOf b).name && (eqb (bareOf a).forms (bareOf b).forms && (eqb (bareOf a).subst (bareOf b).subst && (eqb (bareOf a).path (bareOf b).path && (eqb (bareOf a).args (bareOf b).args && eqb (bareOf a).cert (bareOf b).cert)))))) := by
    rw [Bool.eq_iff_iff]
    simp only [eqb_iff, Bool.and_eq_true]
    generalize bareOf a = u
    generalize bareOf b = v
    cases u; cases v
    simp only [Bare.mk.injEq]
  rw [F26, key]
  have c1 := fun σ pc (k : PV → Heap → Option (List PV × Heap)) => call45 X _ _ A.forms B.forms σ pc k
  have c2 := fun σ pc (k : PV → Heap → Option (List PV × Heap)) => call46 X _ _ A.subst B.subst σ pc k
  have c3 := fun σ pc (k : PV → Heap → Option (List PV × Heap)) => call27 X _ (bareOf b).path A.path σ pc k
  have c4 := fun σ pc (k : PV → Heap → Option (List PV × Heap)) => call47 X _ (bareOf b).args A.args σ pc k
  have c5 := fun σ pc (k : PV → Heap → Option (List PV × Heap)) => call48' X _ _ A.cert B.cert σ pc k
  by_cases h1 : (bareOf a).rule = (bareOf b).rule
  · by_cases h2 : (bareOf a).name = (bareOf b).name
    · simp [ld1, pr0, pr1, pr1', pr2, pr3, pr4, pr5, pr6, h1, h2, eqb_eq, c1]
      cases eqb (bareOf a).forms (bareOf b).forms
      · simp; rfl
      · simp [ld1, pr3, c2]
        cases eqb (bareOf a).subst (bareOf b).subst
        · simp; rfl
        · simp [ld1, pr4, c3]
          cases eqb (bareOf a).path (bareOf b).path
          · simp; rfl
          · simp [ld1, pr5, c4]
            cases eqb (bareOf a).args (bareOf b).args
            · simp; rfl
            · simp [ld1, pr6, c5]
              cases eqb (bareOf a).cert (bareOf b).cert <;> rfl
    · simp [ld1, pr0, pr1, pr1', h1, h2, eqb_eq, eqb_ne h2]
      rfl
  · simp [ld1, pr0, h1, eqb_ne h1]
    rfl
end Go.Proofs.YtkpbfldnickghaaDoor
set_option linter.unusedVariables false
set_option linter.unusedSimpArgs false
namespace Go.Proofs.YtkpbfldnickghaaDoor
open Go Go.PE
theorem call26 {R : Type} (X : Ext) (a b : TProof) (ha : a.ok) (hb : b.ok) (σ : Heap) (pc : Bool) (k : PV → Heap → Option R) : callK C (Hw C X) σ pc (.fn 26 []) [.agg a.c, .agg b.c] k = k (.bool (eqb (bareOf a) (bareOf b))) σ :=
  callK_pure C26 rfl (by simp only [pureL, PV.pure, TProof.pure, Bool.and_self]) (by simp only [p26, canonA, canonV, TProof.canon]) (bare_ok X a b ha hb)
theorem call15 {R : Type} (X : Ext) {a b : TProof} {r : Bool} (h : (Hw C X).pure 15 [.agg a.c, .agg b.c] = some [.bool r]) (σ : Heap) (pc : Bool) (k : PV → Heap → Option R) : callK C (Hw C X) σ pc (.fn 15 []) [.agg a.c, .agg b.c] k = k (.bool r) σ :=
  callK_pure C15 rfl (by simp only [pureL, PV.pure, TProof.pure, Bool.and_self]) (by simp only [p15, canonA, canonV, TProof.canon]) h
theorem L15 (X : Ext) (a b : TProof) (hb : Sm (kidsOf a)) (hl : (kidsOf a).length = (kidsOf b).length) (IH : ∀ x ∈ kidsOf a, ∀ y ∈ kidsOf b, (Hw C X).pure 15 [.agg x.c, .agg y.c] = some [.bool (eqb x y)]) :
    L15_1 X (.ptr 0 0) (.ptr 1 0) (.int .i64 ((kidsOf a).length : Nat)) (.int .i64 (0 : Nat)) [.box a.c, .box b.c] = some [.bool (eqb (kidsOf a) (kidsOf b))] := by
  unfold Sm at hb
  refine all_loop_bool (I := fun σ => σ = [.box a.c, .box b.c]) (L := fun i σ => L15_1 X (.ptr 0 0) (.ptr 1 0) (.int .i64 ((kidsOf a).length : Nat)) (.int .i64 (i : Nat)) σ) hl ?_ ?_ ?_ rfl
  · rintro σ rfl
    try simp only
    rw [L15_1_eq]
    simp
    rfl
  · rintro i hi hi' σ rfl hc
    refine ⟨_, rfl, ?_⟩
    try simp only
    rw [L15_1_eq]
    simp [hi, hi', iaddr_enc, ld1, pr11, loadP_all (TProof.len _), call15 X (IH _ (List.getElem_mem hi) _ (List.getElem_mem hi')), eqb_eq hc, wrap_succ (show i < 9223372036854775807 by omega)]
  · rintro i hi hi' σ rfl hc
    try simp only
    rw [L15_1_eq]
    simp [hi, hi', iaddr_enc, ld1, pr11, loadP_all (TProof.len _), call15 X (IH _ (List.getElem_mem hi) _ (List.getElem_mem hi')), eqb_ne hc]
    rfl
theorem kids_size {p k : TProof} (h : k ∈ kidsOf p) : SizeOf.sizeOf k < SizeOf.sizeOf p := by
  cases p
  have := List.sizeOf_lt_of_mem h
  simp only [kidsOf] at this
  simp only [TProof.mk.sizeOf_spec]
  omega
theorem equal_ok (X : Ext) (a b : TProof) (ha : a.ok) (hb : b.ok) : (Hw C X).pure 15 [.agg a.c, .agg b.c] = some [.bool (eqb a b)] := by
  have A := kids_ok_of ha
  have B := kids_ok_of hb
  have IH : ∀ x ∈ kidsOf a, ∀ y ∈ kidsOf b, (Hw C X).pure 15 [.agg x.c, .agg y.c] = some [.bool (eqb x y)] := fun x hx y hy => by
    have := kids_size hx
    exact equal_ok X x y (A.2 x hx) (B.2 y hy)
  rw [F15]
  by_cases h1 : bareOf a = bareOf b
  · by_cases h2 : (kidsOf a).length = (kidsOf b).length
    · have hL := L15 X a b A.1 h2 IH
      have : eqb a b = eqb (kidsOf a) (kidsOf b) := by
        rw [Bool.eq_iff_iff]
        simp only [eqb_iff, proof_eq, h1, true_and]
      rw [this]
      simp [ld1, loadP_all (TProof.len _), call26 X a b ha hb, eqb_eq h1, pr11, h2] at hL ⊢
      exact hL
    · rw [eqb_ne (fun e => h2 (by rw [e]))]
      simp [ld1, loadP_all (TProof.len _), call26 X a b ha hb, eqb_eq h1, pr11, h2]
      rfl
  · rw [eqb_ne (fun e => h1 (by rw [e]))]
    simp [ld1, loadP_all (TProof.len _), call26 X a b ha hb, eqb_ne h1]
    rfl
termination_by SizeOf.sizeOf a
end Go.Proofs.YtkpbfldnickghaaDoor
set_option linter.unusedVariables false
set_option linter.unusedSimpArgs false
namespace Go.Proofs.YtkpbfldnickghaaDoor
open Go Go.PE
theorem sameInts_ok (X : Ext) (xs ys : List Int) (hb : Sm xs) : (Hw C X).pure 53 [encL 1 cInt xs, encL 1 cInt ys] = some [.bool (eqb xs ys)] := by
  unfold Sm at hb
  rw [F53]
  by_cases hl : xs.length = ys.length
  · have hL : L53_1 X (encL 1 cInt xs) (encL 1 cInt ys) (.int .i64 (0 : Nat)) [] = some [.bool (eqb xs ys)] := by
      refine all_loop_bool (I := fun σ => True) (L := fun i σ => L53_1 X (encL 1 cInt xs) (encL 1 cInt ys) (.int .i64 (i : Nat)) σ) hl ?_ ?_ ?_ trivial
      · intro σ _
        try simp only
        rw [L53_1_eq]
        simp
        rfl
      · intro i hi hi' σ _ hc
        refine ⟨σ, trivial, ?_⟩
        try simp only
        rw [L53_1_eq]
        simp [hi, hi', iaddr_enc, cInt, hc, wrap_succ (show i < 9223372036854775807 by omega)]
      · intro i hi hi' σ _ hc
        try simp only
        rw [L53_1_eq]
        simp [hi, hi', iaddr_enc, cInt, hc]
        rfl
    simp [hl]
    simpa [hl] using hL
  · have hne : xs ≠ ys := fun e => hl (by rw [e])
    simp [hl, eqb_ne hne]
    rfl
theorem call53 {R : Type} (X : Ext) (a b : List Int) (hb : Sm a) (σ : Heap) (pc : Bool) (k : PV → Heap → Option R) : callK C (Hw C X) σ pc (.fn 53 []) [encL 1 cInt a, encL 1 cInt b] k = k (.bool (eqb a b)) σ :=
  callK_pure C53 rfl (by simp only [pureL, encL_pure (fun x _ => cInt_pure x), Bool.and_self]) (by simp only [p53, canonA, canon_sl]) (sameInts_ok X a b hb)
theorem sameStrs_ok (X : Ext) (xs ys : List Str) (hb : Sm xs) : (Hw C X).pure 18 [encL 1 cStr xs, encL 1 cStr ys] = some [.bool (eqb xs ys)] := by
  unfold Sm at hb
  rw [F18]
  by_cases hl : xs.length = ys.length
  · have hL : L18_1 X (encL 1 cStr xs) (encL 1 cStr ys) (.int .i64 (0 : Nat)) [] = some [.bool (eqb xs ys)] := by
      refine all_loop_bool (I := fun σ => True) (L := fun i σ => L18_1 X (encL 1 cStr xs) (encL 1 cStr ys) (.int .i64 (i : Nat)) σ) hl ?_ ?_ ?_ trivial
      · intro σ _
        try simp only
        rw [L18_1_eq]
        simp
        rfl
      · intro i hi hi' σ _ hc
        refine ⟨σ, trivial, ?_⟩
        try simp only
        rw [L18_1_eq]
        simp [hi, hi', iaddr_enc, cStr, hc, wrap_succ (show i < 9223372036854775807 by omega)]
      · intro i hi hi' σ _ hc
        try simp only
        rw [L18_1_eq]
        simp [hi, hi', iaddr_enc, cStr, hc]
        rfl
    simp [hl]
    simpa [hl] using hL
  · have hne : xs ≠ ys := fun e => hl (by rw [e])
    simp [hl, eqb_ne hne]
    rfl
theorem call18 {R : Type} (X : Ext) (a b : List Str) (hb : Sm a) (σ : Heap) (pc : Bool) (k : PV → Heap → Option R) : callK C (Hw C X) σ pc (.fn 18 []) [encL 1 cStr a, encL 1 cStr b] k = k (.bool (eqb a b)) σ :=
  callK_pure C18 rfl (by simp only [pureL, encL_pure (fun x _ => cStr_pure x), Bool.and_self]) (by simp only [p18, canonA, canon_sl]) (sameStrs_ok X a b hb)
theorem sameWords_ok (X : Ext) (xs ys : List Nat) (hb : Sm xs) : (Hw C X).pure 74 [encL 1 cU32 xs, encL 1 cU32 ys] = some [.bool (eqb xs ys)] := by
  unfold Sm at hb
  rw [F74]
  by_cases hl : xs.length = ys.length
  · have hL : L74_1 X (encL 1 cU32 xs) (encL 1 cU32 ys) (.int .i64 (xs.length : Nat)) (.int .i64 (0 : Nat)) [] = some [.bool (eqb xs ys)] := by
      refine all_loop_bool (I := fun σ => True) (L := fun i σ => L74_1 X (encL 1 cU32 xs) (encL 1 cU32 ys) (.int .i64 (xs.length : Nat)) (.int .i64 (i : Nat)) σ) hl ?_ ?_ ?_ trivial
      · intro σ _
        try simp only
        rw [L74_1_eq]
        simp
        rfl
      · intro i hi hi' σ _ hc
        refine ⟨σ, trivial, ?_⟩
        try simp only
        rw [L74_1_eq]
        simp [hi, hi', iaddr_enc, cU32, hc, wrap_succ (show i < 9223372036854775807 by omega)]
      · intro i hi hi' σ _ hc
        try simp only
        rw [L74_1_eq]
        simp [hi, hi', iaddr_enc, cU32, hc]
        rfl
    simp [hl]
    simpa [hl] using hL
  · have hne : xs ≠ ys := fun e => hl (by rw [e])
    simp [hl, eqb_ne hne]
    rfl
theorem call74 {R : Type} (X : Ext) (a b : List Nat) (hb : Sm a) (σ : Heap) (pc : Bool) (k : PV → Heap → Option R) : callK C (Hw C X) σ pc (.fn 74 []) [encL 1 cU32 a, encL 1 cU32 b] k = k (.bool (eqb a b)) σ :=
  callK_pure C74 rfl (by simp only [pureL, encL_pure (fun x _ => cU32_pure x), Bool.and_self]) (by simp only [p74, canonA, canon_sl]) (sameWords_ok X a b hb)
theorem sameRat_ok (X : Ext) (a b : TRat) (ha : a.ok) : (Hw C X).pure 67 [.agg a.c, .agg b.c] = some [.bool (eqb a b)] := by
  obtain ⟨n, u, d⟩ := a
  obtain ⟨n', u', d'⟩ := b
  have key : eqb (TRat.mk n u d) (TRat.mk n' u' d') = (decide (n = n') && (eqb u u' && eqb d d')) := by
    rw [Bool.eq_iff_iff]
    simp only [eqb_iff, Bool.and_eq_true, TRat.mk.injEq, decide_eq_true_iff]
  rw [F67, key]
  have c1 := fun σ pc (k : PV → Heap → Option (List PV × Heap)) => call74 X u u' ha.1 σ pc k
  have c2 := fun σ pc (k : PV → Heap → Option (List PV × Heap)) => call74 X d d' ha.2 σ pc k
  by_cases h1 : n = n'
  · simp [TRat.c, ld1, h1, c1]
    cases eqb u u'
    · simp; rfl
    · simp [ld1, c2]
      cases eqb d d' <;> rfl
  · simp [TRat.c, ld1, h1]
    rfl
theorem call67 {R : Type} (X : Ext) (a b : TRat) (ha : a.ok) (σ : Heap) (pc : Bool) (k : PV → Heap → Option R) : callK C (Hw C X) σ pc (.fn 67 []) [.agg a.c, .agg b.c] k = k (.bool (eqb a b)) σ :=
  callK_pure C67 rfl (by simp only [pureL, PV.pure, TRat.pure, Bool.and_self]) (by simp only [p67, canonA, canonV, TRat.canon]) (sameRat_ok X a b ha)
theorem sameRats_ok (X : Ext) (xs ys : List TRat) (hx : Sm xs ∧ ∀ r ∈ xs, r.ok) : (Hw C X).pure 65 [encL 3 TRat.c xs, encL 3 TRat.c ys] = some [.bool (eqb xs ys)] := by
  obtain ⟨hb, hx⟩ := hx
  unfold Sm at hb
  rw [F65]
  by_cases hl : xs.length = ys.length
  · have hL : L65_1 X (encL 3 TRat.c xs) (encL 3 TRat.c ys) (.int .i64 (0 : Nat)) [] = some [.bool (eqb xs ys)] := by
      refine all_loop_bool (I := fun σ => True) (L := fun i σ => L65_1 X (encL 3 TRat.c xs) (encL 3 TRat.c ys) (.int .i64 (i : Nat)) σ) hl ?_ ?_ ?_ trivial
      · intro σ _
        try simp only
        rw [L65_1_eq]
        simp
        rfl
      · intro i hi hi' σ _ hc
        refine ⟨σ, trivial, ?_⟩
        try simp only
        rw [L65_1_eq]
        simp [hi, hi', iaddr_enc, loadP_all (TRat.len _), call67 X _ _ (hx _ (List.getElem_mem hi)), eqb_eq hc, wrap_succ (show i < 9223372036854775807 by omega)]
      · intro i hi hi' σ _ hc
        try simp only
        rw [L65_1_eq]
        simp [hi, hi', iaddr_enc, loadP_all (TRat.len _), call67 X _ _ (hx _ (List.getElem_mem hi)), eqb_ne hc]
        rfl
    simp [hl]
    simpa [hl] using hL
  · have hne : xs ≠ ys := fun e => hl (by rw [e])
    simp [hl, eqb_ne hne]
    rfl
theorem call65 {R : Type} (X : Ext) (a b : List TRat) (hb : Sm a ∧ ∀ r ∈ a, r.ok) (σ : Heap) (pc : Bool) (k : PV → Heap → Option R) : callK C (Hw C X) σ pc (.fn 65 []) [encL 3 TRat.c a, encL 3 TRat.c b] k = k (.bool (eqb a b)) σ :=
  callK_pure C65 rfl (by simp only [pureL, encL_pure (fun x _ => TRat.pure x), Bool.and_self]) (by simp only [p65, canonA, canon_sl]) (sameRats_ok X a b hb)
def lessI (a b : Int) : Int := if a < b then -1 else if b < a then 1 else 0
theorem less8_ok (X : Ext) (a b : Int) : (Hw C X).pure 92 [.int .i64 a, .int .i64 b] = some [.int .i64 (lessI a b)] := by
  unfold lessI
  rw [F92]
  by_cases h1 : a < b
  · simp [h1]; rfl
  · by_cases h2 : b < a
    · simp [h1, h2]; rfl
    · simp [h1, h2]; rfl
theorem call92 {R : Type} (X : Ext) (σ : Heap) (pc : Bool) (a b : Int) (k : PV → Heap → Option R) : callK C (Hw C X) σ pc (.fn 92 []) [.int .i64 a, .int .i64 b] k = k (.int .i64 (lessI a b)) σ :=
  callK_pure C92 rfl rfl rfl (less8_ok X a b)
theorem less0 (a b : Int) : lessI a b = 0 ↔ a = b := by
  unfold lessI
  split
  · constructor
    · intro h; cases h
    · intro h; omega
  · split
    · constructor
      · intro h; cases h
      · intro h; omega
    · constructor
      · intro _; omega
      · intro _; rfl
theorem L93 (X : Ext) (a b : List Nat) (hl : a.length = b.length) (hb : Sm a) : ∀ (i : Nat), i ≤ a.length → ∃ n : Int, L93_1 X (encL 1 cU32 a) (encL 1 cU32 b) (.int .i64 ((i : Int) - 1)) [] = some [.int .i64 n] ∧ (n = 0 ↔ a.take i = b.take i)
  | 0, _ => ⟨0, by rw [L93_1_eq]; simp; rfl, by simp⟩
  | i + 1, h => by
    unfold Sm at hb
    have hi : i < a.length := by omega
    have hi' : i < b.length := by omega
    obtain ⟨n, ih, hn⟩ := L93 X a b hl hb i (by omega)
    have e1 : ((i + 1 : Nat) : Int) - 1 = (i : Int) := by omega
    have ht : a.take (i + 1) = b.take (i + 1) ↔ a.take i = b.take i ∧ a[i] = b[i] := by
      rw [List.take_succ_eq_append_getElem hi, List.take_succ_eq_append_getElem hi']
      constructor
      · intro h
        have := List.append_inj h (by simp; omega)
        exact ⟨this.1, by simpa using this.2⟩
      · rintro ⟨h1, h2⟩
        rw [h1, h2]
    rw [e1, L93_1_eq]
    by_cases hc : a[i] = b[i]
    · refine ⟨n, ?_, by rw [hn, ht]; simp [hc]⟩
      simp [hi, iaddr_enc, hi', cU32, hc, wrap_i64 (show -9223372036854775808 ≤ (i : Int) - 1 by omega) (by omega)]
      exact ih
    · refine ⟨if a[i] < b[i] then -1 else 1, ?_, ?_⟩
      · by_cases hd : a[i] < b[i]
        · simp [hi, iaddr_enc, hi', cU32, hc, hd]
          rfl
        · simp [hi, iaddr_enc, hi', cU32, hc, hd]
          rfl
      · rw [ht]
        constructor
        · intro h; split at h <;> cases h
        · intro h; exact absurd h.2 hc
theorem words8_ok (X : Ext) (a b : List Nat) (hb : Sm a) (hb' : Sm b) : ∃ n : Int, (Hw C X).pure 93 [encL 1 cU32 a, encL 1 cU32 b] = some [.int .i64 n] ∧ (n = 0 ↔ a = b) := by
  rw [F93]
  unfold Sm at hb hb'
  by_cases hl : a.length = b.length
  · obtain ⟨n, h1, h2⟩ := L93 X a b hl hb a.length (Nat.le_refl _)
    refine ⟨n, ?_, by rw [h2, List.take_length, hl, List.take_length]⟩
    simp [hl, wrap_i64 (show -9223372036854775808 ≤ (b.length : Int) - 1 by omega) (by omega)]
    simpa [hl] using h1
  · refine ⟨if a.length < b.length then -1 else 1, ?_, ?_⟩
    · by_cases hd : a.length < b.length
      · simp [hl, hd]
        rfl
      · simp [hl, hd]
        rfl
    · constructor
      · intro h; split at h <;> cases h
      · intro h; exact absurd (by rw [h]) hl
theorem call93 {R : Type} (X : Ext) (a b : List Nat) (hb : Sm a) (hb' : Sm b) : ∃ n : Int, (n = 0 ↔ a = b) ∧ ∀ (σ : Heap) (pc : Bool) (k : PV → Heap → Option R), callK C (Hw C X) σ pc (.fn 93 []) [encL 1 cU32 a, encL 1 cU32 b] k = k (.int .i64 n) σ := by
  obtain ⟨n, h1, h2⟩ := words8_ok X a b hb hb'
  exact ⟨n, h2, fun σ pc k => callK_pure C93 rfl (by simp only [pureL, encL_pure (fun x _ => cU32_pure x), Bool.and_self]) (by simp only [p93, canonA, canon_sl]) h1⟩
def Cmp8 (X : Ext) (a b : TNode) : Prop := ∃ n : Int, (Hw C X).pure 73 [.agg a.c, .agg b.c] = some [.int .i64 n] ∧ (n = 0 ↔ a = b)
theorem cmp8_call {R : Type} {X : Ext} {a b : TNode} (h : Cmp8 X a b) : ∃ n : Int, (n = 0 ↔ a = b) ∧ ∀ (σ : Heap) (pc : Bool) (k : PV → Heap → Option R), callK C (Hw C X) σ pc (.fn 73 []) [.agg a.c, .agg b.c] k = k (.int .i64 n) σ := by
  obtain ⟨n, h1, h2⟩ := h
  exact ⟨n, h2, fun σ pc k => callK_pure C73 rfl (by simp only [pureL, PV.pure, TNode.pure, Bool.and_self]) (by simp only [p73, canonA, canonV, TNode.canon]) h1⟩
theorem L73 (X : Ext) (u v : List PV) (hu : u.length = 5) (hv : v.length = 5) (ks ks' : List TNode) (hb : Sm ks) (hl : ks.length = ks'.length) (IH : ∀ x ∈ ks, ∀ y ∈ ks', Cmp8 X x y) :
    ∀ (n i : Nat), i + n = ks.length → ∃ m : Int, L73_1 X (.ptr 0 0) (.ptr 1 0) (.int .i64 i) [.box (u ++ [encL 6 TNode.c ks]), .box (v ++ [encL 6 TNode.c ks'])] = some [.int .i64 m] ∧ (m = 0 ↔ ks.drop i = ks'.drop i)
  | 0, i, h => by
    have h1 : ks.drop i = [] := List.drop_eq_nil_of_le (by omega)
    have h2 : ks'.drop i = [] := List.drop_eq_nil_of_le (by omega)
    have d5 : List.drop 5 (u ++ [encL 6 TNode.c ks]) = [encL 6 TNode.c ks] := by simp [← hu]
    refine ⟨0, ?_, by simp [h1, h2]⟩
    rw [L73_1_eq]
    simp [show ¬ (i < ks.length) by omega, d5]
    rfl
  | n + 1, i, h => by
    unfold Sm at hb
    have hi : i < ks.length := by omega
    have hi' : i < ks'.length := by omega
    have hd := drop_eq_iff hi hi'
    obtain ⟨m, ih, hm⟩ := L73 X u v hu hv ks ks' hb hl IH n (i + 1) (by omega)
    obtain ⟨n1, hn1, hc1⟩ := cmp8_call (R := List PV) (IH ks[i] (by simp) ks'[i] (by simp))
    have d5 : List.drop 5 (u ++ [encL 6 TNode.c ks]) = [encL 6 TNode.c ks] := by simp [← hu]
    have d5' : List.drop 5 (v ++ [encL 6 TNode.c ks']) = [encL 6 TNode.c ks'] := by simp [← hv]
    rw [L73_1_eq]
    by_cases hc : n1 = 0
    · refine ⟨m, ?_, by rw [hm, hd]; simp [hn1.1 hc]⟩
      simp [hi, hi', iaddr_enc, ld1, d5, d5', loadP_all (TNode.len _), hc1, hc, wrap_succ (show i < 9223372036854775807 by omega)]
      simpa using ih
    · refine ⟨n1, ?_, by rw [hd]; constructor <;> intro h; exact absurd h hc; exact absurd (hn1.2 h.1) hc⟩
      simp [hi, hi', iaddr_enc, ld1, d5, d5', loadP_all (TNode.len _), hc1, hc]
      rfl
theorem cmp8_ok (X : Ext) : ∀ (a b : TNode), a.ok → b.ok → Cmp8 X a b
  | .mk op name num kids, .mk op' name' num' kids', ha, hb => by
    obtain ⟨⟨ha1, ha2⟩, ha3, ha4⟩ := ha
    obtain ⟨⟨hb1, hb2⟩, hb3, hb4⟩ := hb
    rw [TNode.oks_iff] at ha4 hb4
    obtain ⟨n1, hn1, hw1⟩ := call93 (R := List PV) X num.num num'.num ha1 hb1
    obtain ⟨n2, hn2, hw2⟩ := call93 (R := List PV) X num.den num'.den ha2 hb2
    have IH : ∀ x ∈ kids, ∀ y ∈ kids', Cmp8 X x y := fun x hx y hy => by
      have := List.sizeOf_lt_of_mem hx
      exact cmp8_ok X x y (ha4 x hx) (hb4 y hy)
    have hL := fun hl => L73 X [.int .i64 op, .str name, .bool num.neg, encL 1 cU32 num.num, encL 1 cU32 num.den] [.int .i64 op', .str name', .bool num'.neg, encL 1 cU32 num'.num, encL 1 cU32 num'.den] rfl rfl kids kids' ha3 hl IH kids.length 0 (by omega)
    obtain ⟨neg, nu, de⟩ := num
    obtain ⟨neg', nu', de'⟩ := num'
    have w92 := fun σ pc a b (k : PV → Heap → Option (List PV)) => call92 X σ pc a b k
    unfold Cmp8
    rw [F73]
    simp only [TNode.c_eq]
    have z1 := less0 op op'
    have z6 := less0 kids.length kids'.length
    generalize hq1 : lessI op op' = q1 at z1
    generalize hq6 : lessI kids.length kids'.length = q6 at z6
    by_cases h1 : q1 = 0
    · by_cases h2 : name = name'
      · by_cases h3 : neg = neg'
        · by_cases h4 : n1 = 0
          · by_cases h5 : n2 = 0
            · by_cases h6 : q6 = 0
              · have h6' : kids.length = kids'.length := by have := z6.1 h6; omega
                obtain ⟨m, hm, hm'⟩ := hL h6'
                refine ⟨m, ?_, ?_⟩
                · simp only [List.cons_append, List.nil_append] at hm
                  simp [w92, hq1, hq6, h1, h2, h3, h4, h5, h6, ld1, hw1, hw2]
                  simpa [h2, h3] using hm
                · have e1 : nu = nu' := hn1.1 h4
                  have e2 : de = de' := hn2.1 h5
                  rw [hm']; simp [z1.1 h1, h2, h3, e1, e2]
              · refine ⟨q6, ?_, ?_⟩
                · simp [w92, hq1, hq6, h1, h2, h3, h4, h5, h6, ld1, hw1, hw2]
                  rfl
                · constructor
                  · intro h; exact absurd h h6
                  · intro h; simp only [TNode.mk.injEq] at h; exact z6.2 (by rw [h.2.2.2])
            · refine ⟨n2, ?_, ?_⟩
              · simp [w92, hq1, h1, h2, h3, h4, h5, ld1, hw1, hw2]
                rfl
              · constructor
                · intro h; exact absurd h h5
                · intro h; simp only [TNode.mk.injEq, TRat.mk.injEq] at h; exact hn2.2 h.2.2.1.2.2
          · refine ⟨n1, ?_, ?_⟩
            · simp [w92, hq1, h1, h2, h3, h4, ld1, hw1, hw2]
              rfl
            · constructor
              · intro h; exact absurd h h4
              · intro h; simp only [TNode.mk.injEq, TRat.mk.injEq] at h; exact hn1.2 h.2.2.1.2.1
        · refine ⟨if neg' = true then -1 else 1, ?_, ?_⟩
          · cases neg' <;> (simp [w92, hq1, h1, h2, h3, ld1]; rfl)
          · constructor
            · intro h; split at h <;> cases h
            · intro h; simp only [TNode.mk.injEq, TRat.mk.injEq] at h; exact absurd h.2.2.1.1 h3
      · refine ⟨if Op.bytesLess name name' = true then -1 else 1, ?_, ?_⟩
        · by_cases hq : Op.bytesLess name name' = true
          · simp [w92, hq1, h1, h2, ld1, hq]
            rfl
          · simp [w92, hq1, h1, h2, ld1, hq]
            rfl
        · constructor
          · intro h; split at h <;> cases h
          · intro h; simp only [TNode.mk.injEq] at h; exact absurd h.2.1 h2
    · refine ⟨q1, ?_, ?_⟩
      · simp [w92, hq1, h1, ld1]
        rfl
      · constructor
        · intro h; exact absurd h h1
        · intro h; simp only [TNode.mk.injEq] at h; exact z1.2 h.1
termination_by a => SizeOf.sizeOf a
theorem eq8_ok (X : Ext) (a b : TNode) (ha : a.ok) (hb : b.ok) : (Hw C X).pure 64 [.agg a.c, .agg b.c] = some [.bool (eqb a b)] := by
  obtain ⟨n, hn, hc⟩ := cmp8_call (R := List PV) (cmp8_ok X a b ha hb)
  rw [F64]
  simp [ld1, loadP_all (TNode.len _), hc]
  by_cases h : a = b
  · rw [eqb_eq h, hn.2 h]; rfl
  · rw [eqb_ne h, decide_eq_false (fun e => h (hn.1 e))]; rfl
theorem call64 {R : Type} (X : Ext) (a b : TNode) (ha : a.ok) (hb : b.ok) (σ : Heap) (pc : Bool) (k : PV → Heap → Option R) : callK C (Hw C X) σ pc (.fn 64 []) [.agg a.c, .agg b.c] k = k (.bool (eqb a b)) σ :=
  callK_pure C64 rfl (by simp only [pureL, PV.pure, TNode.pure, Bool.and_self]) (by simp only [p64, canonA, canonV, TNode.canon]) (eq8_ok X a b ha hb)
theorem sameNodes_ok (X : Ext) (xs ys : List TNode) (hx : TNodes.ok xs) (hy : TNodes.ok ys) : (Hw C X).pure 51 [encL 6 TNode.c xs, encL 6 TNode.c ys] = some [.bool (eqb xs ys)] := by
  obtain ⟨hb, hx⟩ := hx
  unfold Sm at hb
  rw [F51]
  by_cases hl : xs.length = ys.length
  · have hL : L51_1 X (encL 6 TNode.c xs) (encL 6 TNode.c ys) (.int .i64 (0 : Nat)) [] = some [.bool (eqb xs ys)] := by
      refine all_loop_bool (I := fun σ => True) (L := fun i σ => L51_1 X (encL 6 TNode.c xs) (encL 6 TNode.c ys) (.int .i64 (i : Nat)) σ) hl ?_ ?_ ?_ trivial
      · intro σ _
        try simp only
        rw [L51_1_eq]
        simp
        rfl
      · intro i hi hi' σ _ hc
        refine ⟨σ, trivial, ?_⟩
        try simp only
        rw [L51_1_eq]
        simp [hi, hi', iaddr_enc, loadP_all (TNode.len _), call64 X _ _ (hx _ (List.getElem_mem hi)) (hy.2 _ (List.getElem_mem hi')), eqb_eq hc, wrap_succ (show i < 9223372036854775807 by omega)]
      · intro i hi hi' σ _ hc
        try simp only
        rw [L51_1_eq]
        simp [hi, hi', iaddr_enc, loadP_all (TNode.len _), call64 X _ _ (hx _ (List.getElem_mem hi)) (hy.2 _ (List.getElem_mem hi')), eqb_ne hc]
        rfl
    simp [hl]
    simpa [hl] using hL
  · have hne : xs ≠ ys := fun e => hl (by rw [e])
    simp [hl, eqb_ne hne]
    rfl
theorem call51 {R : Type} (X : Ext) (a b : List TNode) (hb : TNodes.ok a) (hb2 : TNodes.ok b) (σ : Heap) (pc : Bool) (k : PV → Heap → Option R) : callK C (Hw C X) σ pc (.fn 51 []) [encL 6 TNode.c a, encL 6 TNode.c b] k = k (.bool (eqb a b)) σ :=
  callK_pure C51 rfl (by simp only [pureL, encL_pure (fun x _ => TNode.pure x), Bool.and_self]) (by simp only [p51, canonA, canon_sl]) (sameNodes_ok X a b hb hb2)
end Go.Proofs.YtkpbfldnickghaaDoor
set_option linter.unusedVariables false
set_option linter.unusedSimpArgs false
namespace Go.Proofs.YtkpbfldnickghaaDoor
open Go Go.PE
theorem L66b (X : Ext) (a b : TMono) (hb : Sm a.exps) (hl : a.exps.length = b.exps.length) (v3 v24 v25 v26 w : PV) (hw : evBin .add .int v26 (.int .i64 1) = some w) (σ : Heap) (ia ib : Nat) (h1 : σ[ia]? = some (.box a.c)) (h2 : σ[ib]? = some (.box b.c)) :
    L66_2 X v3 (.ptr ia 0) (.ptr ib 0) v24 v25 v26 (.int .i64 (a.exps.length : Nat)) (.int .i64 (0 : Nat)) σ = if eqb a.exps b.exps = true then L66_1 X v3 v24 v25 w σ else some [.bool false] := by
  unfold Sm at hb
  have e0 : ∀ m : TMono, loadP false 1 m.c = some (encL 1 cInt m.exps) := fun _ => rfl
  obtain ⟨k1, k2⟩ := all_loop (F := some [.bool false]) (T := fun τ => L66_1 X v3 v24 v25 w τ) (I := fun τ => τ = σ) (L := fun i τ => L66_2 X v3 (.ptr ia 0) (.ptr ib 0) v24 v25 v26 (.int .i64 (a.exps.length : Nat)) (.int .i64 (i : Nat)) τ) hl (by
    rintro τ rfl
    try simp only
    rw [L66_2_eq]
    simp [hw]) (by
    rintro i hi hi' τ rfl hc
    refine ⟨_, rfl, ?_⟩
    try simp only
    rw [L66_2_eq]
    simp [hi, hi', iaddr_enc, loadV_ptr h1, loadV_ptr h2, e0, cInt, hc, wrap_succ (show i < 9223372036854775807 by omega)]) (by
    rintro i hi hi' τ rfl hc
    try simp only
    rw [L66_2_eq]
    simp [hi, hi', iaddr_enc, loadV_ptr h1, loadV_ptr h2, e0, cInt, hc]
    rfl) rfl
  by_cases h : a.exps = b.exps
  · obtain ⟨τ, rfl, h3⟩ := k1 h
    rw [eqb_eq h, if_pos rfl]; exact h3
  · rw [eqb_ne h, if_neg (by simp)]; exact k2 h
theorem L66 (X : Ext) (p q : TPoly) (hp : p.ok) (hq : q.ok) (hl : p.terms.length = q.terms.length) (σ : Heap) (hσ : σ[1]? = some (.box q.c)) :
    L66_1 X (.ptr 1 0) (encL 4 TMono.c p.terms) (.int .i64 (p.terms.length : Nat)) (.int .i64 (0 : Nat)) σ = some [.bool (eqb p.terms q.terms)] := by
  have hb := hp.1
  unfold Sm at hb
  have d1 : List.drop 1 q.c = [encL 4 TMono.c q.terms] := rfl
  have e0 : ∀ m : TMono, loadP false 1 m.c = some (encL 1 cInt m.exps) := fun _ => rfl
  have e1 : ∀ m : TMono, List.drop 1 m.c = m.coef.c := fun _ => rfl
  refine all_loop_bool (I := fun σ => σ[1]? = some (.box q.c)) (L := fun i σ => L66_1 X (.ptr 1 0) (encL 4 TMono.c p.terms) (.int .i64 (p.terms.length : Nat)) (.int .i64 (i : Nat)) σ) hl ?_ ?_ ?_ hσ
  · intro σ hσ
    try simp only
    rw [L66_1_eq]
    simp
    rfl
  · intro i hi hi' σ hσ hc
    have hlt : 1 < σ.length := (List.getElem?_eq_some_iff.1 hσ).1
    have hm := hp.2 p.terms[i] (by simp)
    have hm' := hq.2 q.terms[i] (by simp)
    refine ⟨σ ++ [.box p.terms[i].c] ++ [.box q.terms[i].c], by rw [List.append_assoc, List.getElem?_append_left hlt]; exact hσ, ?_⟩
    try simp only
    rw [L66_1_eq]
    have hin := L66b X p.terms[i] q.terms[i] hm.1 (by rw [hc]) (.ptr 1 0) (encL 4 TMono.c p.terms) (.int .i64 (p.terms.length : Nat)) (.int .i64 (i : Nat)) (.int .i64 ((i + 1 : Nat) : Int)) (by simp [wrap_succ (show i < 9223372036854775807 by omega)]) (σ ++ [.box p.terms[i].c] ++ [.box q.terms[i].c]) σ.length (σ ++ [PE.Obj.box p.terms[i].c]).length (by simp) (by simp)
    rw [eqb_eq (by rw [hc]), if_pos rfl] at hin
    rw [← hin]
    simp only [bin_lss, iaddr_enc _ _ hi, iaddr_enc _ _ hi', Option.bind_some, loadV_cref, loadP_all (TMono.len _), loadP_all (TRat.len _), storeV_last (sz := 4) (cs := [.nils, .bool false, .nils, .nils]) rfl (TMono.len _) (TMono.scal _), faddrV_ptr, Nat.zero_add, loadV_last, loadV_prev (σ := σ) hlt, loadV_ptr hσ, two_last, List.drop_zero, d1, e0, e1, loadP_one, len_enc, hc, bin_neqN, call67 X _ _ hm'.2, eqb_eq, not_bool, Bool.not_true, decide_true, guardR_yes, nthV_zero, nthV_succ, pickV_false, condK_false]
    simp [hi]
  · intro i hi hi' σ hσ hc
    have hlt : 1 < σ.length := (List.getElem?_eq_some_iff.1 hσ).1
    have hm := hp.2 p.terms[i] (by simp)
    have hm' := hq.2 q.terms[i] (by simp)
    try simp only
    rw [L66_1_eq]
    by_cases h0 : p.terms[i].exps.length = q.terms[i].exps.length
    · by_cases h2 : p.terms[i].coef = q.terms[i].coef
      · have h1 : p.terms[i].exps ≠ q.terms[i].exps := fun h1 => hc (by
          generalize p.terms[i] = a at h1 h2
          generalize q.terms[i] = b at h1 h2
          cases a; cases b; simp_all)
        have hin := L66b X p.terms[i] q.terms[i] hm.1 h0 (.ptr 1 0) (encL 4 TMono.c p.terms) (.int .i64 (p.terms.length : Nat)) (.int .i64 (i : Nat)) (.int .i64 ((i + 1 : Nat) : Int)) (by simp [wrap_succ (show i < 9223372036854775807 by omega)]) (σ ++ [.box p.terms[i].c] ++ [.box q.terms[i].c]) σ.length (σ ++ [PE.Obj.box p.terms[i].c]).length (by simp) (by simp)
        rw [eqb_ne h1, if_neg (by simp)] at hin
        rw [← hin]
        simp only [bin_lss, iaddr_enc _ _ hi, iaddr_enc _ _ hi', Option.bind_some, loadV_cref, loadP_all (TMono.len _), loadP_all (TRat.len _), storeV_last (sz := 4) (cs := [.nils, .bool false, .nils, .nils]) rfl (TMono.len _) (TMono.scal _), faddrV_ptr, Nat.zero_add, loadV_last, loadV_prev (σ := σ) hlt, loadV_ptr hσ, two_last, List.drop_zero, d1, e0, e1, loadP_one, len_enc, h0, h2, bin_neqN, call67 X _ _ hm'.2, eqb_eq, not_bool, Bool.not_true, decide_true, guardR_yes, nthV_zero, nthV_succ, pickV_false, condK_false]
        simp [hi]
      · simp only [bin_lss, iaddr_enc _ _ hi, iaddr_enc _ _ hi', Option.bind_some, loadV_cref, loadP_all (TMono.len _), loadP_all (TRat.len _), storeV_last (sz := 4) (cs := [.nils, .bool false, .nils, .nils]) rfl (TMono.len _) (TMono.scal _), faddrV_ptr, Nat.zero_add, loadV_last, loadV_prev (σ := σ) hlt, loadV_ptr hσ, two_last, List.drop_zero, d1, e0, e1, loadP_one, len_enc, h0, bin_neqN, call67 X _ _ hm.2, eqb_ne h2, not_bool, Bool.not_true, Bool.not_false, decide_true, guardR_yes, nthV_zero, nthV_succ, pickV_false, condK_false, condK_true]
        simp [hi]
        rfl
    · simp only [bin_lss, iaddr_enc _ _ hi, iaddr_enc _ _ hi', Option.bind_some, loadV_cref, loadP_all (TMono.len _), loadP_all (TRat.len _), storeV_last (sz := 4) (cs := [.nils, .bool false, .nils, .nils]) rfl (TMono.len _) (TMono.scal _), faddrV_ptr, Nat.zero_add, loadV_last, loadV_prev (σ := σ) hlt, loadV_ptr hσ, two_last, List.drop_zero, d1, e0, e1, loadP_one, len_enc, h0, bin_neqN, not_bool, Bool.not_true, Bool.not_false, decide_false, guardR_tf, nthV_zero, nthV_succ, pickV_true, condK_true]
      simp [hi]
      rfl
theorem samePoly_ok (X : Ext) (p q : TPoly) (hp : p.ok) (hq : q.ok) : (Hw C X).pure 66 [.agg p.c, .agg q.c] = some [.bool (eqb p q)] := by
  have f0 : ∀ p : TPoly, loadP false 1 p.c = some (.int .i64 p.n) := fun _ => rfl
  have f1 : ∀ p : TPoly, List.drop 1 p.c = [encL 4 TMono.c p.terms] := fun _ => rfl
  rw [F66]
  by_cases h1 : p.n = q.n
  · by_cases h2 : p.terms.length = q.terms.length
    · have hL := L66 X p q hp hq h2 [.box p.c, .box q.c] rfl
      have : eqb p q = eqb p.terms q.terms := by
        obtain ⟨n, t⟩ := p
        obtain ⟨n', t'⟩ := q
        simp only at h1
        simp [eqb, h1]
      rw [this]
      simp [ld1, f0, f1, h1, h2]
      simpa [h2] using hL
    · have : p ≠ q := fun e => h2 (by rw [e])
      simp [ld1, f0, f1, h1, h2, eqb_ne this]
      rfl
  · have : p ≠ q := fun e => h1 (by rw [e])
    simp [ld1, f0, f1, h1, eqb_ne this]
    rfl
theorem call66 {R : Type} (X : Ext) (a b : TPoly) (ha : a.ok) (hb : b.ok) (σ : Heap) (pc : Bool) (k : PV → Heap → Option R) : callK C (Hw C X) σ pc (.fn 66 []) [.agg a.c, .agg b.c] k = k (.bool (eqb a b)) σ :=
  callK_pure C66 rfl (by simp only [pureL, PV.pure, TPoly.pure, Bool.and_self]) (by simp only [p66, canonA, canonV, TPoly.canon]) (samePoly_ok X a b ha hb)
theorem samePairs_ok (X : Ext) (xs ys : List TPair) (hx : Sm xs ∧ ∀ p ∈ xs, p.ok) (hy : Sm ys ∧ ∀ p ∈ ys, p.ok) : (Hw C X).pure 52 [encL 13 TPair.c xs, encL 13 TPair.c ys] = some [.bool (eqb xs ys)] := by
  obtain ⟨hb, hx⟩ := hx
  unfold Sm at hb
  rw [F52]
  by_cases hl : xs.length = ys.length
  · have hL : L52_1 X (encL 13 TPair.c xs) (encL 13 TPair.c ys) (.int .i64 (0 : Nat)) [] = some [.bool (eqb xs ys)] := by
      refine all_loop_bool (I := fun σ => True) (L := fun i σ => L52_1 X (encL 13 TPair.c xs) (encL 13 TPair.c ys) (.int .i64 (i : Nat)) σ) hl ?_ ?_ ?_ trivial
      · intro σ _
        try simp only
        rw [L52_1_eq]
        simp
        rfl
      · intro i hi hi' σ _ hc
        obtain ⟨k1, k2, k3⟩ := hx xs[i] (by simp)
        refine ⟨σ, trivial, ?_⟩
        try simp only
        rw [L52_1_eq]
        simp only [len_enc, bin_lss, iaddr_enc _ _ hi, iaddr_enc _ _ hi', Option.bind_some, faddrV_cref, loadV_cref, List.drop_zero, pa0, pa6, pa12, ← hc, call64 X _ _ k1 k1, call64 X _ _ k2 k2, call51 X _ _ k3 k3, eqb_eq, not_bool, Bool.not_true, guardR_yes, nthV_zero, nthV_succ, pickV_false, condK_false, bin_add, wrap_succ (show i < 9223372036854775807 by omega)]
        simp [hi]
      · intro i hi hi' σ _ hc
        obtain ⟨k1, k2, k3⟩ := hx xs[i] (by simp)
        obtain ⟨m1, m2, m3⟩ := hy.2 ys[i] (by simp)
        try simp only
        rw [L52_1_eq]
        by_cases h1 : xs[i].what = ys[i].what
        · by_cases h2 : xs[i].with_ = ys[i].with_
          · have h3 : xs[i].rates ≠ ys[i].rates := fun h3 => hc (by
              generalize xs[i] = a at h1 h2 h3
              generalize ys[i] = b at h1 h2 h3
              cases a; cases b; simp_all)
            simp only [len_enc, bin_lss, iaddr_enc _ _ hi, iaddr_enc _ _ hi', Option.bind_some, faddrV_cref, loadV_cref, List.drop_zero, pa0, pa6, pa12, call64 X _ _ k1 m1, call64 X _ _ k2 m2, call51 X _ _ k3 m3, not_bool, Bool.not_true, Bool.not_false, guardR_yes, guardR_tf, guardR_ft, nthV_zero, nthV_succ, pickV_false, pickV_true, condK_false, condK_true, eqb_eq h1, eqb_eq h2, eqb_ne h3]
            simp [hi]
            rfl
          · simp only [len_enc, bin_lss, iaddr_enc _ _ hi, iaddr_enc _ _ hi', Option.bind_some, faddrV_cref, loadV_cref, List.drop_zero, pa0, pa6, pa12, call64 X _ _ k1 m1, call64 X _ _ k2 m2, call51 X _ _ k3 m3, not_bool, Bool.not_true, Bool.not_false, guardR_yes, guardR_tf, guardR_ft, nthV_zero, nthV_succ, pickV_false, pickV_true, condK_false, condK_true, eqb_eq h1, eqb_ne h2]
            simp [hi]
            rfl
        · simp only [len_enc, bin_lss, iaddr_enc _ _ hi, iaddr_enc _ _ hi', Option.bind_some, faddrV_cref, loadV_cref, List.drop_zero, pa0, pa6, pa12, call64 X _ _ k1 m1, call64 X _ _ k2 m2, call51 X _ _ k3 m3, not_bool, Bool.not_true, Bool.not_false, guardR_yes, guardR_tf, guardR_ft, nthV_zero, nthV_succ, pickV_false, pickV_true, condK_false, condK_true, eqb_ne h1]
          simp [hi]
          rfl
    simp [hl]
    simpa [hl] using hL
  · have hne : xs ≠ ys := fun e => hl (by rw [e])
    simp [hl, eqb_ne hne]
    rfl
theorem call52 {R : Type} (X : Ext) (a b : List TPair) (ha : Sm a ∧ ∀ p ∈ a, p.ok) (hb : Sm b ∧ ∀ p ∈ b, p.ok) (σ : Heap) (pc : Bool) (k : PV → Heap → Option R) : callK C (Hw C X) σ pc (.fn 52 []) [encL 13 TPair.c a, encL 13 TPair.c b] k = k (.bool (eqb a b)) σ :=
  callK_pure C52 rfl (by simp only [pureL, encL_pure (fun x _ => TPair.pure x), Bool.and_self]) (by simp only [p52, canonA, canon_sl]) (samePairs_ok X a b ha hb)
theorem call54 {R : Type} (X : Ext) {a b : TCert} {r : Bool} (h : (Hw C X).pure 54 [.agg a.c, .agg b.c] = some [.bool r]) (σ : Heap) (pc : Bool) (k : PV → Heap → Option R) : callK C (Hw C X) σ pc (.fn 54 []) [.agg a.c, .agg b.c] k = k (.bool r) σ :=
  callK_pure C54 rfl (by simp only [pureL, PV.pure, TCert.pure, Bool.and_self]) (by simp only [p54, canonA, canonV, TCert.canon]) h
section
variable (X : Ext) {kind kind' : Int} {nums nums' : List TRat} {polys polys' : List TPoly} {squares squares' : List TSquare} {kids kids' : List TCert}
theorem L54a (hb : Sm kids) (hl : kids.length = kids'.length) (IH : ∀ x ∈ kids, ∀ y ∈ kids', (Hw C X).pure 54 [.agg x.c, .agg y.c] = some [.bool (eqb x y)]) :
    L54_1 X (.ptr 0 0) (.ptr 1 0) (.int .i64 (0 : Nat)) [.box (cc kind nums polys squares kids), .box (cc kind' nums' polys' squares' kids')] = some [.bool (eqb kids kids')] := by
  unfold Sm at hb
  refine all_loop_bool (I := fun σ => σ = [.box (cc kind nums polys squares kids), .box (cc kind' nums' polys' squares' kids')]) (L := fun i σ => L54_1 X (.ptr 0 0) (.ptr 1 0) (.int .i64 (i : Nat)) σ) hl ?_ ?_ ?_ rfl
  · rintro σ rfl
    try simp only
    rw [L54_1_eq]
    simp [cc]
    rfl
  · rintro i hi hi' σ rfl hc
    refine ⟨_, rfl, ?_⟩
    try simp only
    rw [L54_1_eq]
    simp [hi, hi', iaddr_enc, ld1, cc, loadP_all (TCert.len _), call54 X (IH _ (List.getElem_mem hi) _ (List.getElem_mem hi')), eqb_eq hc, wrap_succ (show i < 9223372036854775807 by omega)]
  · rintro i hi hi' σ rfl hc
    try simp only
    rw [L54_1_eq]
    simp [hi, hi', iaddr_enc, ld1, cc, loadP_all (TCert.len _), call54 X (IH _ (List.getElem_mem hi) _ (List.getElem_mem hi')), eqb_ne hc]
    rfl
theorem L54c (hb : Sm polys) (hl : polys.length = polys'.length) (h1 : ∀ p ∈ polys, p.ok) (h2 : ∀ p ∈ polys', p.ok) {r : Bool} (hT : J54_5 X (.ptr 0 0) (.ptr 1 0) [.box (cc kind nums polys squares kids), .box (cc kind' nums' polys' squares' kids')] = some [.bool r]) :
    L54_4 X (.ptr 0 0) (.ptr 1 0) (.int .i64 (0 : Nat)) [.box (cc kind nums polys squares kids), .box (cc kind' nums' polys' squares' kids')] = some [.bool (eqb polys polys' && r)] := by
  unfold Sm at hb
  obtain ⟨k1, k2⟩ := all_loop (F := some [.bool false]) (T := fun _ => some [.bool r]) (I := fun σ => σ = [.box (cc kind nums polys squares kids), .box (cc kind' nums' polys' squares' kids')]) (L := fun i σ => L54_4 X (.ptr 0 0) (.ptr 1 0) (.int .i64 (i : Nat)) σ) hl (by
    rintro σ rfl
    try simp only
    rw [L54_4_eq]
    simp [cc] at hT ⊢
    exact hT) (by
    rintro i hi hi' σ rfl hc
    refine ⟨_, rfl, ?_⟩
    try simp only
    rw [L54_4_eq]
    simp [hi, hi', iaddr_enc, ld1, cc, loadP_all (TPoly.len _), call66 X _ _ (h1 _ (List.getElem_mem hi)) (h2 _ (List.getElem_mem hi')), eqb_eq hc, wrap_succ (show i < 9223372036854775807 by omega)]) (by
    rintro i hi hi' σ rfl hc
    try simp only
    rw [L54_4_eq]
    simp [hi, hi', iaddr_enc, ld1, cc, loadP_all (TPoly.len _), call66 X _ _ (h1 _ (List.getElem_mem hi)) (h2 _ (List.getElem_mem hi')), eqb_ne hc]
    rfl) rfl
  by_cases h : polys = polys'
  · obtain ⟨_, _, h3⟩ := k1 h
    rw [eqb_eq h, Bool.true_and]; exact h3
  · rw [eqb_ne h]; exact k2 h
theorem L54b (hb : Sm squares) (hl : squares.length = squares'.length) (h1 : ∀ p ∈ squares, p.ok) (h2 : ∀ p ∈ squares', p.ok) {r : Bool} (hT : J54_3 X (.ptr 0 0) (.ptr 1 0) [.box (cc kind nums polys squares kids), .box (cc kind' nums' polys' squares' kids')] = some [.bool r]) :
    L54_2 X (.ptr 0 0) (.ptr 1 0) (.int .i64 (0 : Nat)) [.box (cc kind nums polys squares kids), .box (cc kind' nums' polys' squares' kids')] = some [.bool (eqb squares squares' && r)] := by
  unfold Sm at hb
  obtain ⟨k1, k2⟩ := all_loop (F := some [.bool false]) (T := fun _ => some [.bool r]) (I := fun σ => σ = [.box (cc kind nums polys squares kids), .box (cc kind' nums' polys' squares' kids')]) (L := fun i σ => L54_2 X (.ptr 0 0) (.ptr 1 0) (.int .i64 (i : Nat)) σ) hl (by
    rintro σ rfl
    try simp only
    rw [L54_2_eq]
    simp [cc] at hT ⊢
    exact hT) (by
    rintro i hi hi' σ rfl hc
    refine ⟨_, rfl, ?_⟩
    try simp only
    rw [L54_2_eq]
    simp [hi, hi', iaddr_enc, ld1, cc, sq0, sq3, call67 X _ _ (h2 _ (List.getElem_mem hi')).1, call66 X _ _ (h2 _ (List.getElem_mem hi')).2 (h2 _ (List.getElem_mem hi')).2, hc, eqb_eq, wrap_succ (show i < 9223372036854775807 by omega)]) (by
    rintro i hi hi' σ rfl hc
    try simp only
    rw [L54_2_eq]
    by_cases hw : squares[i].weight = squares'[i].weight
    · have hp : squares[i].poly ≠ squares'[i].poly := fun hp => hc (by
        generalize squares[i] = a at hw hp
        generalize squares'[i] = b at hw hp
        cases a; cases b; simp_all)
      simp [hi, hi', iaddr_enc, ld1, cc, sq0, sq3, call67 X _ _ (h1 _ (List.getElem_mem hi)).1, call66 X _ _ (h1 _ (List.getElem_mem hi)).2 (h2 _ (List.getElem_mem hi')).2, eqb_eq hw, eqb_ne hp]
      rfl
    · simp [hi, hi', iaddr_enc, ld1, cc, sq0, sq3, call67 X _ _ (h1 _ (List.getElem_mem hi)).1, eqb_ne hw]
      rfl) rfl
  by_cases h : squares = squares'
  · obtain ⟨_, _, h3⟩ := k1 h
    rw [eqb_eq h, Bool.true_and]; exact h3
  · rw [eqb_ne h]; exact k2 h
end
theorem sameCert_ok (X : Ext) : ∀ (a b : TCert), a.ok → b.ok → (Hw C X).pure 54 [.agg a.c, .agg b.c] = some [.bool (eqb a b)]
  | .mk kind nums polys squares kids, .mk kind' nums' polys' squares' kids', ha, hb => by
    obtain ⟨⟨a1, a1'⟩, ⟨a2, a2'⟩, ⟨a3, a3'⟩, a4, a4'⟩ := ha
    obtain ⟨⟨b1, b1'⟩, ⟨b2, b2'⟩, ⟨b3, b3'⟩, b4, b4'⟩ := hb
    rw [TCert.oks_iff] at a4' b4'
    have IH : ∀ x ∈ kids, ∀ y ∈ kids', (Hw C X).pure 54 [.agg x.c, .agg y.c] = some [.bool (eqb x y)] := fun x hx y hy => by
      have := List.sizeOf_lt_of_mem hx
      exact sameCert_ok X x y (a4' x hx) (b4' y hy)
    have w65 := fun σ pc (k : PV → Heap → Option (List PV × Heap)) => call65 X nums nums' ⟨a1, a1'⟩ σ pc k
    rw [F54, cc_eq, cc_eq]
    by_cases h1 : kind = kind'
    · by_cases h2 : nums = nums'
      · by_cases h3 : polys.length = polys'.length
        · by_cases h4 : squares.length = squares'.length
          · by_cases h5 : kids.length = kids'.length
            · have k1 := L54a X (kind := kind) (kind' := kind') (nums := nums) (nums' := nums') (polys := polys) (polys' := polys') (squares := squares) (squares' := squares') a4 h5 IH
              have j1 : J54_3 X (.ptr 0 0) (.ptr 1 0) [.box (cc kind nums polys squares kids), .box (cc kind' nums' polys' squares' kids')] = some [.bool (eqb kids kids')] := by
                rw [J54_3_eq]; simp [cc] at k1 ⊢; exact k1
              have k2 := L54b X a3 h4 a3' b3' j1
              have j2 : J54_5 X (.ptr 0 0) (.ptr 1 0) [.box (cc kind nums polys squares kids), .box (cc kind' nums' polys' squares' kids')] = some [.bool (eqb squares squares' && eqb kids kids')] := by
                rw [J54_5_eq]; simp [cc] at k2 ⊢; exact k2
              have k3 := L54c X a2 h3 a2' b2' j2
              have : eqb (TCert.mk kind nums polys squares kids) (TCert.mk kind' nums' polys' squares' kids') = (eqb polys polys' && (eqb squares squares' && eqb kids kids')) := by
                rw [Bool.eq_iff_iff]
                simp only [eqb_iff, Bool.and_eq_true, TCert.mk.injEq, h1, h2, true_and]
              rw [this]
              simp [cc, ld1, w65, h1, eqb_eq h2, h3, h4, h5] at k3 ⊢
              exact k3
            · rw [eqb_ne (fun e => h5 (by simp only [TCert.mk.injEq] at e; rw [e.2.2.2.2]))]
              simp [cc, ld1, w65, h1, eqb_eq h2, h3, h4, h5]
              rfl
          · rw [eqb_ne (fun e => h4 (by simp only [TCert.mk.injEq] at e; rw [e.2.2.2.1]))]
            simp [cc, ld1, w65, h1, eqb_eq h2, h3, h4]
            rfl
        · rw [eqb_ne (fun e => h3 (by simp only [TCert.mk.injEq] at e; rw [e.2.2.1]))]
          simp [cc, ld1, w65, h1, eqb_eq h2, h3]
          rfl
      · rw [eqb_ne (fun e => h2 (by simp only [TCert.mk.injEq] at e; rw [e.2.1]))]
        simp [cc, ld1, w65, h1, eqb_ne h2]
        rfl
    · rw [eqb_ne (fun e => h1 (by simp only [TCert.mk.injEq] at e; exact e.1))]
      simp [cc, ld1, h1]
      rfl
termination_by a => SizeOf.sizeOf a
theorem call54' {R : Type} (X : Ext) (a b : TCert) (ha : a.ok) (hb : b.ok) (σ : Heap) (pc : Bool) (k : PV → Heap → Option R) : callK C (Hw C X) σ pc (.fn 54 []) [.agg a.c, .agg b.c] k = k (.bool (eqb a b)) σ := call54 X (sameCert_ok X a b ha hb) σ pc k
theorem sameNode_ok (X : Ext) (a b : TProof) (ha : a.ok) (hb : b.ok) : (Hw C X).pure 35 [.agg a.c, .agg b.c] = some [.bool (eqb (bareOf a) (bareOf b))] := by
  have A := bare_ok_of ha
  have B := bare_ok_of hb
  have key : eqb (bareOf a) (bareOf b) = (eqb (bareOf a).rule (bareOf b).rule && (eqb (bareOf a).name (bareOf b).name && (eqb (bareOf a).forms (bareOf b).forms && (eqb (bareOf a).subst (bareOf b).subst && (eqb (bareOf a).path (bareOf b).path && (eqb (bareOf a).args (bareOf b).args && eqb (bareOf a).cert (bareOf b).cert)))))) := by
    rw [Bool.eq_iff_iff]
    simp only [eqb_iff, Bool.and_eq_true]
    generalize bareOf a = u
    generalize bareOf b = v
    cases u; cases v
    simp only [Bare.mk.injEq]
  rw [F35, key]
  have c1 := fun σ pc (k : PV → Heap → Option (List PV × Heap)) => call51 X _ _ A.forms B.forms σ pc k
  have c2 := fun σ pc (k : PV → Heap → Option (List PV × Heap)) => call52 X _ _ A.subst B.subst σ pc k
  have c3 := fun σ pc (k : PV → Heap → Option (List PV × Heap)) => call53 X (bareOf a).path (bareOf b).path A.path σ pc k
  have c4 := fun σ pc (k : PV → Heap → Option (List PV × Heap)) => call18 X (bareOf a).args (bareOf b).args A.args σ pc k
  have c5 := fun σ pc (k : PV → Heap → Option (List PV × Heap)) => call54' X _ _ A.cert B.cert σ pc k
  by_cases h1 : (bareOf a).rule = (bareOf b).rule
  · by_cases h2 : (bareOf a).name = (bareOf b).name
    · simp [ld1, pr0, pr1, pr1', pr2, pr3, pr4, pr5, pr6, h1, h2, eqb_eq, c1]
      cases eqb (bareOf a).forms (bareOf b).forms
      · simp; rfl
      · simp [ld1, pr3, c2]
        cases eqb (bareOf a).subst (bareOf b).subst
        · simp; rfl
        · simp [ld1, pr4, c3]
          cases eqb (bareOf a).path (bareOf b).path
          · simp; rfl
          · simp [ld1, pr5, c4]
            cases eqb (bareOf a).args (bareOf b).args
            · simp; rfl
            · simp [ld1, pr6, c5]
              cases eqb (bareOf a).cert (bareOf b).cert <;> rfl
    · simp [ld1, pr0, pr1, pr1', h1, h2, eqb_eq, eqb_ne h2]
      rfl
  · simp [ld1, pr0, h1, eqb_ne h1]
    rfl
theorem call35 {R : Type} (X : Ext) (a b : TProof) (ha : a.ok) (hb : b.ok) (σ : Heap) (pc : Bool) (k : PV → Heap → Option R) : callK C (Hw C X) σ pc (.fn 35 []) [.agg a.c, .agg b.c] k = k (.bool (eqb (bareOf a) (bareOf b))) σ :=
  callK_pure C35 rfl (by simp only [pureL, PV.pure, TProof.pure, Bool.and_self]) (by simp only [p35, canonA, canonV, TProof.canon]) (sameNode_ok X a b ha hb)
theorem call14 {R : Type} (X : Ext) {a b : TProof} {r : Bool} (h : (Hw C X).pure 14 [.agg a.c, .agg b.c] = some [.bool r]) (σ : Heap) (pc : Bool) (k : PV → Heap → Option R) : callK C (Hw C X) σ pc (.fn 14 []) [.agg a.c, .agg b.c] k = k (.bool r) σ :=
  callK_pure C14 rfl (by simp only [pureL, PV.pure, TProof.pure, Bool.and_self]) (by simp only [p14, canonA, canonV, TProof.canon]) h
theorem L14 (X : Ext) (a b : TProof) (hb : Sm (kidsOf a)) (hl : (kidsOf a).length = (kidsOf b).length) (IH : ∀ x ∈ kidsOf a, ∀ y ∈ kidsOf b, (Hw C X).pure 14 [.agg x.c, .agg y.c] = some [.bool (eqb x y)]) :
    L14_1 X (.ptr 0 0) (.ptr 1 0) (.int .i64 (0 : Nat)) [.box a.c, .box b.c] = some [.bool (eqb (kidsOf a) (kidsOf b))] := by
  unfold Sm at hb
  refine all_loop_bool (I := fun σ => σ = [.box a.c, .box b.c]) (L := fun i σ => L14_1 X (.ptr 0 0) (.ptr 1 0) (.int .i64 (i : Nat)) σ) hl ?_ ?_ ?_ rfl
  · rintro σ rfl
    try simp only
    rw [L14_1_eq]
    simp [pr11]
    rfl
  · rintro i hi hi' σ rfl hc
    refine ⟨_, rfl, ?_⟩
    try simp only
    rw [L14_1_eq]
    simp [hi, hi', iaddr_enc, ld1, pr11, loadP_all (TProof.len _), call14 X (IH _ (List.getElem_mem hi) _ (List.getElem_mem hi')), eqb_eq hc, wrap_succ (show i < 9223372036854775807 by omega)]
  · rintro i hi hi' σ rfl hc
    try simp only
    rw [L14_1_eq]
    simp [hi, hi', iaddr_enc, ld1, pr11, loadP_all (TProof.len _), call14 X (IH _ (List.getElem_mem hi) _ (List.getElem_mem hi')), eqb_ne hc]
    rfl
theorem same_ok (X : Ext) (a b : TProof) (ha : a.ok) (hb : b.ok) : (Hw C X).pure 14 [.agg a.c, .agg b.c] = some [.bool (eqb a b)] := by
  have A := kids_ok_of ha
  have B := kids_ok_of hb
  have IH : ∀ x ∈ kidsOf a, ∀ y ∈ kidsOf b, (Hw C X).pure 14 [.agg x.c, .agg y.c] = some [.bool (eqb x y)] := fun x hx y hy => by
    have := kids_size hx
    exact same_ok X x y (A.2 x hx) (B.2 y hy)
  rw [F14]
  by_cases h1 : bareOf a = bareOf b
  · by_cases h2 : (kidsOf a).length = (kidsOf b).length
    · have hL := L14 X a b A.1 h2 IH
      have : eqb a b = eqb (kidsOf a) (kidsOf b) := by
        rw [Bool.eq_iff_iff]
        simp only [eqb_iff, proof_eq, h1, true_and]
      rw [this]
      simp [ld1, loadP_all (TProof.len _), call35 X a b ha hb, eqb_eq h1, pr11, h2] at hL ⊢
      exact hL
    · rw [eqb_ne (fun e => h2 (by rw [e]))]
      simp [ld1, loadP_all (TProof.len _), call35 X a b ha hb, eqb_eq h1, pr11, h2]
      rfl
  · rw [eqb_ne (fun e => h1 (by rw [e]))]
    simp [ld1, loadP_all (TProof.len _), call35 X a b ha hb, eqb_ne h1]
    rfl
termination_by SizeOf.sizeOf a
end Go.Proofs.YtkpbfldnickghaaDoor
set_option linter.unusedVariables false
set_option linter.unusedSimpArgs false
namespace Go.Proofs.YtkpbfldnickghaaDoor
open Go Go.PE
/-- It answers some number. -/
def AnsI (r : Option (List PV)) : Prop := ∃ k : Int, r = some [.int .i64 k]
theorem sum_loop {R : Type} {n : Nat} {L : Nat → Int → Heap → Option R} {Q : Option R → Prop} {I : Heap → Prop} (hend : ∀ m τ, I τ → Q (L n m τ)) (hstep : ∀ i, i < n → ∀ m τ, I τ → ∃ m' τ', I τ' ∧ L i m τ = L (i + 1) m' τ') (m : Int) (τ : Heap) (hI : I τ) : Q (L 0 m τ) := by
  have key : ∀ (d i : Nat), i + d = n → ∀ m τ, I τ → Q (L i m τ) := by
    intro d
    induction d with
    | zero => intro i hi m τ hI; obtain rfl : i = n := by omega
              exact hend m τ hI
    | succ d ih =>
      intro i hi m τ hI
      obtain ⟨m', τ', hI', e⟩ := hstep i (by omega) m τ hI
      rw [e]
      exact ih (i + 1) (by omega) m' τ' hI'
  exact key n 0 (by omega) m τ hI
theorem nd5 (n : TNode) : ∃ ks, n.c.drop 5 = [encL 6 TNode.c ks] ∧ (∀ k ∈ ks, SizeOf.sizeOf k < SizeOf.sizeOf n) ∧ (n.ok → Sm ks ∧ ∀ k ∈ ks, k.ok) := by
  obtain ⟨op, name, num, kids⟩ := n
  refine ⟨kids, by rw [TNode.c_eq]; rfl, fun k hk => ?_, fun h => ?_⟩
  · have := List.sizeOf_lt_of_mem hk
    simp only [TNode.mk.sizeOf_spec]
    omega
  · obtain ⟨_, h1, h2⟩ := h
    exact ⟨h1, TNode.oks_iff.1 h2⟩
theorem callI {R : Type} {X : Ext} {f : Nat} {pf : PFunc} (hf : C f = some pf) {args : List PV} (h0 : (pf.keep.all (fun k => !k.1) && !pf.keepr.any (·.1)) = true) (h1 : pureL args = true) (h2 : canonA pf.keep args = args) (h : AnsI ((Hw C X).pure f args)) :
    ∃ k : Int, ∀ (σ : Heap) (pc : Bool) (K : PV → Heap → Option R), callK C (Hw C X) σ pc (.fn f []) args K = K (.int .i64 k) σ := by
  obtain ⟨k, hk⟩ := h
  exact ⟨k, fun σ pc K => callK_pure hf h0 h1 h2 hk⟩
theorem size8_ok (X : Ext) : ∀ (n : TNode), n.ok → AnsI ((Hw C X).pure 20 [.agg n.c])
  | n, hn => by
    obtain ⟨ks, e5, hs, ho⟩ := nd5 n
    obtain ⟨hb, hk⟩ := ho hn
    unfold Sm at hb
    rw [F20]
    simp only [boxV_agg, Option.bind_some, List.nil_append, List.length_nil]
    refine sum_loop (n := ks.length) (Q := AnsI) (I := fun σ => σ = [.box n.c]) (L := fun i m σ => L20_1 X (.ptr 0 0) (.int .i64 m) (.int .i64 (i : Nat)) σ) ?_ ?_ 1 _ rfl
    · rintro m τ rfl
      try simp only
      rw [L20_1_eq]
      simp [e5]
      exact ⟨m, rfl⟩
    · rintro i hi m τ rfl
      obtain ⟨k, hc⟩ := callI (R := List PV) (args := [.agg ks[i].c]) C20 rfl (by simp only [pureL, PV.pure, TNode.pure, Bool.and_self]) (by simp only [p20, canonA, canonV, TNode.canon]) (by
        have := hs ks[i] (List.getElem_mem hi)
        exact size8_ok X ks[i] (hk _ (List.getElem_mem hi)))
      refine ⟨IntKind.i64.wrap (m + k), _, rfl, ?_⟩
      try simp only
      rw [L20_1_eq]
      simp [e5, hi, iaddr_enc, loadP_all (TNode.len _), hc, wrap_succ (show i < 9223372036854775807 by omega)]
termination_by n => SizeOf.sizeOf n
theorem call20 {R : Type} (X : Ext) (n : TNode) (h : n.ok) : ∃ k : Int, ∀ (σ : Heap) (pc : Bool) (K : PV → Heap → Option R), callK C (Hw C X) σ pc (.fn 20 []) [.agg n.c] K = K (.int .i64 k) σ :=
  callI C20 rfl (by simp only [pureL, PV.pure, TNode.pure, Bool.and_self]) (by simp only [p20, canonA, canonV, TNode.canon]) (size8_ok X n h)
theorem mx_two (σ : Heap) (a b : Int) : evPrim [] σ (.mx [(.cst (.int .i64 a)), (.cst (.int .i64 b))]) = some (.int .i64 (maxL a [b]), σ) := by
  simp [evPrim, Opd.ev, intsOf]
theorem mn_two (σ : Heap) (a b : Int) : evPrim [] σ (.mn [(.cst (.int .i64 a)), (.cst (.int .i64 b))]) = some (.int .i64 (minL a [b]), σ) := by
  simp [evPrim, Opd.ev, intsOf]
theorem terms_ok (X : Ext) (p : TPoly) (hp : p.ok) : AnsI ((Hw C X).pure 39 [.agg p.c]) := by
  have hb := hp.1
  unfold Sm at hb
  rw [F39]
  simp only [boxV_agg, Option.bind_some, List.nil_append, List.length_nil]
  have d1 : List.drop 1 p.c = [encL 4 TMono.c p.terms] := rfl
  have e0 : ∀ m : TMono, loadP false 1 m.c = some (encL 1 cInt m.exps) := fun _ => rfl
  have e2 : ∀ m : TMono, loadP false 1 (m.c.drop 2) = some (encL 1 cU32 m.coef.num) := fun _ => rfl
  have e3 : ∀ m : TMono, loadP false 1 (m.c.drop 3) = some (encL 1 cU32 m.coef.den) := fun _ => rfl
  refine sum_loop (n := p.terms.length) (Q := AnsI) (I := fun σ => σ = [.box p.c]) (L := fun i m σ => L39_1 X (.ptr 0 0) (.int .i64 m) (.int .i64 (i : Nat)) σ) ?_ ?_ 0 _ rfl
  · rintro m τ rfl
    try simp only
    rw [L39_1_eq]
    simp [d1]
    exact ⟨m, rfl⟩
  · rintro i hi m τ rfl
    have hm := hp.2 p.terms[i] (by simp)
    have hb2 := hm.1
    unfold Sm at hb2
    have inner : ∀ (m0 : Int), ∃ m' : Int, L39_2 X (.ptr 0 0) (.int .i64 m0) (.int .i64 (i : Nat)) (.int .i64 (0 : Nat)) [.box p.c] = L39_1 X (.ptr 0 0) (.int .i64 m') (.int .i64 ((i + 1 : Nat) : Int)) [.box p.c] := by
      intro m0
      refine sum_loop (n := p.terms[i].exps.length) (Q := fun r => ∃ m' : Int, r = L39_1 X (.ptr 0 0) (.int .i64 m') (.int .i64 ((i + 1 : Nat) : Int)) [.box p.c]) (I := fun σ => σ = [.box p.c]) (L := fun j m σ => L39_2 X (.ptr 0 0) (.int .i64 m) (.int .i64 (i : Nat)) (.int .i64 (j : Nat)) σ) ?_ ?_ m0 _ rfl
      · rintro m τ rfl
        refine ⟨m, ?_⟩
        try simp only
        rw [L39_2_eq]
        simp [d1, hi, iaddr_enc, e0, wrap_succ (show i < 9223372036854775807 by omega)]
      · rintro j hj m τ rfl
        refine ⟨IntKind.i64.wrap (m + IntKind.i64.wrap (4 * minL 100 [maxL 0 [p.terms[i].exps[j]]])), _, rfl, ?_⟩
        try simp only
        rw [L39_2_eq]
        simp [d1, hi, hj, iaddr_enc, e0, cInt, mx_two, mn_two, wrap_succ (show j < 9223372036854775807 by omega)]
    obtain ⟨m', h'⟩ := inner (IntKind.i64.wrap (m + IntKind.i64.wrap (40 + IntKind.i64.wrap (10 * IntKind.i64.wrap (((p.terms[i].coef.num.length : Nat) : Int) + ((p.terms[i].coef.den.length : Nat) : Int))))))
    refine ⟨m', _, rfl, ?_⟩
    try simp only
    rw [← h', L39_1_eq]
    simp [d1, hi, iaddr_enc, e2, e3]
theorem call39 {R : Type} (X : Ext) (p : TPoly) (h : p.ok) : ∃ k : Int, ∀ (σ : Heap) (pc : Bool) (K : PV → Heap → Option R), callK C (Hw C X) σ pc (.fn 39 []) [.agg p.c] K = K (.int .i64 k) σ :=
  callI C39 rfl (by simp only [pureL, PV.pure, TPoly.pure, Bool.and_self]) (by simp only [p39, canonA, canonV, TPoly.canon]) (terms_ok X p h)
theorem cweight_ok (X : Ext) : ∀ (c : TCert), c.ok → AnsI ((Hw C X).pure 19 [.agg c.c])
  | .mk kind nums polys squares kids, hc => by
    obtain ⟨⟨a1, a1'⟩, ⟨a2, a2'⟩, ⟨a3, a3'⟩, a4, a4'⟩ := hc
    rw [TCert.oks_iff] at a4'
    unfold Sm at a1 a2 a3 a4
    rw [F19, cc_eq]
    simp only [boxV_agg, Option.bind_some, List.nil_append, List.length_nil]
    have r1 : ∀ r : TRat, loadP false 1 (r.c.drop 1) = some (encL 1 cU32 r.num) := fun _ => rfl
    have r1' : ∀ r : TRat, loadP false 1 (r.c.tail) = some (encL 1 cU32 r.num) := fun _ => rfl
    have r2 : ∀ r : TRat, loadP false 1 (r.c.drop 2) = some (encL 1 cU32 r.den) := fun _ => rfl
    have s1 : ∀ r : TSquare, loadP false 1 (r.c.drop 1) = some (encL 1 cU32 r.weight.num) := fun _ => rfl
    have s1' : ∀ r : TSquare, loadP false 1 (r.c.tail) = some (encL 1 cU32 r.weight.num) := fun _ => rfl
    have s2 : ∀ r : TSquare, loadP false 1 (r.c.drop 2) = some (encL 1 cU32 r.weight.den) := fun _ => rfl
    have H1 : ∀ m : Int, AnsI (J19_3 X (.ptr 0 0) (.int .i64 m) [.box (cc kind nums polys squares kids)]) := fun m => by
      rw [J19_3_eq]
      refine sum_loop (n := kids.length) (Q := AnsI) (I := fun σ => σ = [.box (cc kind nums polys squares kids)]) (L := fun i m σ => L19_1 X (.ptr 0 0) (.int .i64 m) (.int .i64 (i : Nat)) σ) ?_ ?_ m _ rfl
      · rintro m τ rfl
        try simp only
        rw [L19_1_eq]
        simp [cc]
        exact ⟨m, rfl⟩
      · rintro i hi m τ rfl
        obtain ⟨k, hc⟩ := callI (R := List PV) (args := [.agg kids[i].c]) C19 rfl (by simp only [pureL, PV.pure, TCert.pure, Bool.and_self]) (by simp only [p19, canonA, canonV, TCert.canon]) (by
          have := List.sizeOf_lt_of_mem (List.getElem_mem hi)
          exact cweight_ok X kids[i] (a4' _ (List.getElem_mem hi)))
        refine ⟨IntKind.i64.wrap (m + IntKind.i64.wrap (1 + k)), _, rfl, ?_⟩
        try simp only
        rw [L19_1_eq]
        simp [cc, hi, iaddr_enc, loadP_all (TCert.len _), hc, wrap_succ (show i < 9223372036854775807 by omega)]
    have H2 : ∀ m : Int, AnsI (J19_5 X (.ptr 0 0) (.int .i64 m) [.box (cc kind nums polys squares kids)]) := fun m => by
      rw [J19_5_eq]
      refine sum_loop (n := squares.length) (Q := AnsI) (I := fun σ => σ = [.box (cc kind nums polys squares kids)]) (L := fun i m σ => L19_2 X (.ptr 0 0) (.int .i64 m) (.int .i64 (i : Nat)) σ) ?_ ?_ m _ rfl
      · rintro m τ rfl
        try simp only
        rw [L19_2_eq]
        simpa [cc] using H1 m
      · rintro i hi m τ rfl
        obtain ⟨k, hc⟩ := call39 (R := List PV) X squares[i].poly (a3' _ (List.getElem_mem hi)).2
        refine ⟨IntKind.i64.wrap (m + IntKind.i64.wrap (IntKind.i64.wrap (1 + IntKind.i64.wrap (4 * IntKind.i64.wrap (((squares[i].weight.num.length : Nat) : Int) + ((squares[i].weight.den.length : Nat) : Int)))) + k)), _, rfl, ?_⟩
        try simp only
        rw [L19_2_eq]
        simp [cc, hi, iaddr_enc, s1', s2, sq3, hc, wrap_succ (show i < 9223372036854775807 by omega)]
    have H3 : ∀ m : Int, AnsI (J19_7 X (.ptr 0 0) (.int .i64 m) [.box (cc kind nums polys squares kids)]) := fun m => by
      rw [J19_7_eq]
      refine sum_loop (n := polys.length) (Q := AnsI) (I := fun σ => σ = [.box (cc kind nums polys squares kids)]) (L := fun i m σ => L19_4 X (.ptr 0 0) (.int .i64 m) (.int .i64 (i : Nat)) σ) ?_ ?_ m _ rfl
      · rintro m τ rfl
        try simp only
        rw [L19_4_eq]
        simpa [cc] using H2 m
      · rintro i hi m τ rfl
        obtain ⟨k, hc⟩ := call39 (R := List PV) X polys[i] (a2' _ (List.getElem_mem hi))
        refine ⟨IntKind.i64.wrap (m + IntKind.i64.wrap (1 + k)), _, rfl, ?_⟩
        try simp only
        rw [L19_4_eq]
        simp [cc, hi, iaddr_enc, loadP_all (TPoly.len _), hc, wrap_succ (show i < 9223372036854775807 by omega)]
    refine sum_loop (n := nums.length) (Q := AnsI) (I := fun σ => σ = [.box (cc kind nums polys squares kids)]) (L := fun i m σ => L19_6 X (.ptr 0 0) (.int .i64 m) (.int .i64 (i : Nat)) σ) ?_ ?_ 0 _ rfl
    · rintro m τ rfl
      try simp only
      rw [L19_6_eq]
      simpa [cc] using H3 m
    · rintro i hi m τ rfl
      refine ⟨IntKind.i64.wrap (m + IntKind.i64.wrap (1 + IntKind.i64.wrap (4 * IntKind.i64.wrap (((nums[i].num.length : Nat) : Int) + ((nums[i].den.length : Nat) : Int))))), _, rfl, ?_⟩
      try simp only
      rw [L19_6_eq]
      simp [cc, hi, iaddr_enc, r1', r2, wrap_succ (show i < 9223372036854775807 by omega)]
termination_by c => SizeOf.sizeOf c
theorem call19 {R : Type} (X : Ext) (c : TCert) (h : c.ok) : ∃ k : Int, ∀ (σ : Heap) (pc : Bool) (K : PV → Heap → Option R), callK C (Hw C X) σ pc (.fn 19 []) [.agg c.c] K = K (.int .i64 k) σ :=
  callI C19 rfl (by simp only [pureL, PV.pure, TCert.pure, Bool.and_self]) (by simp only [p19, canonA, canonV, TCert.canon]) (cweight_ok X c h)
theorem weight_ok (X : Ext) : ∀ (p : TProof), p.ok → AnsI ((Hw C X).pure 7 [.agg p.c])
  | p, hp => by
    have A := bare_ok_of hp
    have K := kids_ok_of hp
    have b1 := A.forms.1
    have b2 := A.subst.1
    have b3 := K.1
    unfold Sm at b1 b2 b3
    obtain ⟨kc, hcc⟩ := call19 (R := List PV) X (bareOf p).cert A.cert
    rw [F7]
    simp only [boxV_agg, Option.bind_some, List.nil_append, List.length_nil, faddrV_ptr, Nat.zero_add, loadV_ptr0, pr4, pr5, pr6, len_enc, hcc, bin_add]
    have H1 : ∀ m : Int, AnsI (J7_4 X (.ptr 0 0) (.int .i64 m) [.box p.c]) := fun m => by
      rw [J7_4_eq]
      refine sum_loop (n := (kidsOf p).length) (Q := AnsI) (I := fun σ => σ = [.box p.c]) (L := fun i m σ => L7_1 X (.ptr 0 0) (.int .i64 m) (.int .i64 (i : Nat)) σ) ?_ ?_ m _ rfl
      · rintro m τ rfl
        try simp only
        rw [L7_1_eq]
        simp [pr11]
        exact ⟨m, rfl⟩
      · rintro i hi m τ rfl
        obtain ⟨k, hc⟩ := callI (R := List PV) (args := [.agg (kidsOf p)[i].c]) C7 rfl (by simp only [pureL, PV.pure, TProof.pure, Bool.and_self]) (by simp only [p7, canonA, canonV, TProof.canon]) (by
          have := kids_size (List.getElem_mem hi)
          exact weight_ok X (kidsOf p)[i] (K.2 _ (List.getElem_mem hi)))
        refine ⟨IntKind.i64.wrap (m + k), _, rfl, ?_⟩
        try simp only
        rw [L7_1_eq]
        simp [pr11, hi, iaddr_enc, loadP_all (TProof.len _), hc, wrap_succ (show i < 9223372036854775807 by omega)]
    have H2 : ∀ m : Int, AnsI (J7_6 X (.ptr 0 0) (.int .i64 m) [.box p.c]) := fun m => by
      rw [J7_6_eq]
      refine sum_loop (n := (bareOf p).subst.length) (Q := AnsI) (I := fun σ => σ = [.box p.c]) (L := fun i m σ => L7_2 X (.ptr 0 0) (.int .i64 m) (.int .i64 (i : Nat)) σ) ?_ ?_ m _ rfl
      · rintro m τ rfl
        try simp only
        rw [L7_2_eq]
        simpa [pr3] using H1 m
      · rintro i hi m τ rfl
        obtain ⟨q1, q2, q3⟩ := A.subst.2 _ (List.getElem_mem hi)
        have q3b := q3.1
        unfold Sm at q3b
        obtain ⟨k1, hc1⟩ := call20 (R := List PV) X _ q1
        obtain ⟨k2, hc2⟩ := call20 (R := List PV) X _ q2
        have inner : ∀ (m0 : Int), ∃ m' : Int, L7_3 X (.ptr 0 0) (.int .i64 m0) (.int .i64 (i : Nat)) (.int .i64 (0 : Nat)) [.box p.c] = L7_2 X (.ptr 0 0) (.int .i64 m') (.int .i64 ((i + 1 : Nat) : Int)) [.box p.c] := by
          intro m0
          refine sum_loop (n := (bareOf p).subst[i].rates.length) (Q := fun r => ∃ m' : Int, r = L7_2 X (.ptr 0 0) (.int .i64 m') (.int .i64 ((i + 1 : Nat) : Int)) [.box p.c]) (I := fun σ => σ = [.box p.c]) (L := fun j m σ => L7_3 X (.ptr 0 0) (.int .i64 m) (.int .i64 (i : Nat)) (.int .i64 (j : Nat)) σ) ?_ ?_ m0 _ rfl
          · rintro m τ rfl
            refine ⟨m, ?_⟩
            try simp only
            rw [L7_3_eq]
            simp [pr3, hi, iaddr_enc, pa12, wrap_succ (show i < 9223372036854775807 by omega)]
          · rintro j hj m τ rfl
            obtain ⟨k3, hc3⟩ := call20 (R := List PV) X _ (q3.2 _ (List.getElem_mem hj))
            refine ⟨IntKind.i64.wrap (m + k3), _, rfl, ?_⟩
            try simp only
            rw [L7_3_eq]
            simp [pr3, hi, hj, iaddr_enc, pa12, loadP_all (TNode.len _), hc3, wrap_succ (show j < 9223372036854775807 by omega)]
        obtain ⟨m', h'⟩ := inner (IntKind.i64.wrap (m + IntKind.i64.wrap (k1 + k2)))
        refine ⟨m', _, rfl, ?_⟩
        try simp only
        rw [← h', L7_2_eq]
        simp [pr3, hi, iaddr_enc, pa0, pa6, hc1, hc2]
    refine sum_loop (n := (bareOf p).forms.length) (Q := AnsI) (I := fun σ => σ = [.box p.c]) (L := fun i m σ => L7_5 X (.ptr 0 0) (.int .i64 m) (.int .i64 (i : Nat)) σ) ?_ ?_ _ _ rfl
    · rintro m τ rfl
      try simp only
      rw [L7_5_eq]
      simpa [pr2] using H2 m
    · rintro i hi m τ rfl
      obtain ⟨k, hc⟩ := call20 (R := List PV) X _ (A.forms.2 _ (List.getElem_mem hi))
      refine ⟨IntKind.i64.wrap (m + k), _, rfl, ?_⟩
      try simp only
      rw [L7_5_eq]
      simp [pr2, hi, iaddr_enc, loadP_all (TNode.len _), hc, wrap_succ (show i < 9223372036854775807 by omega)]
termination_by p => SizeOf.sizeOf p
theorem call7 {R : Type} (X : Ext) (p : TProof) (h : p.ok) : ∃ k : Int, ∀ (σ : Heap) (pc : Bool) (K : PV → Heap → Option R), callK C (Hw C X) σ pc (.fn 7 []) [.agg p.c] K = K (.int .i64 k) σ :=
  callI C7 rfl (by simp only [pureL, PV.pure, TProof.pure, Bool.and_self]) (by simp only [p7, canonA, canonV, TProof.canon]) (weight_ok X p h)
end Go.Proofs.YtkpbfldnickghaaDoor
