/- The program's data as Lean's own, and how they stand in abstract values. -/
import Derived.Test.YtkpbfldnickghaaDoorPEn
set_option linter.unusedVariables false
set_option linter.unusedSimpArgs false
namespace Go.PE

abbrev Str := List UInt8
structure TRat where
  neg : Bool
  num : List Nat
  den : List Nat
inductive TNode where
  | mk (op : Int) (name : Str) (num : TRat) (kids : List TNode)
structure TMono where
  exps : List Int
  coef : TRat
structure TPoly where
  n : Int
  terms : List TMono
structure TSquare where
  weight : TRat
  poly : TPoly
structure TPair where
  what : TNode
  with_ : TNode
  rates : List TNode
inductive TCert where
  | mk (kind : Int) (nums : List TRat) (polys : List TPoly) (squares : List TSquare) (kids : List TCert)
inductive TProof where
  | mk (rule name : Str) (forms : List TNode) (subst : List TPair) (path : List Int) (args : List Str) (cert : TCert) (kids : List TProof)
structure TStep where
  what : TProof
  kids : List Int

def cInt (n : Int) : List PV := [.int .i64 n]
def cU32 (n : Nat) : List PV := [.int .u32 n]
def cStr (s : Str) : List PV := [.str s]
def TRat.c (r : TRat) : List PV := [.bool r.neg, encL 1 cU32 r.num, encL 1 cU32 r.den]
mutual
def TNode.c : TNode → List PV
  | .mk op name num kids => [.int .i64 op, .str name, .bool num.neg, encL 1 cU32 num.num, encL 1 cU32 num.den, .sl 6 false (TNode.cs kids)]
def TNode.cs : List TNode → List (List PV)
  | [] => []
  | n :: r => n.c :: TNode.cs r
end
theorem TNode.cs_map : ∀ l, TNode.cs l = l.map TNode.c
  | [] => by simp [TNode.cs]
  | n :: r => by simp [TNode.cs, TNode.cs_map r]
def TMono.c (m : TMono) : List PV := encL 1 cInt m.exps :: m.coef.c
def TPoly.c (p : TPoly) : List PV := [.int .i64 p.n, encL 4 TMono.c p.terms]
def TSquare.c (s : TSquare) : List PV := s.weight.c ++ s.poly.c
def TPair.c (p : TPair) : List PV := p.what.c ++ p.with_.c ++ [encL 6 TNode.c p.rates]
mutual
def TCert.c : TCert → List PV
  | .mk kind nums polys squares kids => [.int .i64 kind, encL 3 TRat.c nums, encL 2 TPoly.c polys, encL 5 TSquare.c squares, .sl 5 false (TCert.cs kids)]
def TCert.cs : List TCert → List (List PV)
  | [] => []
  | n :: r => n.c :: TCert.cs r
end
theorem TCert.cs_map : ∀ l, TCert.cs l = l.map TCert.c
  | [] => by simp [TCert.cs]
  | n :: r => by simp [TCert.cs, TCert.cs_map r]
mutual
def TProof.c : TProof → List PV
  | .mk rule name forms subst path args cert kids => [.str rule, .str name, encL 6 TNode.c forms, encL 13 TPair.c subst, encL 1 cInt path, encL 1 cStr args] ++ cert.c ++ [.sl 12 false (TProof.cs kids)]
def TProof.cs : List TProof → List (List PV)
  | [] => []
  | n :: r => n.c :: TProof.cs r
end
theorem TProof.cs_map : ∀ l, TProof.cs l = l.map TProof.c
  | [] => by simp [TProof.cs]
  | n :: r => by simp [TProof.cs, TProof.cs_map r]
def TStep.c (s : TStep) : List PV := s.what.c ++ [encL 1 cInt s.kids]
theorem TNode.c_eq (op : Int) (name : Str) (num : TRat) (kids : List TNode) : (TNode.mk op name num kids).c = [.int .i64 op, .str name, .bool num.neg, encL 1 cU32 num.num, encL 1 cU32 num.den, encL 6 TNode.c kids] := by rw [TNode.c, TNode.cs_map]; rfl
theorem TCert.c_eq (kind : Int) (nums : List TRat) (polys : List TPoly) (squares : List TSquare) (kids : List TCert) : (TCert.mk kind nums polys squares kids).c = [.int .i64 kind, encL 3 TRat.c nums, encL 2 TPoly.c polys, encL 5 TSquare.c squares, encL 5 TCert.c kids] := by rw [TCert.c, TCert.cs_map]; rfl
theorem TProof.c_eq (rule name : Str) (forms : List TNode) (subst : List TPair) (path : List Int) (args : List Str) (cert : TCert) (kids : List TProof) : (TProof.mk rule name forms subst path args cert kids).c = [.str rule, .str name, encL 6 TNode.c forms, encL 13 TPair.c subst, encL 1 cInt path, encL 1 cStr args] ++ cert.c ++ [encL 12 TProof.c kids] := by rw [TProof.c, TProof.cs_map]; rfl

/-! ### They are values -/
theorem pureLL_map {α : Type} {f : α → List PV} : ∀ (l : List α), (∀ x ∈ l, pureL (f x) = true) → pureLL (l.map f) = true
  | [], _ => rfl
  | x :: l, h => by
    simp only [List.map_cons, pureLL, Bool.and_eq_true]
    exact ⟨h x (by simp), pureLL_map l fun y hy => h y (by simp [hy])⟩
theorem encL_pure {α : Type} {st : Nat} {f : α → List PV} {l : List α} (h : ∀ x ∈ l, pureL (f x) = true) : (encL st f l).pure = true := pureLL_map l h
theorem cInt_pure (n : Int) : pureL (cInt n) = true := rfl
theorem cU32_pure (n : Nat) : pureL (cU32 n) = true := rfl
theorem cStr_pure (s : Str) : pureL (cStr s) = true := rfl
theorem TRat.pure (r : TRat) : pureL r.c = true := by
  simp only [TRat.c, pureL, PV.pure, encL_pure (fun x _ => cU32_pure x), Bool.and_true]
mutual
theorem TNode.pure : ∀ (n : TNode), pureL n.c = true
  | .mk op name num kids => by
    simp only [TNode.c, pureL, PV.pure, encL_pure (fun x _ => cU32_pure x), Bool.and_true, Bool.true_and]
    exact TNode.pures kids
theorem TNode.pures : ∀ (l : List TNode), pureLL (TNode.cs l) = true
  | [] => by simp [TNode.cs, pureLL]
  | n :: r => by simp [TNode.cs, pureLL, TNode.pure n, TNode.pures r]
end
theorem pureL_app {a b : List PV} : pureL (a ++ b) = (pureL a && pureL b) := by
  induction a with
  | nil => rfl
  | cons v r ih => simp only [List.cons_append, pureL, ih, Bool.and_assoc]
theorem TMono.pure (m : TMono) : pureL m.c = true := by
  simp only [TMono.c, pureL, encL_pure (fun x _ => cInt_pure x), TRat.pure, Bool.and_self]
theorem TPoly.pure (p : TPoly) : pureL p.c = true := by
  simp only [TPoly.c, pureL, PV.pure, encL_pure (fun x _ => TMono.pure x), Bool.and_self]
theorem TSquare.pure (s : TSquare) : pureL s.c = true := by
  simp only [TSquare.c, pureL_app, TRat.pure, TPoly.pure, Bool.and_self]
theorem TPair.pure (p : TPair) : pureL p.c = true := by
  simp only [TPair.c, pureL_app, TNode.pure, pureL, encL_pure (fun x _ => TNode.pure x), Bool.and_self]
mutual
theorem TCert.pure : ∀ (c : TCert), pureL c.c = true
  | .mk kind nums polys squares kids => by
    simp only [TCert.c, pureL, encL_pure (fun x _ => TRat.pure x), encL_pure (fun x _ => TPoly.pure x), encL_pure (fun x _ => TSquare.pure x), PV.pure, Bool.and_true, Bool.true_and]
    exact TCert.pures kids
theorem TCert.pures : ∀ (l : List TCert), pureLL (TCert.cs l) = true
  | [] => by simp [TCert.cs, pureLL]
  | n :: r => by simp [TCert.cs, pureLL, TCert.pure n, TCert.pures r]
end
mutual
theorem TProof.pure : ∀ (p : TProof), pureL p.c = true
  | .mk rule name forms subst path args cert kids => by
    simp only [TProof.c, pureL_app, pureL, encL_pure (fun x _ => TNode.pure x), encL_pure (fun x _ => TPair.pure x), encL_pure (fun x _ => cInt_pure x), encL_pure (fun x _ => cStr_pure x), TCert.pure, PV.pure, Bool.and_true, Bool.true_and]
    exact TProof.pures kids
theorem TProof.pures : ∀ (l : List TProof), pureLL (TProof.cs l) = true
  | [] => by simp [TProof.cs, pureLL]
  | n :: r => by simp [TProof.cs, pureLL, TProof.pure n, TProof.pures r]
end
theorem TStep.pure (s : TStep) : pureL s.c = true := by
  simp only [TStep.c, pureL_app, TProof.pure, pureL, encL_pure (fun x _ => cInt_pure x), Bool.and_self]

/-! ### They are in their canonical form -/
theorem canon1_encL {α : Type} {st : Nat} {f : α → List PV} {l : List α} : canon1 (some st) (encL st f l) = encL st f l := by simp [canon1, encL]
theorem canon1_none (v : PV) : canon1 none v = v := by cases v <;> rfl
theorem TRat.canon (r : TRat) : canonL [none, some 1, some 1] r.c = r.c := by simp [TRat.c, canonL, canon1_encL, canon1_none]
theorem TNode.canon (n : TNode) : canonL [none, none, none, some 1, some 1, some 6] n.c = n.c := by
  obtain ⟨op, name, num, kids⟩ := n
  simp [TNode.c_eq, canonL, canon1_encL, canon1_none]
theorem TMono.canon (m : TMono) : canonL [some 1, none, some 1, some 1] m.c = m.c := by simp [TMono.c, TRat.c, canonL, canon1_encL, canon1_none]
theorem TPoly.canon (p : TPoly) : canonL [none, some 4] p.c = p.c := by simp [TPoly.c, canonL, canon1_encL, canon1_none]
theorem TSquare.canon (s : TSquare) : canonL [none, some 1, some 1, none, some 4] s.c = s.c := by simp [TSquare.c, TPoly.c, TRat.c, canonL, canon1_encL, canon1_none]
theorem TCert.canon (c : TCert) : canonL [none, some 3, some 2, some 5, some 5] c.c = c.c := by
  obtain ⟨kind, nums, polys, squares, kids⟩ := c
  simp [TCert.c_eq, canonL, canon1_encL, canon1_none]
theorem TProof.canon (p : TProof) : canonL [none, none, some 6, some 13, some 1, some 1, none, some 3, some 2, some 5, some 5, some 12] p.c = p.c := by
  obtain ⟨rule, name, forms, subst, path, args, ⟨kind, nums, polys, squares, ckids⟩, kids⟩ := p
  simp [TProof.c_eq, TCert.c_eq, canonL, canon1_encL, canon1_none]

/-! ### Their lengths -/
theorem TRat.len (r : TRat) : r.c.length = 3 := rfl
theorem TNode.len (n : TNode) : n.c.length = 6 := by obtain ⟨op, name, num, kids⟩ := n; simp [TNode.c_eq]
theorem TMono.len (m : TMono) : m.c.length = 4 := rfl
theorem TPoly.len (p : TPoly) : p.c.length = 2 := rfl
theorem TSquare.len (s : TSquare) : s.c.length = 5 := rfl
theorem TPair.len (p : TPair) : p.c.length = 13 := by simp [TPair.c, TNode.len]
theorem TCert.len (c : TCert) : c.c.length = 5 := by obtain ⟨kind, nums, polys, squares, kids⟩ := c; simp [TCert.c_eq]
theorem TProof.len (p : TProof) : p.c.length = 12 := by obtain ⟨rule, name, forms, subst, path, args, cert, kids⟩ := p; simp [TProof.c_eq, TCert.len]
theorem TStep.len (s : TStep) : s.c.length = 13 := by simp [TStep.c, TProof.len]

/-! ### Their lists are not longer than any memory -/
def Sm {α : Type} (l : List α) : Prop := l.length < 2 ^ 63
def TRat.ok (r : TRat) : Prop := Sm r.num ∧ Sm r.den
mutual
def TNode.ok : TNode → Prop
  | .mk op name num kids => num.ok ∧ Sm kids ∧ TNode.oks kids
def TNode.oks : List TNode → Prop
  | [] => True
  | n :: r => n.ok ∧ TNode.oks r
end
theorem TNode.oks_iff : ∀ {l : List TNode}, TNode.oks l ↔ ∀ n ∈ l, n.ok
  | [] => by simp [TNode.oks]
  | n :: r => by simp [TNode.oks, TNode.oks_iff (l := r)]
def TMono.ok (m : TMono) : Prop := Sm m.exps ∧ m.coef.ok
def TPoly.ok (p : TPoly) : Prop := Sm p.terms ∧ ∀ m ∈ p.terms, m.ok
def TSquare.ok (s : TSquare) : Prop := s.weight.ok ∧ s.poly.ok
def TNodes.ok (l : List TNode) : Prop := Sm l ∧ ∀ n ∈ l, n.ok
def TPair.ok (p : TPair) : Prop := p.what.ok ∧ p.with_.ok ∧ TNodes.ok p.rates
mutual
def TCert.ok : TCert → Prop
  | .mk kind nums polys squares kids => (Sm nums ∧ ∀ r ∈ nums, r.ok) ∧ (Sm polys ∧ ∀ p ∈ polys, p.ok) ∧ (Sm squares ∧ ∀ s ∈ squares, s.ok) ∧ Sm kids ∧ TCert.oks kids
def TCert.oks : List TCert → Prop
  | [] => True
  | n :: r => n.ok ∧ TCert.oks r
end
theorem TCert.oks_iff : ∀ {l : List TCert}, TCert.oks l ↔ ∀ n ∈ l, n.ok
  | [] => by simp [TCert.oks]
  | n :: r => by simp [TCert.oks, TCert.oks_iff (l := r)]
mutual
def TProof.ok : TProof → Prop
  | .mk rule name forms subst path args cert kids => TNodes.ok forms ∧ (Sm subst ∧ ∀ p ∈ subst, p.ok) ∧ Sm path ∧ Sm args ∧ cert.ok ∧ Sm kids ∧ TProof.oks kids
def TProof.oks : List TProof → Prop
  | [] => True
  | n :: r => n.ok ∧ TProof.oks r
end
theorem TProof.oks_iff : ∀ {l : List TProof}, TProof.oks l ↔ ∀ n ∈ l, n.ok
  | [] => by simp [TProof.oks]
  | n :: r => by simp [TProof.oks, TProof.oks_iff (l := r)]
def TStep.ok (s : TStep) : Prop := s.what.ok ∧ Sm s.kids
/-- Are they equal? -/
noncomputable def eqb {α : Type} (a b : α) : Bool := @decide (a = b) (Classical.propDecidable _)
theorem eqb_eq {α : Type} {a b : α} (h : a = b) : eqb a b = true := by unfold eqb; exact @decide_eq_true _ (Classical.propDecidable _) h
theorem eqb_ne {α : Type} {a b : α} (h : a ≠ b) : eqb a b = false := by unfold eqb; exact @decide_eq_false _ (Classical.propDecidable _) h
theorem eqb_iff {α : Type} {a b : α} : eqb a b = true ↔ a = b := by unfold eqb; exact @decide_eq_true_iff _ (Classical.propDecidable _)

/-! ### Loops that compare two lists of one length -/
theorem all_loop {α R : Type} {xs ys : List α} (hl : xs.length = ys.length) {L : Nat → Heap → Option R} {T : Heap → Option R} {F : Option R} {I : Heap → Prop} (hend : ∀ τ, I τ → L xs.length τ = T τ)
    (hyes : ∀ (i : Nat) (h : i < xs.length) (h' : i < ys.length) τ, I τ → xs[i] = ys[i] → ∃ τ', I τ' ∧ L i τ = L (i + 1) τ')
    (hno : ∀ (i : Nat) (h : i < xs.length) (h' : i < ys.length) τ, I τ → xs[i] ≠ ys[i] → L i τ = F) {τ : Heap} (hI : I τ) : (xs = ys → ∃ τ', I τ' ∧ L 0 τ = T τ') ∧ (xs ≠ ys → L 0 τ = F) := by
  have key : ∀ (n i : Nat), i + n = xs.length → ∀ τ, I τ → (xs.drop i = ys.drop i → ∃ τ', I τ' ∧ L i τ = T τ') ∧ (xs.drop i ≠ ys.drop i → L i τ = F) := by
    intro n
    induction n with
    | zero =>
      intro i hi τ hI
      obtain rfl : i = xs.length := by omega
      exact ⟨fun _ => ⟨τ, hI, hend τ hI⟩, fun h => absurd (by rw [List.drop_length, hl, List.drop_length]) h⟩
    | succ n ih =>
      intro i hi τ hI
      have h : i < xs.length := by omega
      have h' : i < ys.length := by omega
      have hd := drop_eq_iff h h'
      by_cases hc : xs[i] = ys[i]
      · obtain ⟨τ', hI', ht⟩ := hyes i h h' τ hI hc
        obtain ⟨k1, k2⟩ := ih (i + 1) (by omega) τ' hI'
        rw [ht]
        exact ⟨fun e => k1 (hd.1 e).2, fun e => k2 fun e' => e (hd.2 ⟨hc, e'⟩)⟩
      · exact ⟨fun e => absurd (hd.1 e).1 hc, fun _ => hno i h h' τ hI hc⟩
  exact key xs.length 0 (by omega) τ hI
/-- The same where the heap stays and the answers are known. -/
theorem all_loop_bool {α : Type} {xs ys : List α} (hl : xs.length = ys.length) {L : Nat → Heap → Option (List PV)} {I : Heap → Prop} (hend : ∀ τ, I τ → L xs.length τ = some [.bool true])
    (hyes : ∀ (i : Nat) (h : i < xs.length) (h' : i < ys.length) τ, I τ → xs[i] = ys[i] → ∃ τ', I τ' ∧ L i τ = L (i + 1) τ')
    (hno : ∀ (i : Nat) (h : i < xs.length) (h' : i < ys.length) τ, I τ → xs[i] ≠ ys[i] → L i τ = some [.bool false]) {τ : Heap} (hI : I τ) : L 0 τ = some [.bool (eqb xs ys)] := by
  obtain ⟨k1, k2⟩ := all_loop hl (T := fun _ => some [.bool true]) hend hyes hno hI
  by_cases h : xs = ys
  · obtain ⟨τ', _, h2⟩ := k1 h
    rw [h2, eqb_eq h]
  · rw [k2 h, eqb_ne h]
/-! ### The last object of a heap -/
theorem loadV_last (cs : List PV) (σ : Heap) (a : Bool) (sz off : Nat) : loadV (σ ++ [.box cs]) a sz (.ptr σ.length off) = loadP a sz (cs.drop off) := loadV_ptr (by simp) a sz off
theorem loadV_prev {σ : Heap} {id : Nat} (h : id < σ.length) (l : Heap) (a : Bool) (sz off : Nat) : loadV (σ ++ l) a sz (.ptr id off) = loadV σ a sz (.ptr id off) := by
  simp only [loadV, cellsAt, List.getElem?_append_left h]
theorem storeV_last {σ : Heap} {cs ys : List PV} {sz : Nat} (h1 : cs.length = sz) (h2 : ys.length = sz) (h3 : ys.all PV.scalar = true) : storeV (σ ++ [.box cs]) sz (.ptr σ.length 0) (.agg ys) = some (σ ++ [.box ys]) := by
  simp only [storeV, evPrim, Opd.ev, PV.cells?]
  rw [List.getElem?_append_right (Nat.le_refl _), Nat.sub_self]
  simp only [List.getElem?_cons_zero]
  rw [if_pos ⟨h2, by omega, h3⟩]
  simp only [Option.map_some, List.take_zero, List.nil_append, Nat.zero_add]
  rw [List.drop_of_length_le (by omega), List.append_nil, List.set_append_right _ _ (Nat.le_refl _), Nat.sub_self]
  rfl
theorem scal_encL {α : Type} (st : Nat) (f : α → List PV) (l : List α) : (encL st f l).scalar = true := rfl
theorem TRat.scal (r : TRat) : r.c.all PV.scalar = true := by simp [TRat.c, scal_encL]; rfl
theorem TNode.scal (n : TNode) : n.c.all PV.scalar = true := by obtain ⟨op, name, num, kids⟩ := n; simp [TNode.c_eq, scal_encL]; exact ⟨rfl, rfl, rfl⟩
theorem TMono.scal (m : TMono) : m.c.all PV.scalar = true := by simp [TMono.c, TRat.c, scal_encL]; rfl
theorem TPoly.scal (p : TPoly) : p.c.all PV.scalar = true := by simp [TPoly.c, scal_encL]; rfl
theorem TSquare.scal (s : TSquare) : s.c.all PV.scalar = true := by simp only [TSquare.c, List.all_append, TRat.scal, TPoly.scal, Bool.and_self]
theorem TPair.scal (p : TPair) : p.c.all PV.scalar = true := by simp only [TPair.c, List.all_append, TNode.scal, List.all_cons, List.all_nil, scal_encL, Bool.and_self]
theorem TCert.scal (c : TCert) : c.c.all PV.scalar = true := by obtain ⟨kind, nums, polys, squares, kids⟩ := c; simp [TCert.c_eq, scal_encL]; rfl
theorem TProof.scal (p : TProof) : p.c.all PV.scalar = true := by
  obtain ⟨rule, name, forms, subst, path, args, cert, kids⟩ := p
  simp only [TProof.c_eq, List.all_append, TCert.scal, List.all_cons, List.all_nil, scal_encL, Bool.and_true]
  rfl
end Go.PE
