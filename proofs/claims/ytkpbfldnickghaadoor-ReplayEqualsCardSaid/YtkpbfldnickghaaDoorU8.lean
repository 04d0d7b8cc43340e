/- Contracts: proofs without their kids; Equal. -/
import Derived.Test.YtkpbfldnickghaaDoorU7
set_option linter.unusedVariables false
set_option linter.unusedSimpArgs false
namespace Go.Proofs.YtkpbfldnickghaaDoor
open Go Go.PE
theorem call48' {R : Type} (X : Ext) (a b : TCert) (ha : a.ok) (hb : b.ok) (σ : Heap) (pc : Bool) (k : PV → Heap → Option R) : callK C (Hw C X) σ pc (.fn 48 []) [.agg a.c, .agg b.c] k = k (.bool (eqb a b)) σ := call48 X (certs_ok X a b ha hb) σ pc k
/-- The parts of a proof's node. -/
structure Bare where
  rule : Str
  name : Str
  forms : List TNode
  subst : List TPair
  path : List Int
  args : List Str
  cert : TCert
def bareOf : TProof → Bare
  | .mk rule name forms subst path args cert _ => ⟨rule, name, forms, subst, path, args, cert⟩
def kidsOf : TProof → List TProof
  | .mk _ _ _ _ _ _ _ kids => kids
theorem proof_eq {a b : TProof} : a = b ↔ bareOf a = bareOf b ∧ kidsOf a = kidsOf b := by
  cases a; cases b
  simp only [TProof.mk.injEq, bareOf, kidsOf, Bare.mk.injEq]
  constructor
  · rintro ⟨h1, h2, h3, h4, h5, h6, h7, h8⟩; exact ⟨⟨h1, h2, h3, h4, h5, h6, h7⟩, h8⟩
  · rintro ⟨⟨h1, h2, h3, h4, h5, h6, h7⟩, h8⟩; exact ⟨h1, h2, h3, h4, h5, h6, h7, h8⟩
section
variable (p : TProof)
theorem pr0 : loadP false 1 p.c = some (.str (bareOf p).rule) := by cases p; rw [TProof.c_eq]; rfl
theorem pr1 : loadP false 1 (p.c.drop 1) = some (.str (bareOf p).name) := by cases p; rw [TProof.c_eq]; rfl
theorem pr1' : loadP false 1 p.c.tail = some (.str (bareOf p).name) := by cases p; rw [TProof.c_eq]; rfl
theorem pr2 : loadP false 1 (p.c.drop 2) = some (encL 6 TNode.c (bareOf p).forms) := by cases p; rw [TProof.c_eq]; rfl
theorem pr3 : loadP false 1 (p.c.drop 3) = some (encL 13 TPair.c (bareOf p).subst) := by cases p; rw [TProof.c_eq]; rfl
theorem pr4 : loadP false 1 (p.c.drop 4) = some (encL 1 cInt (bareOf p).path) := by cases p; rw [TProof.c_eq]; rfl
theorem pr5 : loadP false 1 (p.c.drop 5) = some (encL 1 cStr (bareOf p).args) := by cases p; rw [TProof.c_eq]; rfl
theorem pr6 : loadP true 5 (p.c.drop 6) = some (.agg (bareOf p).cert.c) := by
  obtain ⟨rule, name, forms, subst, path, args, ⟨kind, nums, polys, squares, ckids⟩, kids⟩ := p
  rw [TProof.c_eq]
  simp only [bareOf, TCert.c_eq]
  rfl
theorem pr11 : loadP false 1 (p.c.drop 11) = some (encL 12 TProof.c (kidsOf p)) := by
  obtain ⟨rule, name, forms, subst, path, args, ⟨kind, nums, polys, squares, ckids⟩, kids⟩ := p
  rw [TProof.c_eq]
  simp only [kidsOf, TCert.c_eq]
  rfl
end
structure BareOk (b : Bare) : Prop where
  forms : TNodes.ok b.forms
  subst : Sm b.subst ∧ ∀ p ∈ b.subst, p.ok
  path : Sm b.path
  args : Sm b.args
  cert : b.cert.ok
theorem bare_ok_of {p : TProof} (h : p.ok) : BareOk (bareOf p) := by
  cases p
  obtain ⟨h1, h2, h3, h4, h5, _⟩ := h
  exact ⟨h1, h2, h3, h4, h5⟩
theorem kids_ok_of {p : TProof} (h : p.ok) : Sm (kidsOf p) ∧ ∀ k ∈ kidsOf p, k.ok := by
  cases p
  obtain ⟨_, _, _, _, _, h6, h7⟩ := h
  exact ⟨h6, TProof.oks_iff.1 h7⟩
theorem bare_ok (X : Ext) (a b : TProof) (ha : a.ok) (hb : b.ok) : (Hw C X).pure 26 [.agg a.c, .agg b.c] = some [.bool (eqb (bareOf a) (bareOf b))] := by
  have A := bare_ok_of ha
  have B := bare_ok_of hb
  have key : eqb (bareOf a) (bareOf b) = (eqb (bareOf a).rule (bareOf b).rule && (eqb (bareOf a).name (bareOf b).name && (eqb (bareOf a).forms (bareOf b).forms && (eqb (bareOf a).subst (bareOf b).subst && (eqb (bareOf a).path (bareOf b).path && (eqb (bareOf a).args (bareOf b).args && eqb (bareOf a).cert (bareOf b).cert)))))) := by
    rw [Bool.eq_iff_iff]
    simp only [eqb_iff, Bool.and_eq_true]
    generalize bareOf a = u
    generalize bareOf b = v
    cases u; cases v
    simp only [Bare.mk.injEq]
  rw [F26, key]
  have c1 := fun σ pc (k : PV → Heap → Option (List PV × Heap)) => call45 X _ _ A.forms B.forms σ pc k
  have c2 := fun σ pc (k : PV → Heap → Option (List PV × Heap)) => call46 X _ _ A.subst B.subst σ pc k
  have c3 := fun σ pc (k : PV → Heap → Option (List PV × Heap)) => call27 X _ (bareOf b).path A.path σ pc k
  have c4 := fun σ pc (k : PV → Heap → Option (List PV × Heap)) => call47 X _ (bareOf b).args A.args σ pc k
  have c5 := fun σ pc (k : PV → Heap → Option (List PV × Heap)) => call48' X _ _ A.cert B.cert σ pc k
  by_cases h1 : (bareOf a).rule = (bareOf b).rule
  · by_cases h2 : (bareOf a).name = (bareOf b).name
    · simp [ld1, pr0, pr1, pr1', pr2, pr3, pr4, pr5, pr6, h1, h2, eqb_eq, c1]
      cases eqb (bareOf a).forms (bareOf b).forms
      · simp; rfl
      · simp [ld1, pr3, c2]
        cases eqb (bareOf a).subst (bareOf b).subst
        · simp; rfl
        · simp [ld1, pr4, c3]
          cases eqb (bareOf a).path (bareOf b).path
          · simp; rfl
          · simp [ld1, pr5, c4]
            cases eqb (bareOf a).args (bareOf b).args
            · simp; rfl
            · simp [ld1, pr6, c5]
              cases eqb (bareOf a).cert (bareOf b).cert <;> rfl
    · simp [ld1, pr0, pr1, pr1', h1, h2, eqb_eq, eqb_ne h2]
      rfl
  · simp [ld1, pr0, h1, eqb_ne h1]
    rfl
end Go.Proofs.YtkpbfldnickghaaDoor
