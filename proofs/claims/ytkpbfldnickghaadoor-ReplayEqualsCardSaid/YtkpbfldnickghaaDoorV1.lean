/- ReplayEquals: called with any two proofs the statement's function answers true: either proof is too large, or Equal of the program and Same of the reference answer alike. Conditions: none but the row's own; the row lists three tables of Go's library, the card ties them to the program's text. -/
import Derived.Test.YtkpbfldnickghaaDoorV0
import Derived.Test.YtkpbfldnickghaaDoorU12
set_option maxRecDepth 100000
set_option linter.unusedVariables false
set_option linter.unusedSimpArgs false
namespace Go.Proofs.YtkpbfldnickghaaDoor
open Go Go.PE
open Go.ChangeShapes Go.WideShapes Go.ChangeAt Go.RowKit
theorem call6 {R : Type} (σ : Heap) (pc : Bool) (k : PV → Heap → Option R) : callK C (Hw C XI) σ pc (.fn 6 []) [] k = k (.bool true) σ :=
  callK_pure C6 rfl rfl rfl awake_ok
theorem call15' {R : Type} (X : Ext) (a b : TProof) (ha : a.ok) (hb : b.ok) (σ : Heap) (pc : Bool) (k : PV → Heap → Option R) : callK C (Hw C X) σ pc (.fn 15 []) [.agg a.c, .agg b.c] k = k (.bool (eqb a b)) σ := call15 X (equal_ok X a b ha hb) σ pc k
theorem call14' {R : Type} (X : Ext) (a b : TProof) (ha : a.ok) (hb : b.ok) (σ : Heap) (pc : Bool) (k : PV → Heap → Option R) : callK C (Hw C X) σ pc (.fn 14 []) [.agg a.c, .agg b.c] k = k (.bool (eqb a b)) σ := call14 X (same_ok X a b ha hb) σ pc k
/-- THE PLAIN LAW. -/
theorem equals_law (a b : TProof) (ha : a.ok) (hb : b.ok) : (Hw C XI).pure 4 [.agg a.c, .agg b.c] = some [.bool true] := by
  obtain ⟨k1, c1⟩ := call7 (R := List PV) XI a ha
  obtain ⟨k2, c2⟩ := call7 (R := List PV × Heap) XI b hb
  have c15 := fun σ pc (k : PV → Heap → Option (List PV × Heap)) => call15' XI a b ha hb σ pc k
  have c14 := fun σ pc (k : PV → Heap → Option (List PV × Heap)) => call14' XI a b ha hb σ pc k
  rw [F4]
  by_cases h1 : k1 > 3000
  · simp [call6, loadP_all (TProof.len _), c1, h1]
    rfl
  · by_cases h2 : k2 > 3000
    · simp [call6, loadP_all (TProof.len _), ld1, c1, c2, h1, h2]
      rfl
    · simp [call6, loadP_all (TProof.len _), ld1, c1, c2, c15, c14, h1, h2]
      cases eqb a b <;> rfl
theorem contract4 (H : Type) (enc : TypeId × Value → H) (W : World) (base : Nat) (args : Array Value) (ds gs : List (DataW H)) (before : List MemPlace) (hval : ∀ (j : Nat) t v, Tryd.f4.params[j]? = some t → args[j]? = some v → Value.okWide Tryd.prog W .any base t v)
    (hW : DataW.Whole enc Tryd.prog Tryd.f4.params.toList Rows.replayEqualsSpec.vars false W args.toList ds gs before) (hL : laidMetH Tryd.prog Rows.replayEqualsRow.laid W) :
    Calls Tryd.prog 4 args W fun e W' => ∃ v, e = .returned v ∧ Rows.replayEqualsSpec.post enc Tryd.prog Tryd.f4 false true false false W args v W' := by
  letI := tabG
  have hW' := hW
  obtain ⟨p, q, hA, hV, rfl, hfz, hnd⟩ := hW
  rw [Tryd.params4] at hA hval
  obtain ⟨v0, vs0, d0, ds0, p0, q0, hargs, rfl, rfl, h0, r0⟩ := trodAll_cons hA
  obtain ⟨v1, vs1, d1, ds1, p1, q1, rfl, rfl, rfl, h1, r1⟩ := trodAll_cons r0
  obtain ⟨rfl, rfl, rfl⟩ := trodAll_nil r1
  obtain rfl : args = #[v0, v1] := by cases args; simp_all
  obtain ⟨a, ⟨a1, _, _⟩, a2⟩ := arg_struct tys_ok.proof (hval 0 34 v0 rfl rfl) (fun fuel => (rd_proof tys_ok.toTyProof (bw_ok H) fuel).1) h0
  obtain ⟨b, ⟨b1, _, _⟩, b2⟩ := arg_struct tys_ok.proof (hval 1 34 v1 rfl rfl) (fun fuel => (rd_proof tys_ok.toTyProof (bw_ok H) fuel).1) h1
  exact law_calls hW' rfl (fun hg => by subst hg; rfl) laidOut (fun t ht => by
      rw [Tryd.params4] at ht
      obtain rfl : t = 34 := by simpa using ht
      exact ⟨by kernel_rfl, of_decide_eq_true (by kernel_rfl)⟩) (by kernel_rfl) Tryd.underlying4
    (pure_sound mixedOn hC XI_ok (equals_law a b a1 b1)) (glob_ok hL) (RepL.cons a2 (RepL.cons b2 (RepL.nil _ _ _)))
theorem reads4 (os : Os) {H : Type} (enc : TypeId × Value → H) : ∃ places, DataW.whole enc Tryd.prog ((laidWorld os).forCall (fun _ _ => 0) ⟨#[], #[zProof, zProof], []⟩).memory Tryd.f4.params.toList Rows.replayEqualsSpec.vars false #[zProof, zProof].toList 8 = some ([zProofD, zProofD], [], places) :=
  ⟨[], by kernel_rfl⟩
theorem lifted4 (os : Os) (started : os.Started) (H : Type) (enc : TypeId × Value → H) (F : Stop.Interp) :
    ReturnsInHanded {} Tryd.checked os 4 .any ((OpenSpec.ofChange Rows.replayEqualsSpec).preRow enc Tryd.prog Tryd.f4 Rows.replayEqualsRow.domain false Rows.replayEqualsRow.laid) (((OpenSpec.ofChange Rows.replayEqualsSpec).at F).post enc Tryd.prog Tryd.f4 false true false false) := by
  obtain ⟨places, hx⟩ := reads4 os enc
  refine returnsInHanded_of_row (C := Tryd.checked) (s := OpenSpec.ofChange Rows.replayEqualsSpec) own started (by kernel_rfl) Tryd.func4
    (witness_row_at (enc := enc) (C := Tryd.checked) false (laidWorld os) #[zProof, zProof] (World.laidAll_os _ _ _) (by kernel_rfl) (by kernel_rfl) (by kernel_rfl)
      (OpenSpec.preRow_of_cond 8 hx (by kernel_rfl) (fun k hk => by cases hk) (by kernel_rfl) (laid_met os _))) ?_
  intro W base args ds gs before hval hW _ _ _ hL _ _
  exact contract4 H enc W base args ds gs before hval hW hL
theorem replayEquals_said : Rows.ReplayEqualsSaid :=
  OpenClaim.holds_of_cond 4 Tryd.f4 rfl rfl rfl rfl rfl rfl rfl ⟨rfl, rfl, rfl, rfl, rfl⟩ rfl rfl rfl rfl rfl (by kernel_rfl) Tryd.func4 (by kernel_rfl)
    (of_decide_eq_true (by kernel_rfl)) (by unfold Func.isWrapper; first | (rw [if_pos (by decide +kernel)]; kernel_rfl) | (rw [if_neg (by decide +kernel)]; exact ⟨rfl, rfl⟩))
    (fun os started H enc _ F => by rw [OpenClaim.pre_eq_preRow]; exact lifted4 os started H enc F)
theorem plain4 (f : FuncId) (fn : Func) (hf : Tryd.pinned.checked.prog.funcNamed "isochrone/isochronelaw22.ReplayEquals" = some f) (hfn : Tryd.pinned.checked.prog.funcs[f]? = some fn) :
    false = Tryd.pinned.checked.prog.looks [] ∧ ∀ (j : Nat) t, fn.params[j]? = some t → Tryd.pinned.checked.prog.wantsStandIn t = false := by
  obtain rfl : f = 4 := Option.some.inj ((show Tryd.prog.funcNamed "isochrone/isochronelaw22.ReplayEquals" = some 4 by kernel_rfl).symm.trans hf) |>.symm
  obtain rfl : fn = Tryd.f4 := (Option.some.inj (Tryd.func4.symm.trans hfn)).symm
  refine ⟨by kernel_rfl, fun j t ht => ?_⟩
  rw [Tryd.params4] at ht
  obtain rfl : t = 34 := by simpa using Array.mem_of_getElem? ht
  exact (show Tryd.prog.wantsStandIn 34 = false by kernel_rfl)
/-- THE CARD. -/
theorem replayEquals_card : Rows.ReplayEqualsCardSaid :=
  Claim7.holds_tied_plain_at .later [] _ _ _ _ replayEquals_said (fun _ h => by cases h) (by kernel_rfl) (fun _ h => by cases h) replayEquals_row_tie rfl ⟨rfl, rfl⟩ (by kernel_rfl) rfl plain4 (by kernel_rfl)
#print axioms replayEquals_card
end Go.Proofs.YtkpbfldnickghaaDoor
