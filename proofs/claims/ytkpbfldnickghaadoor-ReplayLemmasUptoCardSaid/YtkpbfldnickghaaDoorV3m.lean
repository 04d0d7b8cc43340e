/- ReplayLemmas, second form: called with a proof of bulk at most 1048576, the statement's function answers true: either the proof is too heavy, or Lemmas of the program and of the reference answer alike. Conditions: the row's own bulk; the row lists three tables of Go's library, the card ties them to the program's text. -/
import Derived.Test.YtkpbfldnickghaaDoorV0
import Derived.Test.YtkpbfldnickghaaDoorUE
set_option maxRecDepth 100000
set_option linter.unusedVariables false
set_option linter.unusedSimpArgs false
namespace Go.Proofs.YtkpbfldnickghaaDoor
open Go Go.PE
open Go.ChangeShapes Go.WideShapes Go.ChangeAt Go.RowKit
theorem uptoBulkAll_sum {H : Type} : ∀ (l : List (DataW H)), Rows.uptoBulkAll l = (l.map Rows.uptoBulk).sum
  | [] => by simp [Rows.uptoBulkAll]
  | d :: r => by simp [Rows.uptoBulkAll, uptoBulkAll_sum r]
theorem upto_ok (H : Type) : Bk (Rows.uptoBulk (H := H)) where
  pos d := by
    cases d with
    | lit l => cases l <;> simp [Rows.uptoBulk]
    | _ => simp [Rows.uptoBulk]
  str s := by simp [Rows.uptoBulk]
  slice es sp := by simp only [Rows.uptoBulk, uptoBulkAll_sum]; omega
  agg ps := by simp [Rows.uptoBulk, uptoBulkAll_sum]
theorem contract5 (H : Type) (enc : TypeId × Value → H) (W : World) (base : Nat) (args : Array Value) (ds gs : List (DataW H)) (before : List MemPlace) (hval : ∀ (j : Nat) t v, Tryd.f5.params[j]? = some t → args[j]? = some v → Value.okWide Tryd.prog W .any base t v)
    (hW : DataW.Whole enc Tryd.prog Tryd.f5.params.toList Rows.replayLemmasSpec.vars false W args.toList ds gs before) (hk : Rows.uptoSmall H (ds ++ gs) = true) (hL : laidMetH Tryd.prog Rows.replayLemmasUptoRow.laid W) :
    Calls Tryd.prog 5 args W fun e W' => ∃ v, e = .returned v ∧ Rows.replayLemmasSpec.post enc Tryd.prog Tryd.f5 false true false false W args v W' := by
  letI := tabG
  have hW' := hW
  obtain ⟨p, q, hA, hV, rfl, hfz, hnd⟩ := hW
  rw [Tryd.params5] at hA hval
  obtain ⟨v0, vs0, d0, ds0, p0, q0, hargs, rfl, rfl, h0, r0⟩ := trodAll_cons hA
  obtain ⟨rfl, rfl, rfl⟩ := trodAll_nil r0
  obtain rfl : args = #[v0] := by cases args; simp_all
  obtain ⟨a, ⟨a1, a3, a4⟩, a2⟩ := arg_struct tys_ok.proof (hval 0 34 v0 rfl rfl) (fun fuel => (rd_proof tys_ok.toTyProof (upto_ok H) fuel).1) h0
  have hsz : Rows.uptoBulk d0 ≤ 1048576 := by
    simp only [Rows.uptoSmall, decide_eq_true_eq, uptoBulkAll_sum] at hk
    simp at hk
    omega
  have hz : a.sz < lim := by unfold lim; omega
  exact law_calls hW' rfl (fun hg => by subst hg; rfl) laidOut (fun t ht => by
      rw [Tryd.params5] at ht
      obtain rfl : t = 34 := by simpa using ht
      exact ⟨by kernel_rfl, of_decide_eq_true (by kernel_rfl)⟩) (by kernel_rfl) Tryd.underlying4
    (pure_sound mixedOn hC XI_ok (lemmas_law a a1 hz)) (glob_ok hL) (RepL.cons a2 (RepL.nil _ _ _))
theorem reads5 (os : Os) {H : Type} (enc : TypeId × Value → H) : ∃ places, DataW.whole enc Tryd.prog ((laidWorld os).forCall (fun _ _ => 0) ⟨#[], #[zProof], []⟩).memory Tryd.f5.params.toList Rows.replayLemmasSpec.vars false #[zProof].toList 8 = some ([zProofD], [], places) :=
  ⟨[], by kernel_rfl⟩
theorem lifted5 (os : Os) (started : os.Started) (H : Type) (enc : TypeId × Value → H) (F : Stop.Interp) :
    ReturnsInHanded {} Tryd.checked os 5 .any ((Rows.OpenSpec.upto Rows.replayLemmasSpec).preRow enc Tryd.prog Tryd.f5 Rows.replayLemmasUptoRow.domain false Rows.replayLemmasUptoRow.laid) (((Rows.OpenSpec.upto Rows.replayLemmasSpec).at F).post enc Tryd.prog Tryd.f5 false true false false) := by
  obtain ⟨places, hx⟩ := reads5 os enc
  refine returnsInHanded_of_row (C := Tryd.checked) (s := Rows.OpenSpec.upto Rows.replayLemmasSpec) own started (by kernel_rfl) Tryd.func5
    (witness_row_at (enc := enc) (C := Tryd.checked) false (laidWorld os) #[zProof] (World.laidAll_os _ _ _) (by kernel_rfl) (by kernel_rfl) (by kernel_rfl)
      (OpenSpec.preRow_of_cond 8 hx (by kernel_rfl) (fun k hk => by cases hk; kernel_rfl) (by kernel_rfl) (laid_met os _))) ?_
  intro W base args ds gs before hval hW _ hk _ hL _ _
  exact contract5 H enc W base args ds gs before hval hW (hk _ rfl) hL
theorem replayLemmasUpto_said : Rows.ReplayLemmasUptoSaid :=
  OpenClaim.holds_of_cond 5 Tryd.f5 rfl rfl rfl rfl rfl rfl rfl ⟨rfl, rfl, rfl, rfl, rfl⟩ rfl rfl rfl rfl rfl (by kernel_rfl) Tryd.func5 (by kernel_rfl)
    (of_decide_eq_true (by kernel_rfl)) (by unfold Func.isWrapper; first | (rw [if_pos (by decide +kernel)]; kernel_rfl) | (rw [if_neg (by decide +kernel)]; exact ⟨rfl, rfl⟩))
    (fun os started H enc _ F => by rw [OpenClaim.pre_eq_preRow]; exact lifted5 os started H enc F)
theorem plain5 (f : FuncId) (fn : Func) (hf : Tryd.pinned.checked.prog.funcNamed "isochrone/isochronelaw22.ReplayLemmas" = some f) (hfn : Tryd.pinned.checked.prog.funcs[f]? = some fn) :
    false = Tryd.pinned.checked.prog.looks [] ∧ ∀ (j : Nat) t, fn.params[j]? = some t → Tryd.pinned.checked.prog.wantsStandIn t = false := by
  obtain rfl : f = 5 := Option.some.inj ((show Tryd.prog.funcNamed "isochrone/isochronelaw22.ReplayLemmas" = some 5 by kernel_rfl).symm.trans hf) |>.symm
  obtain rfl : fn = Tryd.f5 := (Option.some.inj (Tryd.func5.symm.trans hfn)).symm
  refine ⟨by kernel_rfl, fun j t ht => ?_⟩
  rw [Tryd.params5] at ht
  obtain rfl : t = 34 := by simpa using Array.mem_of_getElem? ht
  exact (show Tryd.prog.wantsStandIn 34 = false by kernel_rfl)
/-- THE CARD. -/
theorem replayLemmasUpto_card : Rows.ReplayLemmasUptoCardSaid :=
  Claim7.holds_tied_plain_at .later [] _ _ _ _ replayLemmasUpto_said (fun _ h => by cases h) (by kernel_rfl) (fun _ h => by cases h) replayLemmasUpto_row_tie rfl ⟨rfl, rfl⟩ (by kernel_rfl) rfl plain5 (by kernel_rfl)
#print axioms replayLemmasUpto_card
end Go.Proofs.YtkpbfldnickghaaDoor
