/- ReplayRecords, second form: called with a proof and steps of bulk at most 1048576 together, the statement's function answers true: either they are too heavy, or Record and Build of the program and of the reference answer alike, and what is recorded builds the proof again. Conditions: the row's own bulk; the row lists three tables of Go's library, the card ties them to the program's text. -/
import Derived.Test.YtkpbfldnickghaaDoorV0
import Derived.Test.YtkpbfldnickghaaDoorUD
set_option maxRecDepth 100000
set_option linter.unusedVariables false
set_option linter.unusedSimpArgs false
namespace Go.Proofs.YtkpbfldnickghaaDoor
open Go Go.PE
open Go.ChangeShapes Go.WideShapes Go.ChangeAt Go.RowKit
theorem uptoBulkAll_sum {H : Type} : ∀ (l : List (DataW H)), Rows.uptoBulkAll l = (l.map Rows.uptoBulk).sum
  | [] => by simp [Rows.uptoBulkAll]
  | d :: r => by simp [Rows.uptoBulkAll, uptoBulkAll_sum r]
theorem upto_ok (H : Type) : Bk (Rows.uptoBulk (H := H)) where
  pos d := by
    cases d with
    | lit l => cases l <;> simp [Rows.uptoBulk]
    | _ => simp [Rows.uptoBulk]
  str s := by simp [Rows.uptoBulk]
  slice es sp := by simp only [Rows.uptoBulk, uptoBulkAll_sum]; omega
  agg ps := by simp [Rows.uptoBulk, uptoBulkAll_sum]
theorem contract3 (H : Type) (enc : TypeId × Value → H) (W : World) (base : Nat) (args : Array Value) (ds gs : List (DataW H)) (before : List MemPlace) (hval : ∀ (j : Nat) t v, Tryd.f3.params[j]? = some t → args[j]? = some v → Value.okWide Tryd.prog W .any base t v)
    (hW : DataW.Whole enc Tryd.prog Tryd.f3.params.toList Rows.replayRecordsSpec.vars false W args.toList ds gs before) (hk : Rows.uptoSmall H (ds ++ gs) = true) (hL : laidMetH Tryd.prog Rows.replayRecordsUptoRow.laid W) :
    Calls Tryd.prog 3 args W fun e W' => ∃ v, e = .returned v ∧ Rows.replayRecordsSpec.post enc Tryd.prog Tryd.f3 false true false false W args v W' := by
  letI := tabG
  have hW' := hW
  obtain ⟨p, q, hA, hV, rfl, hfz, hnd⟩ := hW
  rw [Tryd.params3] at hA hval
  obtain ⟨v0, vs0, d0, ds0, p0, q0, hargs, rfl, rfl, h0, r0⟩ := trodAll_cons hA
  obtain ⟨v1, vs1, d1, ds1, p1, q1, rfl, rfl, rfl, h1, r1⟩ := trodAll_cons r0
  obtain ⟨rfl, rfl, rfl⟩ := trodAll_nil r1
  obtain rfl : args = #[v0, v1] := by cases args; simp_all
  obtain ⟨a, ⟨a1, a3, a4⟩, a2⟩ := arg_struct tys_ok.proof (hval 0 34 v0 rfl rfl) (fun fuel => (rd_proof tys_ok.toTyProof (upto_ok H) fuel).1) h0
  obtain ⟨_, _, _, rfl⟩ := okWide_slice tys_ok.steps (hval 1 35 v1 rfl rfl)
  obtain ⟨l, ⟨⟨_, b1⟩, b3, b4⟩, b2⟩ := arg_cell (f := fun l : List TStep => encL 13 TStep.c l) rfl (fun fuel => rd_steps tys_ok (upto_ok H) fuel) h1
  have hsz : Rows.uptoBulk d0 + Rows.uptoBulk d1 ≤ 1048576 := by
    simp only [Rows.uptoSmall, decide_eq_true_eq, uptoBulkAll_sum] at hk
    simp at hk
    omega
  have hz : a.sz < lim := by unfold lim; omega
  have hf : Fine l := fun s hs => by
    have := sum_mem_le (f := TStep.sz) hs
    have e : s.sz = 1 + s.what.sz + s.kids.length := rfl
    unfold lim
    omega
  exact law_calls hW' rfl (fun hg => by subst hg; rfl) laidOut (fun t ht => by
      rw [Tryd.params3] at ht
      have : t = 34 ∨ t = 35 := by simpa using ht
      rcases this with rfl | rfl
      · exact ⟨by kernel_rfl, of_decide_eq_true (by kernel_rfl)⟩
      · exact ⟨by kernel_rfl, of_decide_eq_true (by kernel_rfl)⟩) (by kernel_rfl) Tryd.underlying4
    (pure_sound mixedOn hC XI_ok (records_law a l a1 hz b1 hf)) (glob_ok hL) (RepL.cons a2 (RepL.cons b2 (RepL.nil _ _ _)))
theorem reads3 (os : Os) {H : Type} (enc : TypeId × Value → H) : ∃ places, DataW.whole enc Tryd.prog ((laidWorld os).forCall (fun _ _ => 0) ⟨#[], #[zProof, .slice none 0 0], []⟩).memory Tryd.f3.params.toList Rows.replayRecordsSpec.vars false #[zProof, .slice none 0 0].toList 8 = some ([zProofD, .nil], [], places) :=
  ⟨[], by kernel_rfl⟩
theorem lifted3 (os : Os) (started : os.Started) (H : Type) (enc : TypeId × Value → H) (F : Stop.Interp) :
    ReturnsInHanded {} Tryd.checked os 3 .any ((Rows.OpenSpec.upto Rows.replayRecordsSpec).preRow enc Tryd.prog Tryd.f3 Rows.replayRecordsUptoRow.domain false Rows.replayRecordsUptoRow.laid) (((Rows.OpenSpec.upto Rows.replayRecordsSpec).at F).post enc Tryd.prog Tryd.f3 false true false false) := by
  obtain ⟨places, hx⟩ := reads3 os enc
  refine returnsInHanded_of_row (C := Tryd.checked) (s := Rows.OpenSpec.upto Rows.replayRecordsSpec) own started (by kernel_rfl) Tryd.func3
    (witness_row_at (enc := enc) (C := Tryd.checked) false (laidWorld os) #[zProof, .slice none 0 0] (World.laidAll_os _ _ _) (by kernel_rfl) (by kernel_rfl) (by kernel_rfl)
      (OpenSpec.preRow_of_cond 8 hx (by kernel_rfl) (fun k hk => by cases hk; kernel_rfl) (by kernel_rfl) (laid_met os _))) ?_
  intro W base args ds gs before hval hW _ hk _ hL _ _
  exact contract3 H enc W base args ds gs before hval hW (hk _ rfl) hL
theorem replayRecordsUpto_said : Rows.ReplayRecordsUptoSaid :=
  OpenClaim.holds_of_cond 3 Tryd.f3 rfl rfl rfl rfl rfl rfl rfl ⟨rfl, rfl, rfl, rfl, rfl⟩ rfl rfl rfl rfl rfl (by kernel_rfl) Tryd.func3 (by kernel_rfl)
    (of_decide_eq_true (by kernel_rfl)) (by unfold Func.isWrapper; first | (rw [if_pos (by decide +kernel)]; kernel_rfl) | (rw [if_neg (by decide +kernel)]; exact ⟨rfl, rfl⟩))
    (fun os started H enc _ F => by rw [OpenClaim.pre_eq_preRow]; exact lifted3 os started H enc F)
theorem plain3 (f : FuncId) (fn : Func) (hf : Tryd.pinned.checked.prog.funcNamed "isochrone/isochronelaw22.ReplayRecords" = some f) (hfn : Tryd.pinned.checked.prog.funcs[f]? = some fn) :
    false = Tryd.pinned.checked.prog.looks [] ∧ ∀ (j : Nat) t, fn.params[j]? = some t → Tryd.pinned.checked.prog.wantsStandIn t = false := by
  obtain rfl : f = 3 := Option.some.inj ((show Tryd.prog.funcNamed "isochrone/isochronelaw22.ReplayRecords" = some 3 by kernel_rfl).symm.trans hf) |>.symm
  obtain rfl : fn = Tryd.f3 := (Option.some.inj (Tryd.func3.symm.trans hfn)).symm
  refine ⟨by kernel_rfl, fun j t ht => ?_⟩
  rw [Tryd.params3] at ht
  have : t = 34 ∨ t = 35 := by simpa using Array.mem_of_getElem? ht
  rcases this with rfl | rfl
  · exact (show Tryd.prog.wantsStandIn 34 = false by kernel_rfl)
  · exact (show Tryd.prog.wantsStandIn 35 = false by kernel_rfl)
/-- THE CARD. -/
theorem replayRecordsUpto_card : Rows.ReplayRecordsUptoCardSaid :=
  Claim7.holds_tied_plain_at .later [] _ _ _ _ replayRecordsUpto_said (fun _ h => by cases h) (by kernel_rfl) (fun _ h => by cases h) replayRecordsUpto_row_tie rfl ⟨rfl, rfl⟩ (by kernel_rfl) rfl plain3 (by kernel_rfl)
#print axioms replayRecordsUpto_card
end Go.Proofs.YtkpbfldnickghaaDoor
