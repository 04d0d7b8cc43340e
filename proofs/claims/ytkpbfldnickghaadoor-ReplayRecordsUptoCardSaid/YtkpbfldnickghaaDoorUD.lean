/- U23, U24, U25, U26, U27, U28, U29, U30, U31 of the seat, in one text. -/
import Derived.Test.YtkpbfldnickghaaDoorUC
set_option linter.unusedVariables false
set_option linter.unusedSimpArgs false
namespace Go.Proofs.YtkpbfldnickghaaDoor
open Go Go.PE
theorem idxs_nil (k : Str) : idxs [] k = [] := rfl
theorem record9_ok (p : TProof) (hp : p.ok) (hz : p.sz < lim) : (Hw C XI).pure 9 [.agg p.c] = some [encL 13 TStep.c (recordOf p).1, .int .i64 (recordOf p).2] := by
  have h0 : ([PE.Obj.box p.c] : Heap)[0]? = some (.box p.c) := rfl
  rw [F9]
  simp only [boxV_agg, Option.bind_some, List.nil_append, List.length_nil, load_all (sz := 12) h0 (TProof.len p), call22 XI p hp, recordOf, not_bool]
  cases hf : fits p 2000 60
  · simp only [Bool.not_false, condK_true]
    rfl
  · simp only [Bool.not_true, condK_false, if_true]
    have e1 : storeV ((([PE.Obj.box p.c] ++ [PE.Obj.box [.nils]]) ++ [PE.Obj.map []]) ++ [PE.Obj.box [.nilm]]) 1 (.ptr (([PE.Obj.box p.c] ++ [PE.Obj.box [.nils]]) ++ [PE.Obj.map []]).length 0) (.mp ([PE.Obj.box p.c] ++ [PE.Obj.box [.nils]]).length) = some [PE.Obj.box p.c, .box [.nils], .map [], .box [.mp 2]] := rfl
    have e2 : storeV ([PE.Obj.box p.c, .box [.nils], .map [], .box [.mp 2]] ++ [.box [.nilf]]) 1 (.ptr [PE.Obj.box p.c, .box [.nils], .map [], .box [.mp 2]].length 0) (.fn 23 [(.ptr [PE.Obj.box p.c, .box [.nils], .map [], .box [.mp 2]].length 0), (.ptr (([PE.Obj.box p.c] ++ [PE.Obj.box [.nils]]) ++ [PE.Obj.map []]).length 0), (.ptr [PE.Obj.box p.c].length 0)]) = some [PE.Obj.box p.c, .box [.nils], .map [], .box [.mp 2], .box [.fn 23 [.ptr 4 0, .ptr 3 0, .ptr 1 0]]] := rfl
    have hR : RecSt [PE.Obj.box p.c, .box [.nils], .map [], .box [.mp 2], .box [.fn 23 [.ptr 4 0, .ptr 3 0, .ptr 1 0]]] 4 3 1 2 [] :=
      ⟨rfl, rfl, ⟨.nils, rfl, Acc.nil _ _ _⟩, ⟨[], rfl, List.nodup_nil, List.nodup_nil, (fun x hx => by cases hx), fun k hk => absurd (idxs_nil k) hk⟩, by decide, by decide, fun s hs => by cases hs⟩
    obtain ⟨σ', w1, w2, _, _⟩ := walk_ok p hp hz _ [] hR (by have := (fits_nodes hf).1; simpa using this)
    obtain ⟨ov, o1, o2⟩ := w2.o
    have l1 : loadV [PE.Obj.box p.c, .box [.nils], .map [], .box [.mp 2], .box [.fn 23 [.ptr 4 0, .ptr 3 0, .ptr 1 0]]] false 1 (.ptr 4 0) = some (.fn 23 [.ptr 4 0, .ptr 3 0, .ptr 1 0]) := rfl
    have l2 : loadV [PE.Obj.box p.c, .box [.nils], .map [], .box [.mp 2], .box [.fn 23 [.ptr 4 0, .ptr 3 0, .ptr 1 0]]] true 12 (.ptr 0 0) = some (.agg p.c) := load_all (sz := 12) rfl (TProof.len p)
    simp only [e1, Option.bind_some, e2]
    simp only [show ([PE.Obj.box p.c, .box [.nils], .map [], .box [.mp 2]] : Heap).length = 4 from rfl, show ([PE.Obj.box p.c] : Heap).length = 1 from rfl, l1, l2, Option.bind_some, call23w w1, load_box o1 (show ([ov] : List PV)[0]? = some ov from rfl)]
    exact fin_two o2
theorem call9 {R : Type} (p : TProof) (hp : p.ok) (hz : p.sz < lim) (σ : Heap) (pc : Bool) (k : PV → Heap → Option R) : callK C (Hw C XI) σ pc (.fn 9 []) [.agg p.c] k = k (.tup [encL 13 TStep.c (recordOf p).1, .int .i64 (recordOf p).2]) σ :=
  callK_pure C9 rfl (by simp only [pureL, PV.pure, TProof.pure, Bool.and_self]) (by simp only [p9, canonA, canonV, TProof.canon]) (record9_ok p hp hz)
theorem call10 {R : Type} (X : Ext) (p : TProof) (hp : p.ok) (hz : p.sz < lim) (σ : Heap) (pc : Bool) (k : PV → Heap → Option R) : callK C (Hw C X) σ pc (.fn 10 []) [.agg p.c] k = k (.tup [encL 13 TStep.c (recordOf p).1, .int .i64 (recordOf p).2]) σ :=
  callK_pure C10 rfl (by simp only [pureL, PV.pure, TProof.pure, Bool.and_self]) (by simp only [p10, canonA, canonV, TProof.canon]) (record10_ok X p hp hz)
theorem call14' {R : Type} (X : Ext) (a b : TProof) (ha : a.ok) (hb : b.ok) (σ : Heap) (pc : Bool) (k : PV → Heap → Option R) : callK C (Hw C X) σ pc (.fn 14 []) [.agg a.c, .agg b.c] k = k (.bool (eqb a b)) σ := call14 X (same_ok X a b ha hb) σ pc k
theorem step_eq {a b : TStep} : a = b ↔ a.what = b.what ∧ a.kids = b.kids := by
  cases a; cases b; simp
theorem steps_ok (X : Ext) (xs ys : List TStep) (hb : xs.length < 9223372036854775807) (hx : ∀ s ∈ xs, s.what.ok ∧ Sm s.kids) (hy : ∀ s ∈ ys, s.what.ok ∧ Sm s.kids) : (Hw C X).pure 11 [encL 13 TStep.c xs, encL 13 TStep.c ys] = some [.bool (eqb xs ys)] := by
  rw [F11]
  by_cases hl : xs.length = ys.length
  · have hL : L11_1 X (encL 13 TStep.c xs) (encL 13 TStep.c ys) (.int .i64 (0 : Nat)) [] = some [.bool (eqb xs ys)] := by
      refine all_loop_bool (I := fun σ => True) (L := fun i σ => L11_1 X (encL 13 TStep.c xs) (encL 13 TStep.c ys) (.int .i64 (i : Nat)) σ) hl ?_ ?_ ?_ trivial
      · intro σ _
        try simp only
        rw [L11_1_eq]
        simp
        rfl
      · intro i hi hi' σ _ hc
        refine ⟨σ, trivial, ?_⟩
        have g1 := hx _ (List.getElem_mem hi)
        have g2 := hy _ (List.getElem_mem hi')
        obtain ⟨c1, c2⟩ := step_eq.1 hc
        try simp only
        rw [L11_1_eq]
        simp only [len_enc, Option.bind_some, bin_lss, iaddr_enc _ _ hi, iaddr_enc _ _ hi', faddrV_cref, List.drop_zero, loadV_cref, tsw, call14' X _ _ g1.1 g2.1, not_bool, eqb_eq c1, Bool.not_true, guardR_yes, ts12', call30 X _ _ g1.2, eqb_eq c2, nthV_zero, nthV_succ, pickV_false, condK_false, bin_add, wrap_succ (show i < 9223372036854775807 by omega)]
        simp [hi]
      · intro i hi hi' σ _ hc
        have g1 := hx _ (List.getElem_mem hi)
        have g2 := hy _ (List.getElem_mem hi')
        try simp only
        rw [L11_1_eq]
        by_cases c1 : xs[i].what = ys[i].what
        · have c2 : xs[i].kids ≠ ys[i].kids := fun e => hc (step_eq.2 ⟨c1, e⟩)
          simp only [len_enc, Option.bind_some, bin_lss, iaddr_enc _ _ hi, iaddr_enc _ _ hi', faddrV_cref, List.drop_zero, loadV_cref, tsw, call14' X _ _ g1.1 g2.1, not_bool, eqb_eq c1, Bool.not_true, guardR_yes, ts12', call30 X _ _ g1.2, eqb_ne c2, Bool.not_false, nthV_zero, nthV_succ, pickV_false, condK_true]
          simp [hi]
          rfl
        · simp only [len_enc, Option.bind_some, bin_lss, iaddr_enc _ _ hi, iaddr_enc _ _ hi', faddrV_cref, List.drop_zero, loadV_cref, tsw, call14' X _ _ g1.1 g2.1, not_bool, eqb_ne c1, Bool.not_false, guardR_tf, pickV_true, condK_true]
          simp [hi]
          rfl
    simp [hl]
    simpa [hl] using hL
  · have hne : xs ≠ ys := fun e => hl (by rw [e])
    simp [hl, eqb_ne hne]
    rfl
theorem call11 {R : Type} (X : Ext) (a b : List TStep) (hb : a.length < 9223372036854775807) (hx : ∀ s ∈ a, s.what.ok ∧ Sm s.kids) (hy : ∀ s ∈ b, s.what.ok ∧ Sm s.kids) (σ : Heap) (pc : Bool) (k : PV → Heap → Option R) : callK C (Hw C X) σ pc (.fn 11 []) [encL 13 TStep.c a, encL 13 TStep.c b] k = k (.bool (eqb a b)) σ :=
  callK_pure C11 rfl (by simp only [pureL, encL_pure (fun x _ => TStep.pure x), Bool.and_self]) (by simp only [p11, canonA, canon_sl]) (steps_ok X a b hb hx hy)
end Go.Proofs.YtkpbfldnickghaaDoor
set_option linter.unusedVariables false
set_option linter.unusedSimpArgs false
namespace Go.Proofs.YtkpbfldnickghaaDoor
open Go Go.PE
/-- A step that stands at a place. -/
def StepOk (s : TStep) (i : Nat) : Prop := kidsOf s.what = [] ∧ ∀ k ∈ s.kids, 0 ≤ k ∧ k < (i : Int)
def WF (l : List TStep) : Prop := ∀ (i : Nat) (h : i < l.length), StepOk l[i] i
open Classical in
noncomputable def formOf (l : List TStep) : Int := if l.length > 2000 then 2 else if l.length = 0 then 3 else if WF l then 0 else 3
theorem ts11 (s : TStep) : s.c[11]? = some (encL 12 TProof.c (kidsOf s.what)) := by
  obtain ⟨⟨rule, name, forms, subst, path, args, ⟨kind, nums, polys, squares, ckids⟩, kids⟩, ks⟩ := s
  simp only [TStep.c, TProof.c_eq, TCert.c_eq]; rfl
theorem ts11' (s : TStep) : loadP false 1 (s.c.drop 11) = some (encL 12 TProof.c (kidsOf s.what)) := by
  obtain ⟨⟨rule, name, forms, subst, path, args, ⟨kind, nums, polys, squares, ckids⟩, kids⟩, ks⟩ := s
  simp only [TStep.c, TProof.c_eq, TCert.c_eq]; rfl
theorem bad_form {l : List TStep} (h1 : ¬ l.length > 2000) (h2 : ¬ l.length = 0) {i : Nat} (hi : i < l.length) (h : ¬ StepOk l[i] i) : formOf l = 3 := by
  unfold formOf
  rw [if_neg h1, if_neg h2, if_neg fun w => h (w i hi)]
theorem good_form {l : List TStep} (h1 : ¬ l.length > 2000) (h2 : ¬ l.length = 0) (h : WF l) : formOf l = 0 := by
  unfold formOf
  rw [if_neg h1, if_neg h2, if_pos h]
theorem gtr_nat (t : TyK) (a b : Nat) : evBin .gtr t (.int .i64 (a : Nat)) (.int .i64 (b : Nat)) = some (.bool (decide (b < a))) := by
  rw [bin_gtr]
  congr 2
  by_cases h : b < a
  · rw [decide_eq_true h, decide_eq_true (by omega)]
  · rw [decide_eq_false h, decide_eq_false (by omega)]
theorem gtr_zero (t : TyK) (a : Nat) : evBin .gtr t (.int .i64 (a : Nat)) (.int .i64 0) = some (.bool (decide (0 < a))) := gtr_nat t a 0
theorem form31_ok (X : Ext) (l : List TStep) (hs : ∀ s ∈ l, Sm s.kids) : (Hw C X).pure 31 [encL 13 TStep.c l] = some [.int .i64 (formOf l)] := by
  rw [F31]
  simp only [len_enc, Option.bind_some, show (2000 : Int) = ((2000 : Nat) : Int) from rfl, gtr_nat, show (0 : Int) = ((0 : Nat) : Int) from rfl, bin_eqlN]
  by_cases h1 : 2000 < l.length
  · rw [decide_eq_true h1, condK_true]
    unfold formOf
    rw [if_pos h1]
    rfl
  by_cases h2 : l.length = 0
  · rw [decide_eq_false h1, decide_eq_true h2, condK_false, condK_true]
    unfold formOf
    rw [if_neg h1, if_pos h2]
    rfl
  rw [decide_eq_false h1, decide_eq_false h2, condK_false, condK_false]
  refine inv_loop2 (n := l.length) (Q := fun r => r = some [.int .i64 (formOf l)]) (L := fun i τ => L31_1 X (encL 13 TStep.c l) (.int .i64 (l.length : Nat)) (.int .i64 (i : Nat)) τ) (I := fun i τ => ∀ (j : Nat) (hj : j < l.length), j < i → StepOk l[j] j) ?_ ?_ (fun j hj h => by omega)
  · intro τ hI
    rw [good_form h1 h2 fun i h => hI i h h]
    try simp only
    rw [L31_1_eq]
    simp only [bin_lss, Option.bind_some, Int.lt_irrefl, decide_false, condK_false]
    rfl
  · intro i hi τ hI
    have hsm := hs _ (List.getElem_mem hi)
    have g0 : (τ ++ [PE.Obj.box l[i].c])[τ.length]? = some (.box l[i].c) := get_last _ _
    by_cases hk : (kidsOf l[i].what).length = 0
    · have hk' : kidsOf l[i].what = [] := List.eq_nil_of_length_eq_zero hk
      have inner : (fun r => r = some [.int .i64 (formOf l)] ∨ ∃ τ', (∀ (j : Nat) (hj : j < l.length), j < i + 1 → StepOk l[j] j) ∧ r = L31_1 X (encL 13 TStep.c l) (.int .i64 (l.length : Nat)) (.int .i64 ((i + 1 : Nat) : Int)) τ') (L31_2 X (.int .i64 (i : Nat)) (encL 13 TStep.c l) (.int .i64 (l.length : Nat)) (.int .i64 (i : Nat)) (encL 1 cInt l[i].kids) (.int .i64 (l[i].kids.length : Nat)) (.int .i64 (0 : Nat)) (τ ++ [PE.Obj.box l[i].c])) := by
        refine inv_loop2 (n := l[i].kids.length) (Q := fun r => r = some [.int .i64 (formOf l)] ∨ ∃ τ', (∀ (j : Nat) (hj : j < l.length), j < i + 1 → StepOk l[j] j) ∧ r = L31_1 X (encL 13 TStep.c l) (.int .i64 (l.length : Nat)) (.int .i64 ((i + 1 : Nat) : Int)) τ')
          (L := fun j τ => L31_2 X (.int .i64 (i : Nat)) (encL 13 TStep.c l) (.int .i64 (l.length : Nat)) (.int .i64 (i : Nat)) (encL 1 cInt l[i].kids) (.int .i64 (l[i].kids.length : Nat)) (.int .i64 (j : Nat)) τ) (I := fun j τ => ∀ (j' : Nat) (hj : j' < l[i].kids.length), j' < j → 0 ≤ l[i].kids[j'] ∧ l[i].kids[j'] < (i : Int)) ?_ ?_ (fun j hj h => by omega)
        · intro τ' hJ
          right
          refine ⟨τ', fun j hj hlt => ?_, ?_⟩
          · rcases Nat.lt_or_ge j i with h | h
            · exact hI j hj h
            · obtain rfl : j = i := by omega
              refine ⟨hk', fun k hk => ?_⟩
              obtain ⟨j', hj', rfl⟩ := List.mem_iff_getElem.1 hk
              exact hJ j' hj' hj'
          · try simp only
            rw [L31_2_eq]
            simp only [bin_lss, Option.bind_some, Int.lt_irrefl, decide_false, condK_false, bin_add, wrap_succ (show i < 9223372036854775807 by omega)]
        · intro j hj τ' hJ
          unfold Sm at hsm
          try simp only
          rw [L31_2_eq]
          have e0 : decide ((j : Int) < (l[i].kids.length : Int)) = true := decide_eq_true (by omega)
          simp only [bin_lss, Option.bind_some, e0, condK_true, iaddr_enc _ _ hj, loadV_cref, cInt, loadP_one]
          by_cases c1 : l[i].kids[j] < 0
          · left
            left
            rw [bad_form h1 h2 hi fun w => by have := w.2 _ (List.getElem_mem hj); omega]
            simp only [decide_eq_true c1, guardR_tf, pickV_true, Option.bind_some, condK_true]
            rfl
          · by_cases c2 : l[i].kids[j] ≥ (i : Int)
            · left
              left
              rw [bad_form h1 h2 hi fun w => by have := w.2 _ (List.getElem_mem hj); omega]
              simp only [decide_eq_false c1, guardR_yes, bin_geq, decide_eq_true c2, nthV_zero, nthV_succ, pickV_false, Option.bind_some, condK_true]
              rfl
            · right
              refine ⟨τ', fun j' hj' hlt => ?_, ?_⟩
              · rcases Nat.lt_or_ge j' j with h | h
                · exact hJ j' hj' h
                · obtain rfl : j' = j := by omega
                  omega
              · simp only [decide_eq_false c1, guardR_yes, bin_geq, decide_eq_false c2, nthV_zero, nthV_succ, pickV_false, Option.bind_some, condK_false, bin_add, wrap_succ (show j < 9223372036854775807 by omega)]
      have hI0 : decide ((i : Int) < (l.length : Int)) = true := decide_eq_true (by omega)
      have e : L31_1 X (encL 13 TStep.c l) (.int .i64 (l.length : Nat)) (.int .i64 (i : Nat)) τ = L31_2 X (.int .i64 (i : Nat)) (encL 13 TStep.c l) (.int .i64 (l.length : Nat)) (.int .i64 (i : Nat)) (encL 1 cInt l[i].kids) (.int .i64 (l[i].kids.length : Nat)) (.int .i64 (0 : Nat)) (τ ++ [PE.Obj.box l[i].c]) := by
        rw [L31_1_eq]
        simp only [bin_lss, Option.bind_some, hI0, condK_true, iaddr_enc _ _ hi, loadV_cref, loadP_all (TStep.len _), storeV_last (sz := 13) (cs := [(.str []), (.str []), .nils, .nils, .nils, .nils, (.int .i64 0), .nils, .nils, .nils, .nils, .nils, .nils]) rfl (TStep.len _) (TStep.scal _), faddrV_ptr, Nat.zero_add, load_box g0 (ts11 _), load_box g0 (ts12 _), len_enc, hk, gtr_zero, Nat.lt_irrefl, decide_false, condK_false]
        rfl
      rcases inner with h | ⟨τ', h, h'⟩
      · exact .inl (by simp only [e]; exact h)
      · exact .inr ⟨τ', h, by simp only [e]; exact h'⟩
    · left
      have hk' : kidsOf l[i].what ≠ [] := fun e => hk (by rw [e]; rfl)
      rw [bad_form h1 h2 hi fun w => hk' w.1]
      have hI0 : decide ((i : Int) < (l.length : Int)) = true := decide_eq_true (by omega)
      try simp only
      rw [L31_1_eq]
      simp only [bin_lss, Option.bind_some, hI0, condK_true, iaddr_enc _ _ hi, loadV_cref, loadP_all (TStep.len _), storeV_last (sz := 13) (cs := [(.str []), (.str []), .nils, .nils, .nils, .nils, (.int .i64 0), .nils, .nils, .nils, .nils, .nils, .nils]) rfl (TStep.len _) (TStep.scal _), faddrV_ptr, Nat.zero_add, load_box g0 (ts11 _), load_box g0 (ts12 _), len_enc, gtr_zero, decide_eq_true (show 0 < (kidsOf l[i].what).length by omega)]
      rfl
theorem form33_ok (X : Ext) (l : List TStep) (hs : ∀ s ∈ l, Sm s.kids) : (Hw C X).pure 33 [encL 13 TStep.c l] = some [.int .i64 (formOf l)] := by
  rw [F33]
  simp only [len_enc, Option.bind_some, show (2000 : Int) = ((2000 : Nat) : Int) from rfl, gtr_nat, show (0 : Int) = ((0 : Nat) : Int) from rfl, bin_eqlN]
  by_cases h1 : 2000 < l.length
  · rw [decide_eq_true h1, condK_true]
    unfold formOf
    rw [if_pos h1]
    rfl
  by_cases h2 : l.length = 0
  · rw [decide_eq_false h1, decide_eq_true h2, condK_false, condK_true]
    unfold formOf
    rw [if_neg h1, if_pos h2]
    rfl
  rw [decide_eq_false h1, decide_eq_false h2, condK_false, condK_false]
  refine inv_loop2 (n := l.length) (Q := fun r => r = some [.int .i64 (formOf l)]) (L := fun i τ => L33_1 X (encL 13 TStep.c l) (.int .i64 (i : Nat)) τ) (I := fun i τ => ∀ (j : Nat) (hj : j < l.length), j < i → StepOk l[j] j) ?_ ?_ (fun j hj h => by omega)
  · intro τ hI
    rw [good_form h1 h2 fun i h => hI i h h]
    try simp only
    rw [L33_1_eq]
    simp only [len_enc, bin_lss, Option.bind_some, Int.lt_irrefl, decide_false, condK_false]
    rfl
  · intro i hi τ hI
    have hsm := hs _ (List.getElem_mem hi)
    by_cases hk : (kidsOf l[i].what).length = 0
    · have hk' : kidsOf l[i].what = [] := List.eq_nil_of_length_eq_zero hk
      have inner : (fun r => r = some [.int .i64 (formOf l)] ∨ ∃ τ', (∀ (j : Nat) (hj : j < l.length), j < i + 1 → StepOk l[j] j) ∧ r = L33_1 X (encL 13 TStep.c l) (.int .i64 ((i + 1 : Nat) : Int)) τ') (L33_2 X (encL 13 TStep.c l) (.int .i64 (i : Nat)) (.int .i64 (0 : Nat)) τ) := by
        refine inv_loop2 (n := l[i].kids.length) (Q := fun r => r = some [.int .i64 (formOf l)] ∨ ∃ τ', (∀ (j : Nat) (hj : j < l.length), j < i + 1 → StepOk l[j] j) ∧ r = L33_1 X (encL 13 TStep.c l) (.int .i64 ((i + 1 : Nat) : Int)) τ')
          (L := fun j τ => L33_2 X (encL 13 TStep.c l) (.int .i64 (i : Nat)) (.int .i64 (j : Nat)) τ) (I := fun j τ => ∀ (j' : Nat) (hj : j' < l[i].kids.length), j' < j → 0 ≤ l[i].kids[j'] ∧ l[i].kids[j'] < (i : Int)) ?_ ?_ (fun j hj h => by omega)
        · intro τ' hJ
          right
          refine ⟨τ', fun j hj hlt => ?_, ?_⟩
          · rcases Nat.lt_or_ge j i with h | h
            · exact hI j hj h
            · obtain rfl : j = i := by omega
              refine ⟨hk', fun k hk => ?_⟩
              obtain ⟨j', hj', rfl⟩ := List.mem_iff_getElem.1 hk
              exact hJ j' hj' hj'
          · try simp only
            rw [L33_2_eq]
            simp only [iaddr_enc _ _ hi, faddrV_cref, loadV_cref, ts12', len_enc, bin_lss, Option.bind_some, Int.lt_irrefl, decide_false, condK_false, bin_add, wrap_succ (show i < 9223372036854775807 by omega)]
        · intro j hj τ' hJ
          unfold Sm at hsm
          try simp only
          rw [L33_2_eq]
          have e0 : decide ((j : Int) < (l[i].kids.length : Int)) = true := decide_eq_true (by omega)
          simp only [iaddr_enc _ _ hi, faddrV_cref, loadV_cref, ts12', len_enc, bin_lss, Option.bind_some, e0, condK_true, iaddr_enc _ _ hj, cInt, loadP_one]
          by_cases c1 : l[i].kids[j] < 0
          · left
            left
            rw [bad_form h1 h2 hi fun w => by have := w.2 _ (List.getElem_mem hj); omega]
            simp only [decide_eq_true c1, guardR_tf, pickV_true, Option.bind_some, condK_true]
            rfl
          · by_cases c2 : l[i].kids[j] ≥ (i : Int)
            · left
              left
              rw [bad_form h1 h2 hi fun w => by have := w.2 _ (List.getElem_mem hj); omega]
              simp only [decide_eq_false c1, guardR_yes, bin_geq, decide_eq_true c2, nthV_zero, nthV_succ, pickV_false, Option.bind_some, condK_true]
              rfl
            · right
              refine ⟨τ', fun j' hj' hlt => ?_, ?_⟩
              · rcases Nat.lt_or_ge j' j with h | h
                · exact hJ j' hj' h
                · obtain rfl : j' = j := by omega
                  omega
              · simp only [decide_eq_false c1, guardR_yes, bin_geq, decide_eq_false c2, nthV_zero, nthV_succ, pickV_false, Option.bind_some, condK_false, bin_add, wrap_succ (show j < 9223372036854775807 by omega)]
      have hI0 : decide ((i : Int) < (l.length : Int)) = true := decide_eq_true (by omega)
      have e : L33_1 X (encL 13 TStep.c l) (.int .i64 (i : Nat)) τ = L33_2 X (encL 13 TStep.c l) (.int .i64 (i : Nat)) (.int .i64 (0 : Nat)) τ := by
        rw [L33_1_eq]
        simp only [len_enc, bin_lss, Option.bind_some, hI0, condK_true, iaddr_enc _ _ hi, faddrV_cref, List.drop_zero, loadV_cref, ts11', hk, gtr_zero, Nat.lt_irrefl, decide_false, condK_false]
        rfl
      rcases inner with h | ⟨τ', h, h'⟩
      · exact .inl (by simp only [e]; exact h)
      · exact .inr ⟨τ', h, by simp only [e]; exact h'⟩
    · left
      have hk' : kidsOf l[i].what ≠ [] := fun e => hk (by rw [e]; rfl)
      rw [bad_form h1 h2 hi fun w => hk' w.1]
      have hI0 : decide ((i : Int) < (l.length : Int)) = true := decide_eq_true (by omega)
      try simp only
      rw [L33_1_eq]
      simp only [len_enc, bin_lss, Option.bind_some, hI0, condK_true, iaddr_enc _ _ hi, faddrV_cref, List.drop_zero, loadV_cref, ts11', gtr_zero, decide_eq_true (show 0 < (kidsOf l[i].what).length by omega)]
      rfl
theorem call31 {R : Type} (X : Ext) (l : List TStep) (hs : ∀ s ∈ l, Sm s.kids) (σ : Heap) (pc : Bool) (k : PV → Heap → Option R) : callK C (Hw C X) σ pc (.fn 31 []) [encL 13 TStep.c l] k = k (.int .i64 (formOf l)) σ :=
  callK_pure C31 rfl (by simp only [pureL, encL_pure (fun x _ => TStep.pure x), Bool.and_self]) (by simp only [p31, canonA, canon_sl]) (form31_ok X l hs)
theorem call33 {R : Type} (X : Ext) (l : List TStep) (hs : ∀ s ∈ l, Sm s.kids) (σ : Heap) (pc : Bool) (k : PV → Heap → Option R) : callK C (Hw C X) σ pc (.fn 33 []) [encL 13 TStep.c l] k = k (.int .i64 (formOf l)) σ :=
  callK_pure C33 rfl (by simp only [pureL, encL_pure (fun x _ => TStep.pure x), Bool.and_self]) (by simp only [p33, canonA, canon_sl]) (form33_ok X l hs)
end Go.Proofs.YtkpbfldnickghaaDoor
set_option linter.unusedVariables false
set_option linter.unusedSimpArgs false
namespace Go.Proofs.YtkpbfldnickghaaDoor
open Go Go.PE
def withKids (b : Bare) (ks : List TProof) : TProof := .mk b.rule b.name b.forms b.subst b.path b.args b.cert ks
def emptyP : TProof := .mk [] [] [] [] [] [] (.mk 0 [] [] [] []) []
/-- The tree of a step. -/
def treeAt (l : List TStep) (i : Nat) : TProof :=
  match l[i]? with
  | none => emptyP
  | some s => withKids (bareOf s.what) (s.kids.map fun k => if h : k.toNat < i then treeAt l k.toNat else emptyP)
termination_by i
theorem treeAt_eq {l : List TStep} {i : Nat} (hi : i < l.length) (w : ∀ k ∈ l[i].kids, 0 ≤ k ∧ k < (i : Int)) : treeAt l i = withKids (bareOf l[i].what) (l[i].kids.map fun k => treeAt l k.toNat) := by
  rw [treeAt, List.getElem?_eq_getElem hi]
  simp only
  congr 1
  refine List.map_congr_left fun k hk => ?_
  have := w k hk
  rw [dif_pos (by omega)]
def bareK (b : Bare) (v : PV) : List PV := [.str b.rule, .str b.name, encL 6 TNode.c b.forms, encL 13 TPair.c b.subst, encL 1 cInt b.path, encL 1 cStr b.args] ++ b.cert.c ++ [v]
theorem bareK_nils (b : Bare) : bareC b = bareK b .nils := rfl
theorem bareK_len (b : Bare) (v : PV) : (bareK b v).length = 12 := by simp [bareK, TCert.len]
theorem bareK_front (b : Bare) : ([.str b.rule, .str b.name, encL 6 TNode.c b.forms, encL 13 TPair.c b.subst, encL 1 cInt b.path, encL 1 cStr b.args] ++ b.cert.c : List PV).length = 11 := by simp [TCert.len]
theorem bareK_set (b : Bare) (v w : PV) : (bareK b v).set 11 w = bareK b w := by
  unfold bareK
  rw [List.set_append_right _ _ (by rw [bareK_front]; omega), bareK_front]
  rfl
theorem bareK_get (b : Bare) (v : PV) : (bareK b v)[11]? = some v := by
  unfold bareK
  rw [List.getElem?_append_right (by rw [bareK_front]; omega), bareK_front]
  rfl
theorem bareK_scal (b : Bare) {v : PV} (h : v.scalar = true) : (bareK b v).all PV.scalar = true := by
  simp only [bareK, List.all_append, TCert.scal, List.all_cons, List.all_nil, scal_encL, Bool.and_true, h]
  rfl
theorem front_pure (b : Bare) : pureL ([.str b.rule, .str b.name, encL 6 TNode.c b.forms, encL 13 TPair.c b.subst, encL 1 cInt b.path, encL 1 cStr b.args] ++ b.cert.c) = true := by
  simp only [pureL_app, pureL, PV.pure, encL_pure (fun x _ => TNode.pure x), encL_pure (fun x _ => TPair.pure x), encL_pure (fun x _ => cInt_pure x), encL_pure (fun x _ => cStr_pure x), TCert.pure, Bool.and_self]
theorem front_canon (b : Bare) : canonL [none, none, some 6, some 13, some 1, some 1, none, some 3, some 2, some 5, some 5] ([.str b.rule, .str b.name, encL 6 TNode.c b.forms, encL 13 TPair.c b.subst, encL 1 cInt b.path, encL 1 cStr b.args] ++ b.cert.c) = [.str b.rule, .str b.name, encL 6 TNode.c b.forms, encL 13 TPair.c b.subst, encL 1 cInt b.path, encL 1 cStr b.args] ++ b.cert.c := by
  obtain ⟨rule, name, forms, subst, path, args, ⟨kind, nums, polys, squares, kids⟩⟩ := b
  simp [TCert.c_eq, canonL, canon1_encL, canon1_none]
theorem fin1_pure {σ : Heap} {p : PV} (h : p.pure = true) : fin1 σ p = p := by cases p <;> first | rfl | (simp [PV.pure] at h)
theorem finL_pure {σ : Heap} : ∀ {l : List PV}, pureL l = true → l.map (fin1 σ) = l
  | [], _ => rfl
  | v :: l, h => by
    simp only [pureL, Bool.and_eq_true] at h
    simp only [List.map_cons, fin1_pure h.1, finL_pure h.2]
theorem withKids_c (b : Bare) (ks : List TProof) : (withKids b ks).c = bareK b (encL 12 TProof.c ks) := by
  unfold withKids
  rw [TProof.c_eq]
  rfl
abbrev shP : List (Option Nat) := [none, none, some 6, some 13, some 1, some 1, none, some 3, some 2, some 5, some 5, some 12]
theorem coe_snoc {τ : Heap} {F : List PV} {v : PV} : coeV τ (.agg (F ++ [v])) = .agg (F.map (coe1 τ) ++ [coe1 τ v]) := by simp [coeV]
theorem fin_snoc {τ : Heap} {F : List PV} {v : PV} : finV τ (.agg (F ++ [v])) = .agg (F.map (fin1 τ) ++ [fin1 τ v]) := by simp [finV]
theorem bareK_coe {τ : Heap} {b : Bare} {v : PV} {ks : List TProof} (h : Acc τ v 34 12 (ks.map TProof.c)) : canonV shP (coeV τ (.agg (bareK b v))) = .agg (withKids b ks).c := by
  simp only [bareK, coe_snoc, coeL_pure (front_pure b), canonV]
  rw [show shP = [none, none, some 6, some 13, some 1, some 1, none, some 3, some 2, some 5, some 5] ++ [some 12] from rfl, canonL_app (by rw [bareK_front]; rfl), front_canon, withKids_c]
  simp only [canonL, h.coe]
  rfl
theorem bareK_fin {τ : Heap} {b : Bare} {v : PV} {ks : List TProof} (h : Acc τ v 34 12 (ks.map TProof.c)) : canonV shP (finV τ (.agg (bareK b v))) = .agg (withKids b ks).c := by
  simp only [bareK, fin_snoc, finL_pure (front_pure b), canonV]
  rw [show shP = [none, none, some 6, some 13, some 1, some 1, none, some 3, some 2, some 5, some 5] ++ [some 12] from rfl, canonL_app (by rw [bareK_front]; rfl), front_canon, withKids_c]
  simp only [canonL, h.fin]
  rfl
/-- What steps are that trees are made of. -/
structure Steps (l : List TStep) : Prop where
  wf : WF l
  sz : ∀ s ∈ l, s.what.sz < lim ∧ s.kids.length < lim
theorem build_call {R : Type} {X : Ext} {i sb fb : Nat} {σ σ' : Heap} {rs : List PV} (h : (Hw C X).imp 32 [.int .i64 (i : Nat), .ptr sb 0, .ptr fb 0] σ = some (rs, σ')) (K : PV → Heap → Option R) :
    callK C (Hw C X) σ false (.fn 32 [.ptr sb 0, .ptr fb 0]) [.int .i64 (i : Nat)] K = K (packP rs) σ' :=
  callK_imp (args' := [.int .i64 (i : Nat), .ptr sb 0, .ptr fb 0]) C32 rfl rfl h
theorem build32_ok (X : Ext) {l : List TStep} (hl : Steps l) {sb fb : Nat} : ∀ (i : Nat) (hi : i < l.length) (σ : Heap), σ[sb]? = some (.box [encL 13 TStep.c l]) → σ[fb]? = some (.box [.fn 32 [.ptr sb 0, .ptr fb 0]]) →
    ∃ σ', (Hw C X).imp 32 [.int .i64 (i : Nat), .ptr sb 0, .ptr fb 0] σ = some ([.agg (treeAt l i).c], σ') ∧ Stay (fun _ => False) σ σ'
  | i, hi, σ, hs, hf => by
    have hw := hl.wf i hi
    obtain ⟨z1, z2⟩ := hl.sz _ (List.getElem_mem hi)
    have t := treeAt_eq hi hw.2
    have g1 : (σ ++ [PE.Obj.box [(.str []), (.str []), .nils, .nils, .nils, .nils, (.int .i64 0), .nils, .nils, .nils, .nils, .nils]])[sb]? = some (.box [encL 13 TStep.c l]) := get_prev hs _
    have hst0 : Stay (fun _ => False) σ (σ ++ [PE.Obj.box [(.str []), (.str []), .nils, .nils, .nils, .nils, (.int .i64 0), .nils, .nils, .nils, .nils, .nils]]) := Stay.push _ _ _
    have hst1 : Stay (fun _ => False) σ (σ ++ [PE.Obj.box [(.str []), (.str []), .nils, .nils, .nils, .nils, (.int .i64 0), .nils, .nils, .nils, .nils, .nils]] ++ [.box (bareC (bareOf l[i].what))]) := hst0.trans (Stay.push _ _ _)
    have hlen : (σ ++ [PE.Obj.box [(.str []), (.str []), .nils, .nils, .nils, .nils, (.int .i64 0), .nils, .nils, .nils, .nils, .nils]]).length = σ.length + 1 := by simp
    rw [F32]
    simp only [load_box g1 (show ([encL 13 TStep.c l] : List PV)[0]? = some _ from rfl), Option.bind_some, iaddr_enc _ _ hi, faddrV_cref, List.drop_zero, loadV_cref, tsw, call24 X _ z1, storeV_last (sz := 12) (cs := [(.str []), (.str []), .nils, .nils, .nils, .nils, (.int .i64 0), .nils, .nils, .nils, .nils, .nils]) rfl (bareC_len _) (bareC_scal _), load_box (get_prev g1 [.box (bareC (bareOf l[i].what))]) (show ([encL 13 TStep.c l] : List PV)[0]? = some _ from rfl), ts12', len_enc]
    rw [hlen]
    refine inv_loop (n := l[i].kids.length) (Q := fun r => ∃ σ', r = some ([.agg (treeAt l i).c], σ') ∧ Stay (fun _ => False) σ σ')
      (L := fun j τ => L32_1 X (.ptr fb 0) (.ptr σ.length 0) (.ptr (σ.length + 1) 0) (encL 1 cInt l[i].kids) (.int .i64 (l[i].kids.length : Nat)) (.int .i64 (j : Nat)) τ)
      (I := fun j τ => Stay (fun _ => False) σ τ ∧ (∃ cs, τ[σ.length]? = some (.box cs) ∧ cs.length = 12) ∧ ∃ v, τ[σ.length + 1]? = some (.box (bareK (bareOf l[i].what) v)) ∧ Acc τ v 34 12 (((l[i].kids.take j).map fun k => treeAt l k.toNat).map TProof.c) ∧ ∀ L, AccAt v L → σ.length ≤ L) ?_ ?_ ?_
    · rintro τ ⟨k1, ⟨cs, k2, k2'⟩, v, k3, k4, k5⟩
      rw [List.take_length] at k4
      refine ⟨τ.set σ.length (.box (bareK (bareOf l[i].what) v)), ?_, ⟨by simpa using k1.1, fun id hid _ => by rw [List.getElem?_set_ne (by omega)]; exact k1.2 id hid (fun h => h)⟩⟩
      have k4' : Acc (τ.set σ.length (.box (bareK (bareOf l[i].what) v))) v 34 12 ((l[i].kids.map fun k => treeAt l k.toNat).map TProof.c) := k4.keep fun L hL _ => List.getElem?_set_ne fun e => k4.notBox k2 (by rw [e]; exact hL)
      try simp only
      rw [L32_1_eq]
      simp only [bin_lss, Option.bind_some, Int.lt_irrefl, decide_false, condK_false]
      rw [J32_2_eq]
      simp only [load_all (sz := 12) k3 (bareK_len _ _), Option.bind_some, storeV_all k2 (bareK_len _ _) k2' (bareK_scal _ k4.scal), load_all (sz := 12) (get_set k2 _) (bareK_len _ _)]
      rw [t]
      simp only [p32, keepArgs, bareK_coe k4']
      rfl
    · rintro j hj τ ⟨k1, ⟨cs, k2, k2'⟩, v, k3, k4, k5⟩
      obtain ⟨w1, w2⟩ := hw.2 _ (List.getElem_mem hj)
      have hki : l[i].kids[j].toNat < i := by omega
      have hf' := k1.get hf (fun h => h)
      have hs' := k1.get hs (fun h => h)
      obtain ⟨τ', e1, e2⟩ := build32_ok X hl l[i].kids[j].toNat (by omega) τ hs' hf'
      have hcall := fun (K : PV → Heap → Option (List PV × Heap)) => build_call e1 K
      rw [Int.toNat_of_nonneg w1] at hcall
      have e3 := e2.trans (Stay.push (fun _ => False) τ' [.box (treeAt l l[i].kids[j].toNat).c])
      have g3 := e3.get k3 (fun h => h)
      have k4' : Acc (τ' ++ [.box (treeAt l l[i].kids[j].toNat).c]) v 34 12 (((l[i].kids.take j).map fun k => treeAt l k.toNat).map TProof.c) := k4.keep fun L _ hlt => e3.2 L hlt fun h => h
      obtain ⟨v', τ2, a1, a2, a3, a4⟩ := k4'.append (bytes := 256) (row := (treeAt l l[i].kids[j].toNat).c) (TProof.pure _) (TProof.len _) (TProof.scal _) (by
        rw [List.length_map, List.length_map, List.length_take]
        unfold lim at z2
        omega)
      have g3' := a3.get g3 (k4'.notBox g3)
      have g2' : τ2[σ.length]? = some (.box cs) := a3.get (e3.get k2 (fun h => h)) (k4'.notBox (e3.get k2 (fun h => h)))
      have lt1 := k1.1
      have lt2 := e3.1
      have hst := storeV_one (off := 11) (y := v') g3' (by rw [bareK_len]; omega) a2.scal
      rw [bareK_set] at hst
      refine ⟨τ2.set (σ.length + 1) (.box (bareK (bareOf l[i].what) v')), ⟨⟨Nat.le_trans lt1 (Nat.le_trans lt2 (by simpa using a3.1)), fun id hid _ => ?_⟩, ⟨cs, get_other g2' (by omega) _, k2'⟩, v', get_set g3' _, ?_, fun L hL => ?_⟩, ?_⟩
      · rw [List.getElem?_set_ne (by omega), a3.2 id (by omega) (fun h => by have := k5 id h; omega), e3.2 id (by omega) (fun h => h), k1.2 id hid (fun h => h)]
      · rw [take_map_succ _ _ hj, List.map_append]
        exact a2.keep fun L hL _ => List.getElem?_set_ne fun e => a2.notBox g3' (by rw [e]; exact hL)
      · rcases a4 with ⟨L1, h1, rfl⟩ | ⟨_, rfl⟩
        · obtain ⟨_, _, hL⟩ := hL
          cases hL
          exact k5 _ h1
        · obtain ⟨_, _, hL⟩ := hL
          cases hL
          omega
      · try simp only
        rw [L32_1_eq]
        have hj0 : decide ((j : Int) < (l[i].kids.length : Int)) = true := decide_eq_true (by omega)
        simp only [bin_lss, Option.bind_some, hj0, condK_true, iaddr_enc _ _ hj, loadV_cref, cInt, loadP_one, load_box hf' (show ([.fn 32 [.ptr sb 0, .ptr fb 0]] : List PV)[0]? = some _ from rfl), hcall, packP, storeV_last (sz := 12) (cs := [(.str []), (.str []), .nils, .nils, .nils, .nils, (.int .i64 0), .nils, .nils, .nils, .nils, .nils]) rfl (TProof.len _) (TProof.scal _), faddrV_ptr, Nat.zero_add, load_box g3 (bareK_get _ _), load_all (sz := 12) (get_last τ' (.box (treeAt l l[i].kids[j].toNat).c)) (TProof.len _), bslice_pure (TProof.canon _) (TProof.len _) (TProof.pure _), a1 _ (rowsOf_sl _ _ _ _), hst, bin_add, wrap_succ (show j < 9223372036854775807 by unfold lim at z2; omega)]
    · refine ⟨hst1, ⟨_, get_prev (get_last _ _) _, rfl⟩, .nils, ?_, by simpa using Acc.nil _ _ _, fun L ⟨_, _, h⟩ => by cases h⟩
      rw [← hlen]
      exact get_last _ _
termination_by i => i
theorem built_call {R : Type} {X : Ext} {i : Nat} {l : List TStep} {r : TProof} (h : (Hw C X).pure 34 [encL 13 TStep.c l, .int .i64 (i : Nat)] = some [.agg r.c]) (σ : Heap) (pc : Bool) (K : PV → Heap → Option R) :
    callK C (Hw C X) σ pc (.fn 34 []) [encL 13 TStep.c l, .int .i64 (i : Nat)] K = K (.agg r.c) σ :=
  callK_pure C34 rfl (by simp only [pureL, encL_pure (fun x _ => TStep.pure x), PV.pure, Bool.and_self]) (by simp only [p34, canonA, canon_sl]; rfl) h
theorem built34_ok (X : Ext) {l : List TStep} (hl : Steps l) : ∀ (i : Nat) (hi : i < l.length), (Hw C X).pure 34 [encL 13 TStep.c l, .int .i64 (i : Nat)] = some [.agg (treeAt l i).c]
  | i, hi => by
    have hw := hl.wf i hi
    obtain ⟨z1, z2⟩ := hl.sz _ (List.getElem_mem hi)
    have t := treeAt_eq hi hw.2
    rw [F34]
    have hsto : storeV (([] ++ [PE.Obj.box [(.str []), (.str []), .nils, .nils, .nils, .nils, (.int .i64 0), .nils, .nils, .nils, .nils, .nils]]) ++ [PE.Obj.box [(.str []), (.str []), .nils, .nils, .nils, .nils, (.int .i64 0), .nils, .nils, .nils, .nils, .nils]]) 12 (.ptr ([] ++ [PE.Obj.box [(.str []), (.str []), .nils, .nils, .nils, .nils, (.int .i64 0), .nils, .nils, .nils, .nils, .nils]]).length 0) (.agg l[i].what.c) = some [PE.Obj.box [(.str []), (.str []), .nils, .nils, .nils, .nils, (.int .i64 0), .nils, .nils, .nils, .nils, .nils], .box l[i].what.c] := storeV_last (sz := 12) rfl (TProof.len _) (TProof.scal _)
    have hst1 := storeV_one (σ := [PE.Obj.box [(.str []), (.str []), .nils, .nils, .nils, .nils, (.int .i64 0), .nils, .nils, .nils, .nils, .nils], .box l[i].what.c]) (id := 1) (off := 11) (y := .nils) rfl (by rw [TProof.len]; omega) rfl
    rw [set_bare] at hst1
    simp only [iaddr_enc _ _ hi, Option.bind_some, faddrV_cref, List.drop_zero, loadV_cref, tsw, hsto, faddrV_ptr, Nat.zero_add]
    simp only [List.nil_append, List.length_singleton, List.length_nil, hst1, Option.bind_some]
    refine inv_loop (n := l[i].kids.length) (Q := fun r => r = some [.agg (treeAt l i).c])
      (L := fun j τ => L34_1 X (encL 13 TStep.c l) (.int .i64 (i : Nat)) (.ptr 0 0) (.ptr 1 0) (.int .i64 (j : Nat)) τ)
      (I := fun j τ => (∃ cs, τ[0]? = some (.box cs) ∧ cs.length = 12) ∧ ∃ v, τ[1]? = some (.box (bareK (bareOf l[i].what) v)) ∧ Acc τ v 34 12 (((l[i].kids.take j).map fun k => treeAt l k.toNat).map TProof.c)) ?_ ?_ ?_
    · rintro τ ⟨⟨cs, k2, k2'⟩, v, k3, k4⟩
      rw [List.take_length] at k4
      have k4' : Acc (τ.set 0 (.box (bareK (bareOf l[i].what) v))) v 34 12 ((l[i].kids.map fun k => treeAt l k.toNat).map TProof.c) := k4.keep fun L hL _ => List.getElem?_set_ne fun e => k4.notBox k2 (by rw [e]; exact hL)
      try simp only
      rw [L34_1_eq]
      simp only [iaddr_enc _ _ hi, faddrV_cref, loadV_cref, ts12', len_enc, bin_lss, Option.bind_some, Int.lt_irrefl, decide_false, condK_false]
      rw [J34_2_eq]
      simp only [load_all (sz := 12) k3 (bareK_len _ _), Option.bind_some, storeV_all k2 (bareK_len _ _) k2' (bareK_scal _ k4.scal), load_all (sz := 12) (get_set k2 _) (bareK_len _ _)]
      rw [t]
      have e : finArgs (τ.set 0 (.box (bareK (bareOf l[i].what) v))) p34.keepr [.agg (bareK (bareOf l[i].what) v)] = [.agg (withKids (bareOf l[i].what) (l[i].kids.map fun k => treeAt l k.toNat)).c] := by
        simp only [p34, finArgs, bareK_fin k4']
        rfl
      unfold finVs
      rw [e, if_pos]
      simp only [pureL, PV.pure, TProof.pure, Bool.and_self]
    · rintro j hj τ ⟨⟨cs, k2, k2'⟩, v, k3, k4⟩
      obtain ⟨w1, w2⟩ := hw.2 _ (List.getElem_mem hj)
      have hki : l[i].kids[j].toNat < i := by omega
      have hcall := fun (K : PV → Heap → Option (List PV)) => built_call (built34_ok X hl l[i].kids[j].toNat (by omega)) τ true K
      rw [Int.toNat_of_nonneg w1] at hcall
      obtain ⟨v', τ2, a1, a2, a3, a4⟩ := k4.append (bytes := 256) (row := (treeAt l l[i].kids[j].toNat).c) (TProof.pure _) (TProof.len _) (TProof.scal _) (by
        rw [List.length_map, List.length_map, List.length_take]
        unfold lim at z2
        omega)
      have g3' := a3.get k3 (k4.notBox k3)
      have g2' : τ2[0]? = some (.box cs) := a3.get k2 (k4.notBox k2)
      have hst := storeV_one (off := 11) (y := v') g3' (by rw [bareK_len]; omega) a2.scal
      rw [bareK_set] at hst
      refine ⟨τ2.set 1 (.box (bareK (bareOf l[i].what) v')), ⟨⟨cs, get_other g2' (by omega) _, k2'⟩, v', get_set g3' _, ?_⟩, ?_⟩
      · rw [take_map_succ _ _ hj, List.map_append]
        exact a2.keep fun L hL _ => List.getElem?_set_ne fun e => a2.notBox g3' (by rw [e]; exact hL)
      · try simp only
        rw [L34_1_eq]
        have hj0 : decide ((j : Int) < (l[i].kids.length : Int)) = true := decide_eq_true (by omega)
        simp only [iaddr_enc _ _ hi, faddrV_cref, ts12', len_enc, bin_lss, Option.bind_some, hj0, condK_true, iaddr_enc _ _ hj, loadV_cref, cInt, loadP_one, hcall, faddrV_ptr, Nat.zero_add, load_box k3 (bareK_get _ _), bslice_pure (TProof.canon _) (TProof.len _) (TProof.pure _), a1 _ (rowsOf_sl _ _ _ _), hst, bin_add, wrap_succ (show j < 9223372036854775807 by unfold lim at z2; omega)]
    · exact ⟨⟨_, rfl, rfl⟩, .nils, rfl, by simpa using Acc.nil _ _ _⟩
termination_by i => i
end Go.Proofs.YtkpbfldnickghaaDoor
set_option linter.unusedVariables false
set_option linter.unusedSimpArgs false
namespace Go.Proofs.YtkpbfldnickghaaDoor
open Go Go.PE
def sizeK (ns : List Nat) (ks : List Int) : Nat := ks.foldl (fun a k => min (a + ns.getD k.toNat 0) 2001) 1
def levK (ls : List Nat) (ks : List Int) : Nat := ks.foldl (fun a k => max a (ls.getD k.toNat 0 + 1)) 1
def sizes (l : List TStep) : List Nat × List Nat := l.foldl (fun r s => (r.1 ++ [sizeK r.1 s.kids], r.2 ++ [levK r.2 s.kids])) ([], [])
theorem sizes_snoc (l : List TStep) (s : TStep) : sizes (l ++ [s]) = ((sizes l).1 ++ [sizeK (sizes l).1 s.kids], (sizes l).2 ++ [levK (sizes l).2 s.kids]) := by
  unfold sizes
  rw [List.foldl_append]
  rfl
theorem sizes_take {l : List TStep} {i : Nat} (h : i < l.length) : sizes (l.take (i + 1)) = ((sizes (l.take i)).1 ++ [sizeK (sizes (l.take i)).1 l[i].kids], (sizes (l.take i)).2 ++ [levK (sizes (l.take i)).2 l[i].kids]) := by
  rw [List.take_succ_eq_append_getElem h, sizes_snoc]
theorem sizes_len : ∀ (l : List TStep), (sizes l).1.length = l.length ∧ (sizes l).2.length = l.length := by
  intro l
  have : ∀ n, n ≤ l.length → (sizes (l.take n)).1.length = n ∧ (sizes (l.take n)).2.length = n := by
    intro n
    induction n with
    | zero => intro _; simp [sizes]
    | succ n ih =>
      intro h
      obtain ⟨h1, h2⟩ := ih (by omega)
      rw [sizes_take (by omega)]
      simp [h1, h2]
  have := this l.length (Nat.le_refl _)
  rwa [List.take_length] at this
theorem sizeK_take {ns : List Nat} {ks : List Int} {j : Nat} (h : j < ks.length) : sizeK ns (ks.take (j + 1)) = min (sizeK ns (ks.take j) + ns.getD ks[j].toNat 0) 2001 := by
  unfold sizeK
  rw [List.take_succ_eq_append_getElem h, List.foldl_append]
  rfl
theorem levK_take {ls : List Nat} {ks : List Int} {j : Nat} (h : j < ks.length) : levK ls (ks.take (j + 1)) = max (levK ls (ks.take j)) (ls.getD ks[j].toNat 0 + 1) := by
  unfold levK
  rw [List.take_succ_eq_append_getElem h, List.foldl_append]
  rfl
theorem sizeK_le (ns : List Nat) (ks : List Int) : sizeK ns ks ≤ 2001 := by
  have : ∀ n, n ≤ ks.length → sizeK ns (ks.take n) ≤ 2001 := by
    intro n
    induction n with
    | zero => intro _; simp [sizeK]
    | succ n ih => intro h; rw [sizeK_take (by omega)]; omega
  have := this ks.length (Nat.le_refl _)
  rwa [List.take_length] at this
theorem getD_le {ls : List Nat} {m : Nat} (h : ∀ x ∈ ls, x ≤ m) (k : Nat) : ls.getD k 0 ≤ m := by
  rw [List.getD_eq_getElem?_getD]
  cases hk : ls[k]? with
  | none => simp
  | some x => simpa using h x (List.mem_of_getElem? hk)
theorem levK_le {ls : List Nat} {m : Nat} (h : ∀ x ∈ ls, x ≤ m) (ks : List Int) : levK ls ks ≤ m + 1 := by
  have : ∀ n, n ≤ ks.length → levK ls (ks.take n) ≤ m + 1 := by
    intro n
    induction n with
    | zero => intro _; simp [levK]
    | succ n ih => intro hn; rw [levK_take (by omega)]; have := getD_le h ks[n].toNat; have := ih (by omega); omega
  have := this ks.length (Nat.le_refl _)
  rwa [List.take_length] at this
theorem levK_pos (ls : List Nat) (ks : List Int) : 1 ≤ levK ls ks := by
  have : ∀ n, n ≤ ks.length → 1 ≤ levK ls (ks.take n) := by
    intro n
    induction n with
    | zero => intro _; simp [levK]
    | succ n ih => intro hn; rw [levK_take (by omega)]; have := ih (by omega); omega
  have := this ks.length (Nat.le_refl _)
  rwa [List.take_length] at this
theorem sizes_bound (l : List TStep) : ∀ n, n ≤ l.length → (∀ x ∈ (sizes (l.take n)).1, x ≤ 2001) ∧ ∀ x ∈ (sizes (l.take n)).2, x ≤ n := by
  intro n
  induction n with
  | zero => intro _; simp [sizes]
  | succ n ih =>
    intro h
    obtain ⟨h1, h2⟩ := ih (by omega)
    rw [sizes_take (by omega)]
    refine ⟨fun x hx => ?_, fun x hx => ?_⟩
    · simp only [List.mem_append, List.mem_singleton] at hx
      rcases hx with hx | rfl
      · exact h1 x hx
      · exact sizeK_le _ _
    · simp only [List.mem_append, List.mem_singleton] at hx
      rcases hx with hx | rfl
      · have := h2 x hx; omega
      · exact levK_le h2 _
/-- Is the tree of the last step too large? -/
def Big (l : List TStep) : Prop := 2000 < (sizes l).1.getD (l.length - 1) 0 ∨ 60 < (sizes l).2.getD (l.length - 1) 0
open Classical in
noncomputable def buildOf (l : List TStep) : TProof × Int := if formOf l ≠ 0 then (emptyP, formOf l) else if Big l then (emptyP, 2) else (treeAt l (l.length - 1), 0)
theorem form_zero {l : List TStep} (h : formOf l = 0) : l.length ≤ 2000 ∧ 0 < l.length ∧ WF l := by
  unfold formOf at h
  split at h
  · cases h
  · split at h
    · cases h
    · split at h
      · refine ⟨by omega, by omega, by assumption⟩
      · cases h
/-! ### Boxes of numbers -/
def cellsN (ns : List Nat) (n : Nat) : List PV := (ns.map fun x : Nat => PV.int .i64 (x : Int)) ++ List.replicate (n - ns.length) (.int .i64 0)
theorem cellsN_len {ns : List Nat} {n : Nat} (h : ns.length ≤ n) : (cellsN ns n).length = n := by simp [cellsN]; omega
theorem cellsN_get {ns : List Nat} {n i : Nat} (h : i < ns.length) : (cellsN ns n)[i]? = some (.int .i64 (ns.getD i 0 : Nat)) := by
  unfold cellsN
  rw [List.getElem?_append_left (by simpa using h), List.getElem?_map, List.getElem?_eq_getElem h]
  simp [List.getD_eq_getElem?_getD, h]
theorem cellsN_new {ns : List Nat} {n : Nat} (h : ns.length < n) (a : Nat) : (cellsN ns n).set ns.length (.int .i64 (a : Nat)) = cellsN (ns ++ [a]) n := by
  unfold cellsN
  rw [List.set_append_right _ _ (by simp)]
  obtain ⟨m, hm⟩ : ∃ m, n - ns.length = m + 1 := ⟨n - ns.length - 1, by omega⟩
  have : n - (ns ++ [a]).length = m := by simp; omega
  rw [hm, this, List.replicate_succ]
  simp
theorem cellsN_upd {ns : List Nat} {n : Nat} (b a : Nat) : (cellsN (ns ++ [b]) n).set ns.length (.int .i64 (a : Nat)) = cellsN (ns ++ [a]) n := by
  unfold cellsN
  rw [List.map_append, List.append_assoc, List.set_append_right _ _ (by simp)]
  simp
theorem iaddr_box {σ : Heap} {id n i : Nat} {cells : List PV} (h : σ[id]? = some (.box cells)) (hl : cells.length = n) (hi : i < n) : iaddrV σ 1 (.own id 1 n) (.int .i64 (i : Nat)) = some (.ptr id i) := by
  simp only [iaddrV, evPrim, Opd.ev, h]
  rw [if_pos ⟨trivial, by omega, by omega, by omega⟩]
  simp
theorem mk_box (σ : Heap) (n : Nat) (h : n ≤ 2000) : evPrim [] σ (.mkslice 3 1 8 [(.int .i64 0)] (.cst (.int .i64 (n : Nat))) (.cst (.int .i64 (n : Nat)))) = some (.own σ.length 1 n, σ ++ [.box (cellsN [] n)]) := by
  have e : (List.replicate n [PV.int .i64 0]).flatten = cellsN [] n := by
    simp only [cellsN, List.map_nil, List.nil_append, List.length_nil, Nat.sub_zero]
    clear h
    induction n with
    | zero => rfl
    | succ n ih => simp [List.replicate_succ, ih]
  simp only [evPrim, Opd.ev]
  rw [if_pos ⟨by omega, trivial, by omega⟩, Int.toNat_natCast, e]
theorem mx_nat (σ : Heap) (a b : Nat) : evPrim [] σ (.mx [(.cst (.int .i64 (a : Nat))), (.cst (.int .i64 (b : Nat)))]) = some (.int .i64 ((max a b : Nat) : Int), σ) := by
  rw [mx_two]
  simp only [maxL]
  congr 3
  split <;> omega
theorem mn_nat (σ : Heap) (a b : Nat) : evPrim [] σ (.mn [(.cst (.int .i64 (a : Nat))), (.cst (.int .i64 (b : Nat)))]) = some (.int .i64 ((min a b : Nat) : Int), σ) := by
  rw [mn_two]
  simp only [minL]
  congr 3
  split <;> omega
theorem add_nat (t : TyK) (a b : Nat) (h : a + b < 9223372036854775807) : evBin .add t (.int .i64 (a : Nat)) (.int .i64 (b : Nat)) = some (.int .i64 ((a + b : Nat) : Int)) := by
  rw [bin_add, ← Int.natCast_add, wrap_nat (by omega)]
theorem sub_one (t : TyK) (a : Nat) (h : a < 9223372036854775807) (h0 : 0 < a) : evBin .sub t (.int .i64 (a : Nat)) (.int .i64 1) = some (.int .i64 ((a - 1 : Nat) : Int)) := by
  rw [bin_sub, show ((a : Int) - 1) = ((a - 1 : Nat) : Int) by omega, wrap_nat (by omega)]
theorem lss_nat (t : TyK) (a b : Nat) : evBin .lss t (.int .i64 (a : Nat)) (.int .i64 (b : Nat)) = some (.bool (decide (a < b))) := by
  rw [bin_lss]
  congr 2
  by_cases h : a < b
  · rw [decide_eq_true h, decide_eq_true (by omega)]
  · rw [decide_eq_false h, decide_eq_false (by omega)]
theorem empty_c : emptyP.c = [.str [], .str [], .sl 6 false [], .sl 13 false [], .sl 1 false [], .sl 1 false [], .int .i64 0, .sl 3 false [], .sl 2 false [], .sl 5 false [], .sl 5 false [], .sl 12 false []] := by
  unfold emptyP
  rw [TProof.c_eq, TCert.c_eq]
  rfl
theorem fin_empty (n : Int) (σ : Heap) : finVs p12.keepr [.agg [(.str []), (.str []), .nils, .nils, .nils, .nils, (.int .i64 0), .nils, .nils, .nils, .nils, .nils], .int .i64 n] σ = some [.agg emptyP.c, .int .i64 n] := by
  rw [empty_c]
  rfl
theorem fin_tree (p : TProof) (n : Int) (σ : Heap) : finVs p12.keepr [.agg p.c, .int .i64 n] σ = some [.agg p.c, .int .i64 n] := by
  rw [finVs_pure (by simp only [pureL, PV.pure, TProof.pure, Bool.and_self])]
  simp only [p12, canonA, canonV, TProof.canon]
  rfl
theorem two_false {a b : Prop} [Decidable a] [Decidable b] (ha : ¬ a) (hb : ¬ b) : ¬ (a ∨ b) := fun h => h.elim ha hb
theorem build12_end (X : Ext) {l : List TStep} (hl : Steps l) (h0 : formOf l = 0) {τ : Heap} {cs : List PV} (t0 : τ[0]? = some (.box [encL 13 TStep.c l])) (t1 : τ[1]? = some (.box cs)) (hcs : cs.length = 12) (t2 : τ[2]? = some (.box (cellsN (sizes l).1 l.length))) (t3 : τ[3]? = some (.box (cellsN (sizes l).2 l.length))) :
    J12_3 X (.ptr 0 0) (.ptr 1 0) (.own 2 1 l.length) (.own 3 1 l.length) τ = some [.agg (buildOf l).1.c, .int .i64 (buildOf l).2] := by
  obtain ⟨f1, f2, f3⟩ := form_zero h0
  obtain ⟨s1, s2⟩ := sizes_len l
  have n1 : l.length - 1 < l.length := by omega
  rw [J12_3_eq]
  have a2 := iaddr_box t2 (cellsN_len (Nat.le_of_eq s1)) n1
  have a3 := iaddr_box t3 (cellsN_len (Nat.le_of_eq s2)) n1
  have b2 := load_box t2 (cellsN_get (n := l.length) (show l.length - 1 < (sizes l).1.length by omega))
  have b3 := load_box t3 (cellsN_get (n := l.length) (show l.length - 1 < (sizes l).2.length by omega))
  simp only [load_box t0 (show ([encL 13 TStep.c l] : List PV)[0]? = some _ from rfl), Option.bind_some, len_enc, sub_one _ _ (show l.length < 9223372036854775807 by omega) f2, a2, a3, b2, b3, show (2000 : Int) = ((2000 : Nat) : Int) from rfl, show (60 : Int) = ((60 : Nat) : Int) from rfl, gtr_nat]
  unfold buildOf
  rw [if_neg (fun h => h h0)]
  have bad : ∀ ρ : Heap, ρ[1]? = some (.box cs) → ((evPrim [] ρ (.build [(.str []), (.str []), .nils, .nils, .nils, .nils, (.int .i64 0), .nils, .nils, .nils, .nils, .nils] [])).bind fun q12 =>
      (storeV q12.2 12 (.ptr 1 0) q12.1).bind fun s13 =>
      (loadV s13 true 12 (.ptr 1 0)).bind fun x14 => finVs p12.keepr [x14, (.int .i64 2)] s13) = some [.agg emptyP.c, .int .i64 2] := fun ρ h => by
    have e : evPrim [] ρ (.build [(.str []), (.str []), .nils, .nils, .nils, .nils, (.int .i64 0), .nils, .nils, .nils, .nils, .nils] []) = some (.agg [(.str []), (.str []), .nils, .nils, .nils, .nils, (.int .i64 0), .nils, .nils, .nils, .nils, .nils], ρ) := rfl
    simp only [e, Option.bind_some, storeV_all h (show ([(.str []), (.str []), .nils, .nils, .nils, .nils, (.int .i64 0), .nils, .nils, .nils, .nils, .nils] : List PV).length = 12 from rfl) hcs rfl, load_all (sz := 12) (get_set h _) (show ([(.str []), (.str []), .nils, .nils, .nils, .nils, (.int .i64 0), .nils, .nils, .nils, .nils, .nils] : List PV).length = 12 from rfl), fin_empty]
  by_cases c1 : 2000 < (sizes l).1.getD (l.length - 1) 0
  · rw [if_pos (show Big l from Or.inl c1)]
    simp only [decide_eq_true c1, guardR_tf, pickV_true, Option.bind_some, condK_true]
    exact bad τ t1
  · by_cases c2 : 60 < (sizes l).2.getD (l.length - 1) 0
    · rw [if_pos (show Big l from Or.inr c2)]
      simp only [decide_eq_false c1, guardR_yes, decide_eq_true c2, nthV_zero, nthV_succ, pickV_false, Option.bind_some, condK_true]
      exact bad τ t1
    · rw [if_neg (show ¬ Big l from fun h => h.elim c1 c2)]
      simp only [decide_eq_false c1, guardR_yes, decide_eq_false c2, nthV_zero, nthV_succ, pickV_false, Option.bind_some, condK_false]
      have e1 : storeV (τ ++ [PE.Obj.box [.nilf]]) 1 (.ptr τ.length 0) (.fn 32 [.ptr 0 0, .ptr τ.length 0]) = some (τ ++ [PE.Obj.box [.fn 32 [.ptr 0 0, .ptr τ.length 0]]]) := by
        have := storeV_one (σ := τ ++ [PE.Obj.box [.nilf]]) (id := τ.length) (off := 0) (y := .fn 32 [.ptr 0 0, .ptr τ.length 0]) (get_last _ _) (by decide) rfl
        rw [this]
        simp
      have g1 : (τ ++ [PE.Obj.box [.fn 32 [.ptr 0 0, .ptr τ.length 0]]])[τ.length]? = some (.box [.fn 32 [.ptr 0 0, .ptr τ.length 0]]) := get_last _ _
      obtain ⟨τ', w1, w2⟩ := build32_ok X hl (l.length - 1) n1 _ (get_prev t0 _) g1
      have hcall := fun (K : PV → Heap → Option (List PV)) => build_call w1 K
      have g2 : τ'[1]? = some (.box cs) := w2.get (get_prev t1 _) (fun h => h)
      simp only [e1, Option.bind_some, load_box g1 (show ([.fn 32 [.ptr 0 0, .ptr τ.length 0]] : List PV)[0]? = some _ from rfl), hcall, packP, storeV_all g2 (TProof.len _) hcs (TProof.scal _), load_all (sz := 12) (get_set g2 _) (TProof.len _), fin_tree]
theorem take_len_le {α : Type} (l : List α) (i : Nat) (h : i ≤ l.length) : (l.take i).length = i := by simp; omega
theorem build12_ok (X : Ext) {l : List TStep} (hl : ∀ s ∈ l, s.what.sz < lim ∧ s.kids.length < lim) : (Hw C X).pure 12 [encL 13 TStep.c l] = some [.agg (buildOf l).1.c, .int .i64 (buildOf l).2] := by
  have hsm : ∀ s ∈ l, Sm s.kids := fun s hs => by have := (hl s hs).2; unfold lim at this; unfold Sm; omega
  have g0 : ([PE.Obj.box [encL 13 TStep.c l], .box [(.str []), (.str []), .nils, .nils, .nils, .nils, (.int .i64 0), .nils, .nils, .nils, .nils, .nils]] : Heap)[0]? = some (.box [encL 13 TStep.c l]) := rfl
  have g1 : ([PE.Obj.box [encL 13 TStep.c l], .box [(.str []), (.str []), .nils, .nils, .nils, .nils, (.int .i64 0), .nils, .nils, .nils, .nils, .nils]] : Heap)[1]? = some (.box [(.str []), (.str []), .nils, .nils, .nils, .nils, (.int .i64 0), .nils, .nils, .nils, .nils, .nils]) := rfl
  rw [F12]
  have hb : boxV (encL 13 TStep.c l) [] = some [.box [encL 13 TStep.c l]] := rfl
  simp only [hb, Option.bind_some, List.length_nil, List.singleton_append, List.length_singleton, load_box g0 (show ([encL 13 TStep.c l] : List PV)[0]? = some _ from rfl), call31 X l hsm, bin_neq]
  by_cases h0 : formOf l = 0
  · obtain ⟨f1, f2, f3⟩ := form_zero h0
    have hS : Steps l := ⟨f3, hl⟩
    simp only [h0, decide_true, Bool.not_true, condK_false, len_enc, Option.bind_some, mk_box _ _ f1, load_box (get_prev g0 [.box (cellsN [] l.length)]) (show ([encL 13 TStep.c l] : List PV)[0]? = some _ from rfl), load_box (get_prev (get_prev g0 [.box (cellsN [] l.length)]) [.box (cellsN [] l.length)]) (show ([encL 13 TStep.c l] : List PV)[0]? = some _ from rfl)]
    refine inv_loop (n := l.length) (Q := fun r => r = some [.agg (buildOf l).1.c, .int .i64 (buildOf l).2])
      (L := fun i τ => L12_1 X (.ptr 0 0) (.ptr 1 0) (.own 2 1 l.length) (.own 3 1 l.length) (encL 13 TStep.c l) (.int .i64 (l.length : Nat)) (.int .i64 (i : Nat)) τ)
      (I := fun i τ => τ[0]? = some (.box [encL 13 TStep.c l]) ∧ τ[1]? = some (.box [(.str []), (.str []), .nils, .nils, .nils, .nils, (.int .i64 0), .nils, .nils, .nils, .nils, .nils]) ∧ τ[2]? = some (.box (cellsN (sizes (l.take i)).1 l.length)) ∧ τ[3]? = some (.box (cellsN (sizes (l.take i)).2 l.length))) ?_ ?_ ?_
    · rintro τ ⟨k0, k1, k2, k3⟩
      rw [List.take_length] at k2 k3
      try simp only
      rw [L12_1_eq]
      simp only [bin_lss, Option.bind_some, Int.lt_irrefl, decide_false, condK_false]
      exact build12_end X hS h0 k0 k1 rfl k2 k3
    · rintro i hi τ ⟨k0, k1, k2, k3⟩
      obtain ⟨s1, s2⟩ := sizes_len (l.take i)
      rw [take_len_le l i (by omega)] at s1 s2
      have hw := f3 i hi
      have hkl := (hl _ (List.getElem_mem hi)).2
      have bnd := sizes_bound l i (by omega)
      -- the inner loop
      have inner : ∀ ρ : Heap, ρ[0]? = some (.box [encL 13 TStep.c l]) → ρ[1]? = some (.box [(.str []), (.str []), .nils, .nils, .nils, .nils, (.int .i64 0), .nils, .nils, .nils, .nils, .nils]) → ρ[2]? = some (.box (cellsN ((sizes (l.take i)).1 ++ [1]) l.length)) → ρ[3]? = some (.box (cellsN ((sizes (l.take i)).2 ++ [1]) l.length)) →
          ∃ τ' : Heap, (τ'[0]? = some (.box [encL 13 TStep.c l]) ∧ τ'[1]? = some (.box [(.str []), (.str []), .nils, .nils, .nils, .nils, (.int .i64 0), .nils, .nils, .nils, .nils, .nils]) ∧ τ'[2]? = some (.box (cellsN (sizes (l.take (i + 1))).1 l.length)) ∧ τ'[3]? = some (.box (cellsN (sizes (l.take (i + 1))).2 l.length))) ∧
            L12_2 X (.ptr 0 0) (.ptr 1 0) (.own 2 1 l.length) (.own 3 1 l.length) (.int .i64 (i : Nat)) (encL 13 TStep.c l) (.int .i64 (l.length : Nat)) (.int .i64 (i : Nat)) (encL 1 cInt l[i].kids) (.int .i64 (l[i].kids.length : Nat)) (.int .i64 (0 : Nat)) ρ = L12_1 X (.ptr 0 0) (.ptr 1 0) (.own 2 1 l.length) (.own 3 1 l.length) (encL 13 TStep.c l) (.int .i64 (l.length : Nat)) (.int .i64 ((i + 1 : Nat) : Int)) τ' := by
        intro ρ r0 r1 r2 r3
        refine inv_loop (n := l[i].kids.length) (Q := fun r => ∃ τ' : Heap, (τ'[0]? = some (.box [encL 13 TStep.c l]) ∧ τ'[1]? = some (.box [(.str []), (.str []), .nils, .nils, .nils, .nils, (.int .i64 0), .nils, .nils, .nils, .nils, .nils]) ∧ τ'[2]? = some (.box (cellsN (sizes (l.take (i + 1))).1 l.length)) ∧ τ'[3]? = some (.box (cellsN (sizes (l.take (i + 1))).2 l.length))) ∧ r = L12_1 X (.ptr 0 0) (.ptr 1 0) (.own 2 1 l.length) (.own 3 1 l.length) (encL 13 TStep.c l) (.int .i64 (l.length : Nat)) (.int .i64 ((i + 1 : Nat) : Int)) τ')
          (L := fun j τ => L12_2 X (.ptr 0 0) (.ptr 1 0) (.own 2 1 l.length) (.own 3 1 l.length) (.int .i64 (i : Nat)) (encL 13 TStep.c l) (.int .i64 (l.length : Nat)) (.int .i64 (i : Nat)) (encL 1 cInt l[i].kids) (.int .i64 (l[i].kids.length : Nat)) (.int .i64 (j : Nat)) τ)
          (I := fun j τ => τ[0]? = some (.box [encL 13 TStep.c l]) ∧ τ[1]? = some (.box [(.str []), (.str []), .nils, .nils, .nils, .nils, (.int .i64 0), .nils, .nils, .nils, .nils, .nils]) ∧ τ[2]? = some (.box (cellsN ((sizes (l.take i)).1 ++ [sizeK (sizes (l.take i)).1 (l[i].kids.take j)]) l.length)) ∧ τ[3]? = some (.box (cellsN ((sizes (l.take i)).2 ++ [levK (sizes (l.take i)).2 (l[i].kids.take j)]) l.length))) ?_ ?_ ⟨r0, r1, r2, r3⟩
        · rintro ρ ⟨q0, q1, q2, q3⟩
          rw [List.take_length] at q2 q3
          refine ⟨ρ, ⟨q0, q1, by rw [sizes_take hi]; exact q2, by rw [sizes_take hi]; exact q3⟩, ?_⟩
          try simp only
          rw [L12_2_eq]
          simp only [bin_lss, Option.bind_some, Int.lt_irrefl, decide_false, condK_false, bin_add, wrap_succ (show i < 9223372036854775807 by omega)]
        · rintro j hj ρ ⟨q0, q1, q2, q3⟩
          obtain ⟨w1, w2⟩ := hw.2 _ (List.getElem_mem hj)
          obtain ⟨k, hk⟩ : ∃ k : Nat, l[i].kids[j] = (k : Int) := ⟨l[i].kids[j].toNat, by omega⟩
          have hki : k < i := by omega
          have hkt : l[i].kids[j].toNat = k := by omega
          have len1 : ((sizes (l.take i)).1 ++ [sizeK (sizes (l.take i)).1 (l[i].kids.take j)]).length = i + 1 := by simp [s1]
          have len2 : ((sizes (l.take i)).2 ++ [levK (sizes (l.take i)).2 (l[i].kids.take j)]).length = i + 1 := by simp [s2]
          have A := sizeK_le (sizes (l.take i)).1 (l[i].kids.take j)
          have B := levK_le bnd.2 (l[i].kids.take j)
          have A' := getD_le bnd.1 k
          have B' := getD_le bnd.2 k
          have gi : ∀ (ns : List Nat) (x : Nat), ns.length = i → (ns ++ [x]).getD i 0 = x := fun ns x h => by
            rw [List.getD_eq_getElem?_getD, List.getElem?_append_right (by omega), h]; simp
          have gk : ∀ (ns : List Nat) (x : Nat), ns.length = i → (ns ++ [x]).getD k 0 = ns.getD k 0 := fun ns x h => by
            rw [List.getD_eq_getElem?_getD, List.getElem?_append_left (by omega), List.getD_eq_getElem?_getD]
          have i1 := iaddr_box q2 (cellsN_len (by omega)) hi
          have i2 := iaddr_box q2 (cellsN_len (by omega)) (show k < l.length by omega)
          have v1 := load_box q2 (cellsN_get (n := l.length) (show i < ((sizes (l.take i)).1 ++ [sizeK (sizes (l.take i)).1 (l[i].kids.take j)]).length by omega))
          have v2 := load_box q2 (cellsN_get (n := l.length) (show k < ((sizes (l.take i)).1 ++ [sizeK (sizes (l.take i)).1 (l[i].kids.take j)]).length by omega))
          rw [gi _ _ s1] at v1
          rw [gk _ _ s1] at v2
          have st1 := storeV_one (off := i) (y := .int .i64 ((min (sizeK (sizes (l.take i)).1 (l[i].kids.take j) + (sizes (l.take i)).1.getD k 0) 2001 : Nat) : Int)) q2 (by rw [cellsN_len (by omega)]; exact hi) rfl
          have u1 := cellsN_upd (ns := (sizes (l.take i)).1) (n := l.length) (sizeK (sizes (l.take i)).1 (l[i].kids.take j)) (min (sizeK (sizes (l.take i)).1 (l[i].kids.take j) + (sizes (l.take i)).1.getD k 0) 2001)
          rw [s1] at u1
          rw [u1] at st1
          have q3' : (ρ.set 2 (.box (cellsN ((sizes (l.take i)).1 ++ [min (sizeK (sizes (l.take i)).1 (l[i].kids.take j) + (sizes (l.take i)).1.getD k 0) 2001]) l.length)))[3]? = _ := get_other q3 (by decide) _
          have i3 := iaddr_box q3' (cellsN_len (by omega)) hi
          have i4 := iaddr_box q3' (cellsN_len (by omega)) (show k < l.length by omega)
          have v3 := load_box q3' (cellsN_get (n := l.length) (show i < ((sizes (l.take i)).2 ++ [levK (sizes (l.take i)).2 (l[i].kids.take j)]).length by omega))
          have v4 := load_box q3' (cellsN_get (n := l.length) (show k < ((sizes (l.take i)).2 ++ [levK (sizes (l.take i)).2 (l[i].kids.take j)]).length by omega))
          rw [gi _ _ s2] at v3
          rw [gk _ _ s2] at v4
          have st2 := storeV_one (off := i) (y := .int .i64 ((max (levK (sizes (l.take i)).2 (l[i].kids.take j)) ((sizes (l.take i)).2.getD k 0 + 1) : Nat) : Int)) q3' (by rw [cellsN_len (by omega)]; exact hi) rfl
          have u2 := cellsN_upd (ns := (sizes (l.take i)).2) (n := l.length) (levK (sizes (l.take i)).2 (l[i].kids.take j)) (max (levK (sizes (l.take i)).2 (l[i].kids.take j)) ((sizes (l.take i)).2.getD k 0 + 1))
          rw [s2] at u2
          rw [u2] at st2
          have i1' := iaddr_box (get_set q2 (.box (cellsN ((sizes (l.take i)).1 ++ [min (sizeK (sizes (l.take i)).1 (l[i].kids.take j) + (sizes (l.take i)).1.getD k 0) 2001]) l.length))) (cellsN_len (by simp [s1]; omega)) hi
          refine ⟨(ρ.set 2 (.box (cellsN ((sizes (l.take i)).1 ++ [min (sizeK (sizes (l.take i)).1 (l[i].kids.take j) + (sizes (l.take i)).1.getD k 0) 2001]) l.length))).set 3 (.box (cellsN ((sizes (l.take i)).2 ++ [max (levK (sizes (l.take i)).2 (l[i].kids.take j)) ((sizes (l.take i)).2.getD k 0 + 1)]) l.length)), ⟨get_other (get_other q0 (by decide) _) (by decide) _, get_other (get_other q1 (by decide) _) (by decide) _, ?_, ?_⟩, ?_⟩
          · rw [sizeK_take hj, hkt]
            exact get_other (get_set q2 _) (by decide) _
          · rw [levK_take hj, hkt]
            exact get_set q3' _
          · try simp only
            rw [L12_2_eq]
            have hj0 : decide ((j : Int) < (l[i].kids.length : Int)) = true := decide_eq_true (by omega)
            have ad1 := add_nat .int (sizeK (sizes (l.take i)).1 (l[i].kids.take j)) ((sizes (l.take i)).1.getD k 0) (by omega)
            have ad2 : evBin .add .int (.int .i64 ((sizes (l.take i)).2.getD k 0 : Nat)) (.int .i64 1) = _ := add_nat .int ((sizes (l.take i)).2.getD k 0) 1 (by omega)
            have m1 := mn_nat ρ (sizeK (sizes (l.take i)).1 (l[i].kids.take j) + (sizes (l.take i)).1.getD k 0) 2001
            have hj1 : evBin .add .int (.int .i64 (j : Nat)) (.int .i64 1) = _ := add_nat .int j 1 (by unfold lim at hkl; omega)
            simp only [bin_lss, Option.bind_some, hj0, condK_true, iaddr_enc _ _ hj, loadV_cref, cInt, loadP_one, hk, i1, i2, v1, v2, ad1, m1, i1', st1, i3, i4, v3, v4, ad2, mx_nat, st2, hj1]
            rw [show ((2001 : Int)) = ((2001 : Nat) : Int) from rfl, m1]
            simp only [Option.bind_some, i1, st1, i3, i4, v3, v4, ad2, mx_nat, st2, hj1]
      have g4 : (τ ++ [PE.Obj.box l[i].c])[2]? = _ := get_prev k2 _
      have g5 : (τ ++ [PE.Obj.box l[i].c])[3]? = _ := get_prev k3 _
      have j1 := iaddr_box g4 (cellsN_len (by omega)) hi
      have st1 := storeV_one (off := i) (y := .int .i64 ((1 : Nat) : Int)) g4 (by rw [cellsN_len (by omega)]; exact hi) rfl
      have u1 := cellsN_new (ns := (sizes (l.take i)).1) (n := l.length) (by omega) 1
      rw [s1] at u1
      rw [u1] at st1
      have g5' : ((τ ++ [PE.Obj.box l[i].c]).set 2 (.box (cellsN ((sizes (l.take i)).1 ++ [1]) l.length)))[3]? = _ := get_other g5 (by decide) _
      have j2 := iaddr_box g5' (cellsN_len (by omega)) hi
      have st2 := storeV_one (off := i) (y := .int .i64 ((1 : Nat) : Int)) g5' (by rw [cellsN_len (by omega)]; exact hi) rfl
      have u2 := cellsN_new (ns := (sizes (l.take i)).2) (n := l.length) (by omega) 1
      rw [s2] at u2
      rw [u2] at st2
      have lt3 := id_lt k3
      have gl : (((τ ++ [PE.Obj.box l[i].c]).set 2 (.box (cellsN ((sizes (l.take i)).1 ++ [1]) l.length))).set 3 (.box (cellsN ((sizes (l.take i)).2 ++ [1]) l.length)))[τ.length]? = some (.box l[i].c) := get_other (get_other (get_last _ _) (by omega) _) (by omega) _
      obtain ⟨τ', a1, a2⟩ := inner _ (get_other (get_other (get_prev k0 _) (by decide) _) (by decide) _) (get_other (get_other (get_prev k1 _) (by decide) _) (by decide) _) (get_other (get_set g4 _) (by decide) _) (get_set g5' _)
      refine ⟨τ', a1, ?_⟩
      rw [← a2]
      try simp only
      rw [L12_1_eq]
      have hi0 : decide ((i : Int) < (l.length : Int)) = true := decide_eq_true (by omega)
      have st1' : storeV (τ ++ [PE.Obj.box l[i].c]) 1 (.ptr 2 i) (.int .i64 1) = _ := st1
      have st2' : storeV ((τ ++ [PE.Obj.box l[i].c]).set 2 (.box (cellsN ((sizes (l.take i)).1 ++ [1]) l.length))) 1 (.ptr 3 i) (.int .i64 1) = _ := st2
      simp only [bin_lss, Option.bind_some, hi0, condK_true, iaddr_enc _ _ hi, loadV_cref, loadP_all (TStep.len _), storeV_last (sz := 13) (cs := [(.str []), (.str []), .nils, .nils, .nils, .nils, (.int .i64 0), .nils, .nils, .nils, .nils, .nils, .nils]) rfl (TStep.len _) (TStep.scal _), j1, st1', j2, st2', faddrV_ptr, Nat.zero_add, load_box gl (ts12 _), len_enc]
      rfl
    · exact ⟨rfl, rfl, rfl, rfl⟩
  · simp only [decide_eq_false h0, Bool.not_false, condK_true]
    unfold buildOf
    rw [if_pos h0]
    have e : ∀ ρ : Heap, evPrim [] ρ (.build [(.str []), (.str []), .nils, .nils, .nils, .nils, (.int .i64 0), .nils, .nils, .nils, .nils, .nils] []) = some (.agg [(.str []), (.str []), .nils, .nils, .nils, .nils, (.int .i64 0), .nils, .nils, .nils, .nils, .nils], ρ) := fun _ => rfl
    simp only [e, Option.bind_some, storeV_all g1 (show ([(.str []), (.str []), .nils, .nils, .nils, .nils, (.int .i64 0), .nils, .nils, .nils, .nils, .nils] : List PV).length = 12 from rfl) rfl rfl, load_all (sz := 12) (get_set g1 _) (show ([(.str []), (.str []), .nils, .nils, .nils, .nils, (.int .i64 0), .nils, .nils, .nils, .nils, .nils] : List PV).length = 12 from rfl), fin_empty]
end Go.Proofs.YtkpbfldnickghaaDoor
set_option linter.unusedVariables false
set_option linter.unusedSimpArgs false
namespace Go.Proofs.YtkpbfldnickghaaDoor
open Go Go.PE
abbrev z12' : List PV := [(.str []), (.str []), .nils, .nils, .nils, .nils, (.int .i64 0), .nils, .nils, .nils, .nils, .nils]
theorem ints_get {ns : List Nat} {k : Nat} (h : k < ns.length) : ∀ h', (ns.map fun x : Nat => cInt (x : Int))[k]'h' = cInt (ns.getD k 0 : Nat) := by
  intro h'
  simp [List.getD_eq_getElem?_getD, h]
theorem build13_end (X : Ext) {l : List TStep} (hl : Steps l) (h0 : formOf l = 0) {τ : Heap} {cs : List PV} {v5 v6 : PV} (t1 : τ[0]? = some (.box cs)) (hcs : cs.length = 12) (t2 : Acc τ v5 3 1 ((sizes l).1.map fun x : Nat => cInt (x : Int))) (t3 : Acc τ v6 3 1 ((sizes l).2.map fun x : Nat => cInt (x : Int))) :
    J13_4 X (encL 13 TStep.c l) (.ptr 0 0) v5 v6 τ = some [.agg (buildOf l).1.c, .int .i64 (buildOf l).2] := by
  obtain ⟨f1, f2, f3⟩ := form_zero h0
  obtain ⟨s1, s2⟩ := sizes_len l
  have n1 : l.length - 1 < l.length := by omega
  rw [J13_4_eq]
  have a2 := t2.iaddr .i64 (show l.length - 1 < _ by rw [List.length_map]; omega)
  have a3 := t3.iaddr .i64 (show l.length - 1 < _ by rw [List.length_map]; omega)
  rw [ints_get (by omega)] at a2 a3
  simp only [len_enc, Option.bind_some, sub_one _ _ (show l.length < 9223372036854775807 by omega) f2, a2, a3, loadV_cref, cInt, loadP_one, show (2000 : Int) = ((2000 : Nat) : Int) from rfl, show (60 : Int) = ((60 : Nat) : Int) from rfl, gtr_nat]
  unfold buildOf
  rw [if_neg (fun h => h h0)]
  have bad : ((evPrim [] τ (.build [(.str []), (.str []), .nils, .nils, .nils, .nils, (.int .i64 0), .nils, .nils, .nils, .nils, .nils] [])).bind fun q12 =>
      (storeV q12.2 12 (.ptr 0 0) q12.1).bind fun s13 =>
      (loadV s13 true 12 (.ptr 0 0)).bind fun x14 => finVs p13.keepr [x14, (.int .i64 2)] s13) = some [.agg emptyP.c, .int .i64 2] := by
    have e : evPrim [] τ (.build [(.str []), (.str []), .nils, .nils, .nils, .nils, (.int .i64 0), .nils, .nils, .nils, .nils, .nils] []) = some (.agg [(.str []), (.str []), .nils, .nils, .nils, .nils, (.int .i64 0), .nils, .nils, .nils, .nils, .nils], τ) := rfl
    simp only [e, Option.bind_some, storeV_all t1 (show ([(.str []), (.str []), .nils, .nils, .nils, .nils, (.int .i64 0), .nils, .nils, .nils, .nils, .nils] : List PV).length = 12 from rfl) hcs rfl, load_all (sz := 12) (get_set t1 _) (show ([(.str []), (.str []), .nils, .nils, .nils, .nils, (.int .i64 0), .nils, .nils, .nils, .nils, .nils] : List PV).length = 12 from rfl)]
    exact fin_empty 2 _
  by_cases c1 : 2000 < (sizes l).1.getD (l.length - 1) 0
  · rw [if_pos (show Big l from Or.inl c1)]
    simp only [decide_eq_true c1, guardR_tf, pickV_true, Option.bind_some, condK_true]
    exact bad
  · by_cases c2 : 60 < (sizes l).2.getD (l.length - 1) 0
    · rw [if_pos (show Big l from Or.inr c2)]
      simp only [decide_eq_false c1, guardR_yes, decide_eq_true c2, nthV_zero, nthV_succ, pickV_false, Option.bind_some, condK_true]
      exact bad
    · rw [if_neg (show ¬ Big l from fun h => h.elim c1 c2)]
      have hcall := fun (K : PV → Heap → Option (List PV)) => built_call (built34_ok X hl (l.length - 1) n1) τ false K
      simp only [decide_eq_false c1, guardR_yes, decide_eq_false c2, nthV_zero, nthV_succ, pickV_false, Option.bind_some, condK_false, hcall, storeV_all t1 (TProof.len _) hcs (TProof.scal _), load_all (sz := 12) (get_set t1 _) (TProof.len _)]
      exact fin_tree _ 0 _
theorem build13_ok (X : Ext) {l : List TStep} (hl : ∀ s ∈ l, s.what.sz < lim ∧ s.kids.length < lim) : (Hw C X).pure 13 [encL 13 TStep.c l] = some [.agg (buildOf l).1.c, .int .i64 (buildOf l).2] := by
  have hsm : ∀ s ∈ l, Sm s.kids := fun s hs => by have := (hl s hs).2; unfold lim at this; unfold Sm; omega
  have g1 : ([PE.Obj.box [(.str []), (.str []), .nils, .nils, .nils, .nils, (.int .i64 0), .nils, .nils, .nils, .nils, .nils]] : Heap)[0]? = some (.box [(.str []), (.str []), .nils, .nils, .nils, .nils, (.int .i64 0), .nils, .nils, .nils, .nils, .nils]) := rfl
  rw [F13]
  simp only [call33 X l hsm, List.nil_append, List.length_nil, Option.bind_some, bin_neq]
  by_cases h0 : formOf l = 0
  · obtain ⟨f1, f2, f3⟩ := form_zero h0
    have hS : Steps l := ⟨f3, hl⟩
    simp only [h0, decide_true, Bool.not_true, condK_false]
    refine inv_loopG (S := PV × PV × Heap) (s := (.nils, .nils, [PE.Obj.box [(.str []), (.str []), .nils, .nils, .nils, .nils, (.int .i64 0), .nils, .nils, .nils, .nils, .nils]])) (n := l.length) (Q := fun r => r = some [.agg (buildOf l).1.c, .int .i64 (buildOf l).2])
      (L := fun i s => L13_1 X (encL 13 TStep.c l) (.ptr 0 0) s.1 s.2.1 (.int .i64 (i : Nat)) s.2.2)
      (I := fun i s => s.2.2[0]? = some (.box [(.str []), (.str []), .nils, .nils, .nils, .nils, (.int .i64 0), .nils, .nils, .nils, .nils, .nils]) ∧ Acc s.2.2 s.1 3 1 ((sizes (l.take i)).1.map fun x : Nat => cInt (x : Int)) ∧ Acc s.2.2 s.2.1 3 1 ((sizes (l.take i)).2.map fun x : Nat => cInt (x : Int)) ∧ ∀ L, AccAt s.1 L → ¬ AccAt s.2.1 L) ?_ ?_ ?_
    · rintro ⟨v5, v6, τ⟩ ⟨k1, k2, k3, k4⟩
      rw [List.take_length] at k2 k3
      try simp only
      rw [L13_1_eq]
      simp only [len_enc, bin_lss, Option.bind_some, Int.lt_irrefl, decide_false, condK_false]
      exact build13_end X hS h0 k1 rfl k2 k3
    · rintro i hi ⟨v5, v6, τ⟩ ⟨k1, k2, k3, k4⟩
      simp only at k1 k2 k3 k4
      obtain ⟨s1, s2⟩ := sizes_len (l.take i)
      rw [take_len_le l i (by omega)] at s1 s2
      have hw := f3 i hi
      have hkl := (hl _ (List.getElem_mem hi)).2
      have bnd := sizes_bound l i (by omega)
      have inner : L13_2 X (encL 13 TStep.c l) (.ptr 0 0) v5 v6 (.int .i64 (i : Nat)) (.int .i64 ((1 : Nat) : Int)) (.int .i64 ((0 : Nat) : Int)) (.int .i64 (0 : Nat)) τ = J13_3 X (encL 13 TStep.c l) (.ptr 0 0) v5 v6 (.int .i64 (i : Nat)) (.int .i64 (sizeK (sizes (l.take i)).1 l[i].kids : Nat)) (.int .i64 ((levK (sizes (l.take i)).2 l[i].kids - 1 : Nat) : Int)) τ := by
        refine inv_loopG (S := Nat × Nat) (s := (1, 0)) (n := l[i].kids.length) (Q := fun r => r = J13_3 X (encL 13 TStep.c l) (.ptr 0 0) v5 v6 (.int .i64 (i : Nat)) (.int .i64 (sizeK (sizes (l.take i)).1 l[i].kids : Nat)) (.int .i64 ((levK (sizes (l.take i)).2 l[i].kids - 1 : Nat) : Int)) τ)
          (L := fun j s => L13_2 X (encL 13 TStep.c l) (.ptr 0 0) v5 v6 (.int .i64 (i : Nat)) (.int .i64 (s.1 : Nat)) (.int .i64 (s.2 : Nat)) (.int .i64 (j : Nat)) τ)
          (I := fun j s => s.1 = sizeK (sizes (l.take i)).1 (l[i].kids.take j) ∧ s.2 + 1 = levK (sizes (l.take i)).2 (l[i].kids.take j)) ?_ ?_ ⟨rfl, rfl⟩
        · rintro ⟨a, b⟩ ⟨q1, q2⟩
          rw [List.take_length] at q1 q2
          simp only at q1 q2
          have : b = levK (sizes (l.take i)).2 l[i].kids - 1 := by omega
          rw [q1, this]
          try simp only
          rw [L13_2_eq]
          simp only [iaddr_enc _ _ hi, faddrV_cref, loadV_cref, ts12', len_enc, bin_lss, Option.bind_some, Int.lt_irrefl, decide_false, condK_false]
        · rintro j hj ⟨a, b⟩ ⟨q1, q2⟩
          simp only at q1 q2
          obtain ⟨w1, w2⟩ := hw.2 _ (List.getElem_mem hj)
          obtain ⟨k, hk⟩ : ∃ k : Nat, l[i].kids[j] = (k : Int) := ⟨l[i].kids[j].toNat, by omega⟩
          have hki : k < i := by omega
          have hkt : l[i].kids[j].toNat = k := by omega
          have A := sizeK_le (sizes (l.take i)).1 (l[i].kids.take j)
          have A' := getD_le bnd.1 k
          have a2 := k2.iaddr .i64 (show k < _ by rw [List.length_map]; omega)
          have a3 := k3.iaddr .i64 (show k < _ by rw [List.length_map]; omega)
          rw [ints_get (by omega)] at a2 a3
          refine ⟨(min (a + (sizes (l.take i)).1.getD k 0) 2001, max b ((sizes (l.take i)).2.getD k 0)), ⟨?_, ?_⟩, ?_⟩
          · rw [sizeK_take hj, hkt, q1]
          · rw [levK_take hj, hkt, ← q2]
            simp only
            omega
          · try simp only
            rw [L13_2_eq]
            have hj0 : decide ((j : Int) < (l[i].kids.length : Int)) = true := decide_eq_true (by omega)
            have ad1 := add_nat .int a ((sizes (l.take i)).1.getD k 0) (by omega)
            have m1 : evPrim [] τ (.mn [(.cst (.int .i64 ((a + (sizes (l.take i)).1.getD k 0 : Nat) : Int))), (.cst (.int .i64 2001))]) = _ := mn_nat τ (a + (sizes (l.take i)).1.getD k 0) 2001
            have hj1 : evBin .add .int (.int .i64 (j : Nat)) (.int .i64 1) = _ := add_nat .int j 1 (by unfold lim at hkl; omega)
            simp only [iaddr_enc _ _ hi, faddrV_cref, ts12', len_enc, bin_lss, Option.bind_some, hj0, condK_true, iaddr_enc _ _ hj, loadV_cref, cInt, loadP_one, hk, a2, a3, ad1, m1, mx_nat, hj1]
      obtain ⟨w5, τ1, a1, a2, a3, a4⟩ := k2.append (bytes := 8) (row := cInt ((sizeK (sizes (l.take i)).1 l[i].kids : Nat) : Int)) (cInt_pure _) rfl rfl (by rw [List.length_map]; omega)
      have k3' : Acc τ1 v6 3 1 ((sizes (l.take i)).2.map fun x : Nat => cInt (x : Int)) := k3.keep fun L hL hlt => a3.2 L hlt fun h => k4 L h hL
      obtain ⟨w6, τ2, b1, b2, b3, b4⟩ := k3'.append (bytes := 8) (row := cInt ((levK (sizes (l.take i)).2 l[i].kids : Nat) : Int)) (cInt_pure _) rfl rfl (by rw [List.length_map]; omega)
      have B := levK_le bnd.2 l[i].kids
      have B0 := levK_pos (sizes (l.take i)).2 l[i].kids
      -- the two stay apart
      have d1 : ∀ L, AccAt w5 L → ¬ AccAt v6 L := by
        intro L hL
        rcases a4 with ⟨L1, h1, rfl⟩ | ⟨_, rfl⟩
        · obtain ⟨_, _, hL⟩ := hL
          cases hL
          exact k4 _ h1
        · obtain ⟨_, _, hL⟩ := hL
          cases hL
          intro h
          have := id_lt (k3.lt h)
          omega
      have d2 : ∀ L, AccAt w5 L → ¬ AccAt w6 L := by
        intro L hL
        rcases b4 with ⟨L1, h1, rfl⟩ | ⟨_, rfl⟩
        · rintro ⟨_, _, h⟩
          cases h
          exact d1 _ hL h1
        · rintro ⟨_, _, h⟩
          cases h
          have := id_lt (a2.lt hL)
          omega
      refine ⟨(w5, w6, τ2), ⟨b3.get (a3.get k1 (k2.notBox k1)) (k3'.notBox (a3.get k1 (k2.notBox k1))), ?_, ?_, d2⟩, ?_⟩
      · rw [sizes_take hi]
        simp only [List.map_append]
        exact a2.keep fun L hL hlt => b3.2 L hlt (d1 L hL)
      · rw [sizes_take hi]
        simp only [List.map_append]
        exact b2
      · try simp only
        rw [L13_1_eq]
        have hi0 : decide ((i : Int) < (l.length : Int)) = true := decide_eq_true (by omega)
        have inner' : L13_2 X (encL 13 TStep.c l) (.ptr 0 0) v5 v6 (.int .i64 (i : Nat)) (.int .i64 1) (.int .i64 0) (.int .i64 0) τ = _ := inner
        simp only [len_enc, bin_lss, Option.bind_some, hi0, condK_true, inner']
        rw [J13_3_eq]
        have ad : evBin .add .int (.int .i64 ((levK (sizes (l.take i)).2 l[i].kids - 1 : Nat) : Int)) (.int .i64 1) = some (.int .i64 (levK (sizes (l.take i)).2 l[i].kids : Nat)) := by
          have := add_nat .int (levK (sizes (l.take i)).2 l[i].kids - 1) 1 (by omega)
          rw [show levK (sizes (l.take i)).2 l[i].kids - 1 + 1 = levK (sizes (l.take i)).2 l[i].kids by omega] at this
          exact this
        simp only [bslice_int, Option.bind_some, a1 _ (rowsOf_sl _ _ _ _), ad, b1 _ (rowsOf_sl _ _ _ _), bin_add, wrap_succ (show i < 9223372036854775807 by omega)]
    · exact ⟨rfl, by simpa [sizes] using Acc.nil _ _ _, by simpa [sizes] using Acc.nil _ _ _, fun L ⟨_, _, h⟩ => by cases h⟩
  · simp only [decide_eq_false h0, Bool.not_false, condK_true]
    unfold buildOf
    rw [if_pos h0]
    have e : ∀ ρ : Heap, evPrim [] ρ (.build [(.str []), (.str []), .nils, .nils, .nils, .nils, (.int .i64 0), .nils, .nils, .nils, .nils, .nils] []) = some (.agg [(.str []), (.str []), .nils, .nils, .nils, .nils, (.int .i64 0), .nils, .nils, .nils, .nils, .nils], ρ) := fun _ => rfl
    simp only [e, Option.bind_some, storeV_all g1 (show ([(.str []), (.str []), .nils, .nils, .nils, .nils, (.int .i64 0), .nils, .nils, .nils, .nils, .nils] : List PV).length = 12 from rfl) rfl rfl, load_all (sz := 12) (get_set g1 _) (show ([(.str []), (.str []), .nils, .nils, .nils, .nils, (.int .i64 0), .nils, .nils, .nils, .nils, .nils] : List PV).length = 12 from rfl)]
    exact fin_empty _ _
theorem call12 {R : Type} (X : Ext) {l : List TStep} (hl : ∀ s ∈ l, s.what.sz < lim ∧ s.kids.length < lim) (σ : Heap) (pc : Bool) (k : PV → Heap → Option R) : callK C (Hw C X) σ pc (.fn 12 []) [encL 13 TStep.c l] k = k (.tup [.agg (buildOf l).1.c, .int .i64 (buildOf l).2]) σ :=
  callK_pure C12 rfl (by simp only [pureL, encL_pure (fun x _ => TStep.pure x), Bool.and_self]) (by simp only [p12, canonA, canon_sl]) (build12_ok X hl)
theorem call13 {R : Type} (X : Ext) {l : List TStep} (hl : ∀ s ∈ l, s.what.sz < lim ∧ s.kids.length < lim) (σ : Heap) (pc : Bool) (k : PV → Heap → Option R) : callK C (Hw C X) σ pc (.fn 13 []) [encL 13 TStep.c l] k = k (.tup [.agg (buildOf l).1.c, .int .i64 (buildOf l).2]) σ :=
  callK_pure C13 rfl (by simp only [pureL, encL_pure (fun x _ => TStep.pure x), Bool.and_self]) (by simp only [p13, canonA, canon_sl]) (build13_ok X hl)
end Go.Proofs.YtkpbfldnickghaaDoor
set_option linter.unusedVariables false
set_option linter.unusedSimpArgs false
namespace Go.Proofs.YtkpbfldnickghaaDoor
open Go Go.PE
theorem withKids_self (p : TProof) : withKids (bareOf p) (kidsOf p) = p := by cases p; rfl
theorem kids_withKids (b : Bare) (ks : List TProof) : kidsOf (withKids b ks) = ks := rfl
theorem tree_prefix (l m : List TStep) : ∀ (i : Nat), i < l.length → treeAt (l ++ m) i = treeAt l i
  | i, hi => by
    rw [treeAt, treeAt, List.getElem?_append_left hi, List.getElem?_eq_getElem hi]
    simp only
    congr 1
    refine List.map_congr_left fun k _ => ?_
    by_cases h : k.toNat < i
    · rw [dif_pos h, dif_pos h]
      exact tree_prefix l m k.toNat (by omega)
    · rw [dif_neg h, dif_neg h]
termination_by i => i
theorem idx_found {l : List TStep} {s : TStep} (h : idxOf l s < l.length) : l[idxOf l s] = s := by
  have := List.findIdx_getElem (xs := l) (p := fun x => eqb x s) (w := h)
  exact eqb_iff.1 this
theorem tree_step {l : List TStep} {i : Nat} (hi : i < l.length) (hw : WF l) {p : TProof} {ks : List Nat} (h : l[i] = stepOf p ks) (hk : ks.map (treeAt l) = kidsOf p) : treeAt l i = p := by
  rw [treeAt_eq hi (hw i hi).2, h]
  have e : (stepOf p ks).kids.map (fun k => treeAt l k.toNat) = kidsOf p := by
    rw [← hk]
    simp only [stepOf, List.map_map]
    refine List.map_congr_left fun k _ => ?_
    simp
  rw [e]
  exact withKids_self p
theorem wf_snoc {l : List TStep} (hw : WF l) {s : TStep} (hs : StepOk s l.length) : WF (l ++ [s]) := by
  intro i hi
  rcases Nat.lt_or_ge i l.length with h | h
  · rw [List.getElem_append_left h]
    exact hw i h
  · have : i = l.length := by simp at hi; omega
    subst this
    simpa using hs
mutual
theorem rec1_spec : ∀ (p : TProof) (l : List TStep), WF l → WF (rec1 l p).1 ∧ (∃ m, (rec1 l p).1 = l ++ m) ∧ (∀ j, l.length ≤ j → j < (rec1 l p).1.length → nodes (treeAt (rec1 l p).1 j) ≤ nodes p) ∧ treeAt (rec1 l p).1 (rec1 l p).2 = p
  | .mk rule name forms subst path args cert kids, l, hw => by
    obtain ⟨h1, ⟨m, h2⟩, h3, h4⟩ := recs_spec kids l hw
    obtain ⟨l1, l2, l3⟩ := recs_len kids l
    generalize hp : TProof.mk rule name forms subst path args cert kids = p
    have hk : kidsOf p = kids := by rw [← hp]; rfl
    rw [rec1_eq, hk]
    have np : nodes p = 1 + nodess kids := by rw [nodes_eq, hk]
    split
    · rename_i hf
      refine ⟨h1, ⟨m, h2⟩, fun j hj hj' => ?_, ?_⟩
      · have := h3 j hj hj'
        simp only
        omega
      · simp only
        exact tree_step hf h1 (idx_found hf) (by rw [h4, hk])
    · have w : WF ((recs l kids).1 ++ [stepOf p (recs l kids).2]) := wf_snoc h1 ⟨rfl, fun k hk => by
        simp only [stepOf, List.mem_map] at hk
        obtain ⟨i, hi, rfl⟩ := hk
        have := l2 i hi
        omega⟩
      have last : treeAt ((recs l kids).1 ++ [stepOf p (recs l kids).2]) (recs l kids).1.length = p := by
        refine tree_step (by simp) w (ks := (recs l kids).2) (by simp) ?_
        rw [hk]
        refine Eq.trans ?_ h4
        exact List.map_congr_left fun k hk => tree_prefix _ _ _ (l2 k hk)
      refine ⟨w, ⟨m ++ [stepOf p (recs l kids).2], by simp only [h2, List.append_assoc]⟩, fun j hj hj' => ?_, last⟩
      simp only at hj' ⊢
      rcases Nat.lt_or_ge j (recs l kids).1.length with h | h
      · rw [tree_prefix _ _ _ h]
        have := h3 j hj h
        omega
      · have : j = (recs l kids).1.length := by simp at hj'; omega
        rw [this, last]
        exact Nat.le_refl _
theorem recs_spec : ∀ (ps : List TProof) (l : List TStep), WF l → WF (recs l ps).1 ∧ (∃ m, (recs l ps).1 = l ++ m) ∧ (∀ j, l.length ≤ j → j < (recs l ps).1.length → nodes (treeAt (recs l ps).1 j) ≤ nodess ps) ∧ (recs l ps).2.map (treeAt (recs l ps).1) = ps
  | [], l, hw => ⟨hw, ⟨[], by simp [recs]⟩, (fun j h h' => by simp [recs] at h'; omega), rfl⟩
  | p :: ps, l, hw => by
    obtain ⟨a1, ⟨m, a2⟩, a3, a4⟩ := rec1_spec p l hw
    obtain ⟨b1, ⟨m', b2⟩, b3, b4⟩ := recs_spec ps (rec1 l p).1 a1
    obtain ⟨l1, l2, l3⟩ := rec1_len p l
    simp only [recs, nodess]
    refine ⟨b1, ⟨m ++ m', by rw [b2, a2, List.append_assoc]⟩, fun j hj hj' => ?_, ?_⟩
    · rcases Nat.lt_or_ge j (rec1 l p).1.length with h | h
      · rw [b2, tree_prefix _ _ _ h]
        have := a3 j hj h
        omega
      · have := b3 j h hj'
        omega
    · rw [List.map_cons, b4]
      congr 1
      rw [b2, tree_prefix _ _ _ l2]
      exact a4
end
theorem wf_nil : WF [] := fun i h => by simp at h
theorem rec_last (p : TProof) : (rec1 [] p).2 = (rec1 [] p).1.length - 1 ∧ 0 < (rec1 [] p).1.length := by
  obtain ⟨l1, l2, l3⟩ := rec1_len p []
  refine ⟨?_, by omega⟩
  rw [rec1_eq]
  split
  · rename_i hf
    exfalso
    obtain ⟨h1, _, h3, h4⟩ := recs_spec (kidsOf p) [] wf_nil
    have t := tree_step hf h1 (idx_found hf) h4
    have := h3 _ (Nat.zero_le _) hf
    rw [t, nodes_eq] at this
    omega
  · simp
/-! ### The sizes of trees -/
theorem levelss_snoc : ∀ (l : List TProof) (p : TProof), levelss (l ++ [p]) = max (levelss l) (levels p)
  | [], p => by simp [levelss]
  | q :: l, p => by simp only [List.cons_append, levelss, levelss_snoc l p]; omega
theorem nodess_snoc (l : List TProof) (p : TProof) : nodess (l ++ [p]) = nodess l + nodes p := by
  rw [nodess_sum, nodess_sum, List.map_append, List.sum_append]; simp
theorem sizes_tree {l : List TStep} (hw : WF l) : ∀ n, n ≤ l.length → ∀ i, i < n → (sizes (l.take n)).1.getD i 0 = min (nodes (treeAt l i)) 2001 ∧ (sizes (l.take n)).2.getD i 0 = levels (treeAt l i) := by
  intro n
  induction n with
  | zero => intro _ i hi; omega
  | succ n ih =>
    intro hn i hi
    obtain ⟨s1, s2⟩ := sizes_len (l.take n)
    rw [take_len_le l n (by omega)] at s1 s2
    rw [sizes_take (show n < l.length by omega)]
    simp only [List.getD_eq_getElem?_getD]
    rcases Nat.lt_or_ge i n with h | h
    · rw [List.getElem?_append_left (by omega), List.getElem?_append_left (by omega), ← List.getD_eq_getElem?_getD, ← List.getD_eq_getElem?_getD]
      exact ih (by omega) i h
    · obtain rfl : i = n := by omega
      rw [List.getElem?_append_right (by omega), List.getElem?_append_right (by omega), s1, s2]
      simp only [Nat.sub_self, List.getElem?_cons_zero, Option.getD_some]
      have hk := (hw i (by omega)).2
      have key : ∀ j, j ≤ l[i].kids.length → sizeK (sizes (l.take i)).1 (l[i].kids.take j) = min (1 + nodess ((l[i].kids.take j).map fun k => treeAt l k.toNat)) 2001 ∧ levK (sizes (l.take i)).2 (l[i].kids.take j) = 1 + levelss ((l[i].kids.take j).map fun k => treeAt l k.toNat) := by
        intro j
        induction j with
        | zero => intro _; simp [sizeK, levK, nodess, levelss]
        | succ j ihj =>
          intro hj
          obtain ⟨e1, e2⟩ := ihj (by omega)
          have hkj := hk _ (List.getElem_mem (show j < l[i].kids.length by omega))
          obtain ⟨c1, c2⟩ := ih (by omega) l[i].kids[j].toNat (by omega)
          rw [sizeK_take (by omega), levK_take (by omega), e1, e2, c1, c2, List.take_succ_eq_append_getElem (show j < l[i].kids.length by omega), List.map_append, List.map_cons, List.map_nil, nodess_snoc, levelss_snoc]
          omega
      obtain ⟨e1, e2⟩ := key l[i].kids.length (Nat.le_refl _)
      rw [List.take_length] at e1 e2
      rw [e1, e2, treeAt_eq (by omega) hk, nodes_eq, levels_eq, kids_withKids]
      exact ⟨rfl, rfl⟩
theorem sizes_at {l : List TStep} (hw : WF l) {i : Nat} (hi : i < l.length) : (sizes l).1.getD i 0 = min (nodes (treeAt l i)) 2001 ∧ (sizes l).2.getD i 0 = levels (treeAt l i) := by
  have := sizes_tree hw l.length (Nat.le_refl _) i hi
  rwa [List.take_length] at this
/-- What is recorded builds the proof again. -/
theorem build_record {p : TProof} (h : fits p 2000 60 = true) : buildOf (rec1 [] p).1 = (p, 0) ∧ (rec1 [] p).1.length ≠ 0 := by
  obtain ⟨h1, _, _, h4⟩ := rec1_spec p [] wf_nil
  obtain ⟨l1, l2, l3⟩ := rec1_len p []
  obtain ⟨e1, e2⟩ := rec_last p
  obtain ⟨n1, n2⟩ := fits_nodes h
  have hlen : (rec1 [] p).1.length ≤ 2000 := by simp at l1; omega
  have f0 : formOf (rec1 [] p).1 = 0 := good_form (by omega) (by omega) h1
  have hlast : (rec1 [] p).1.length - 1 < (rec1 [] p).1.length := by omega
  obtain ⟨s1, s2⟩ := sizes_at h1 hlast
  rw [e1] at h4
  have nb : ¬ Big (rec1 [] p).1 := by
    unfold Big
    rw [s1, s2, h4]
    omega
  unfold buildOf
  rw [if_neg (fun h => h f0), if_neg nb, h4]
  exact ⟨rfl, by omega⟩
/-! ### What is there is well made -/
theorem tree_ok {l : List TStep} (hw : WF l) (hl : ∀ s ∈ l, s.what.ok ∧ Sm s.kids) : ∀ (i : Nat), i < l.length → (treeAt l i).ok
  | i, hi => by
    rw [treeAt_eq hi (hw i hi).2]
    obtain ⟨h1, h2⟩ := hl _ (List.getElem_mem hi)
    have hk := (hw i hi).2
    have kids : ∀ n ∈ (l[i].kids.map fun k => treeAt l k.toNat), n.ok := by
      intro n hn
      obtain ⟨k, hk', rfl⟩ := List.mem_map.1 hn
      have := hk k hk'
      exact tree_ok hw hl k.toNat (by omega)
    generalize l[i].what = w at h1
    cases w
    obtain ⟨a1, a2, a3, a4, a5, a6, a7⟩ := h1
    refine ⟨a1, a2, a3, a4, a5, ?_, TProof.oks_iff.2 kids⟩
    unfold Sm at h2 ⊢
    simpa using h2
termination_by i => i
theorem empty_ok : emptyP.ok := by
  unfold emptyP
  simp [TProof.ok, TNodes.ok, Sm, TCert.ok, TCert.oks, TProof.oks]
theorem build_ok {l : List TStep} (hl : ∀ s ∈ l, s.what.ok ∧ Sm s.kids) : (buildOf l).1.ok := by
  unfold buildOf
  split
  · exact empty_ok
  · rename_i h
    obtain ⟨f1, f2, f3⟩ := form_zero (Classical.not_not.1 h)
    split
    · exact empty_ok
    · exact tree_ok f3 hl _ (by omega)
def Fine (l : List TStep) : Prop := ∀ s ∈ l, s.what.sz < lim ∧ s.kids.length < lim
theorem node_sz (p : TProof) : (node (bareOf p)).sz ≤ p.sz := by
  cases p
  simp only [node, bareOf, TProof.sz, TProof.szs]
  omega
mutual
theorem rec1_fine : ∀ (p : TProof) (l : List TStep), p.sz < lim → Fine l → Fine (rec1 l p).1
  | .mk rule name forms subst path args cert kids, l, hz, hl => by
    have z := proof_parts hz
    have h := recs_fine kids l (fun k hk => z.2.2.2 k hk) hl
    have hc := recs_cnt kids l
    generalize hp : TProof.mk rule name forms subst path args cert kids = p at hz z
    have hk : kidsOf p = kids := by rw [← hp]; rfl
    rw [rec1_eq, hk]
    split
    · exact h
    · intro s hs
      simp only [List.mem_append, List.mem_singleton] at hs
      rcases hs with hs | rfl
      · exact h s hs
      · refine ⟨?_, ?_⟩
        · have := node_sz p
          simp only [stepOf]
          omega
        · simp only [stepOf, List.length_map, hc]
          have := z.2.2.1
          rw [hk] at this
          exact this
theorem recs_fine : ∀ (ps : List TProof) (l : List TStep), (∀ p ∈ ps, p.sz < lim) → Fine l → Fine (recs l ps).1
  | [], l, _, hl => hl
  | p :: ps, l, hz, hl => recs_fine ps (rec1 l p).1 (fun q hq => hz q (by simp [hq])) (rec1_fine p l (hz p (by simp)) hl)
end
end Go.Proofs.YtkpbfldnickghaaDoor
set_option linter.unusedVariables false
set_option linter.unusedSimpArgs false
namespace Go.Proofs.YtkpbfldnickghaaDoor
open Go Go.PE
def AnsB (r : Option (List PV)) : Prop := ∃ b : Bool, r = some [.bool b]
theorem callB {X : Ext} {f : Nat} {pf : PFunc} (hf : C f = some pf) {args : List PV} (h0 : (pf.keep.all (fun k => !k.1) && !pf.keepr.any (·.1)) = true) (h1 : pureL args = true) (h2 : canonA pf.keep args = args) (h : AnsB ((Hw C X).pure f args)) :
    ∃ k : Bool, ∀ {R : Type} (σ : Heap) (pc : Bool) (K : PV → Heap → Option R), callK C (Hw C X) σ pc (.fn f []) args K = K (.bool k) σ := by
  obtain ⟨k, hk⟩ := h
  exact ⟨k, fun σ pc K => callK_pure hf h0 h1 h2 hk⟩
theorem callI' {X : Ext} {f : Nat} {pf : PFunc} (hf : C f = some pf) {args : List PV} (h0 : (pf.keep.all (fun k => !k.1) && !pf.keepr.any (·.1)) = true) (h1 : pureL args = true) (h2 : canonA pf.keep args = args) (h : AnsI ((Hw C X).pure f args)) :
    ∃ k : Int, ∀ {R : Type} (σ : Heap) (pc : Bool) (K : PV → Heap → Option R), callK C (Hw C X) σ pc (.fn f []) args K = K (.int .i64 k) σ := by
  obtain ⟨k, hk⟩ := h
  exact ⟨k, fun σ pc K => callK_pure hf h0 h1 h2 hk⟩
def opOf : TNode → Int | .mk op _ _ _ => op
def numOf : TNode → TRat | .mk _ _ num _ => num
def nkids : TNode → List TNode | .mk _ _ _ ks => ks
theorem nn0 (n : TNode) : loadP false 1 n.c = some (.int .i64 (opOf n)) := by cases n; rw [TNode.c_eq]; rfl
theorem nn2 (n : TNode) : loadP true 3 (n.c.drop 2) = some (.agg (numOf n).c) := by cases n; rw [TNode.c_eq]; rfl
theorem nn3 (n : TNode) : loadP false 1 (n.c.drop 3) = some (encL 1 cU32 (numOf n).num) := by cases n; rw [TNode.c_eq]; rfl
theorem nn4 (n : TNode) : loadP false 1 (n.c.drop 4) = some (encL 1 cU32 (numOf n).den) := by cases n; rw [TNode.c_eq]; rfl
theorem nn5 (n : TNode) : loadP false 1 (n.c.drop 5) = some (encL 6 TNode.c (nkids n)) := by cases n; rw [TNode.c_eq]; rfl
theorem nkids_size {n k : TNode} (h : k ∈ nkids n) : SizeOf.sizeOf k < SizeOf.sizeOf n := by
  cases n
  have := List.sizeOf_lt_of_mem h
  simp only [nkids] at this
  simp only [TNode.mk.sizeOf_spec]
  omega
theorem nkids_ok {n : TNode} (h : n.ok) : Sm (nkids n) ∧ ∀ k ∈ nkids n, k.ok := by
  cases n
  obtain ⟨_, h1, h2⟩ := h
  exact ⟨h1, TNode.oks_iff.1 h2⟩
theorem sort56_ok (X : Ext) (n : Int) : AnsI ((Hw C X).pure 56 [.int .i64 n]) := by
  rw [F56]
  simp only [bin_geq, bin_leq, bin_eql, Option.bind_some]
  generalize decide (n ≥ 1) = b1
  generalize decide (n ≤ 13) = b2
  generalize decide (n ≥ 20) = b3
  generalize decide (n ≤ 39) = b4
  generalize decide (n = 55) = b5
  generalize decide (n = 56) = b6
  generalize decide (n ≥ 50) = b7
  generalize decide (n ≤ 62) = b8
  have f : ∀ (k : Int) (σ : Heap), AnsI (finVs p56.keepr [.int .i64 k] σ) := fun k σ => ⟨k, rfl⟩
  cases b1 <;> cases b2 <;> simp only [guardR_yes, guardR_tf, guardR_ft, Option.bind_some, nthV_zero, nthV_succ, pickV_true, pickV_false, condK_true, condK_false] <;> first
    | exact f _ _
    | (cases b3 <;> cases b4 <;> simp only [guardR_yes, guardR_tf, guardR_ft, Option.bind_some, nthV_zero, nthV_succ, pickV_true, pickV_false, condK_true, condK_false] <;> first
        | exact f _ _
        | (cases b5 <;> cases b6 <;> simp only [guardR_yes, guardR_tf, guardR_ft, Option.bind_some, nthV_zero, nthV_succ, pickV_true, pickV_false, condK_true, condK_false] <;> first
            | exact f _ _
            | (cases b7 <;> cases b8 <;> simp only [guardR_yes, guardR_tf, guardR_ft, Option.bind_some, nthV_zero, nthV_succ, pickV_true, pickV_false, condK_true, condK_false] <;> exact f _ _)))
theorem call56 (X : Ext) (n : Int) : ∃ k : Int, ∀ {R : Type} (σ : Heap) (pc : Bool) (K : PV → Heap → Option R), callK C (Hw C X) σ pc (.fn 56 []) [.int .i64 n] K = K (.int .i64 k) σ :=
  callI' C56 rfl rfl rfl (sort56_ok X n)
theorem nat70_ok (X : Ext) (r : TRat) (b : Int) : AnsI ((Hw C X).pure 70 [.agg r.c, .int .i64 b]) := by
  have rt : loadP false 1 (r.c.drop 1) = some (encL 1 cU32 r.num) := rfl
  have f : ∀ (k : Int) (σ : Heap), AnsI (finVs p70.keepr [.int .i64 k] σ) := fun k σ => ⟨k, rfl⟩
  rw [F70]
  simp only [boxV_agg, Option.bind_some, List.nil_append, List.length_nil, faddrV_ptr, Nat.zero_add, loadV_ptr0, rt, len_enc]
  have e0 : evBin .eql .int (.int .i64 (r.num.length : Nat)) (.int .i64 0) = some (.bool (decide (r.num.length = 0))) := bin_eqlN _ _ _ 0
  have e1 : evBin .gtr .int (.int .i64 (r.num.length : Nat)) (.int .i64 1) = some (.bool (decide (1 < r.num.length))) := gtr_nat _ _ 1
  simp only [e0, e1, Option.bind_some]
  by_cases h0 : r.num.length = 0
  · simp only [decide_eq_true h0, condK_true]
    exact f _ _
  · have hi : 0 < r.num.length := by omega
    have ia : ∀ σ : Heap, iaddrV σ 1 (encL 1 cU32 r.num) (.int .i64 0) = some (.cref (cU32 r.num[0])) := fun σ => iaddr_enc σ .i64 hi
    have ti : ∀ σ : Heap, evPrim [] σ (.toint .i64 (.cst (.int .u32 (r.num[0] : Nat)))) = some (.int .i64 (IntKind.i64.wrap (r.num[0] : Nat)), σ) := fun σ => rfl
    simp only [decide_eq_false h0, condK_false, ia, Option.bind_some, loadV_cref, cU32, loadP_one, ti, bin_gtr]
    by_cases h1 : 1 < r.num.length
    · simp only [decide_eq_true h1, guardR_tf, Option.bind_some, pickV_true, condK_true]
      exact f _ _
    · simp only [decide_eq_false h1, guardR_yes, Option.bind_some, pickV_false, nthV_zero, nthV_succ]
      generalize decide (IntKind.i64.wrap (r.num[0] : Nat) > b) = c
      cases c
      · simp only [condK_false, loadV_ptr0, rt, Option.bind_some, ia, loadV_cref, cU32, loadP_one, ti]
        exact f _ _
      · simp only [condK_true]
        exact f _ _
theorem call70 (X : Ext) (r : TRat) (b : Int) : ∃ k : Int, ∀ {R : Type} (σ : Heap) (pc : Bool) (K : PV → Heap → Option R), callK C (Hw C X) σ pc (.fn 70 []) [.agg r.c, .int .i64 b] K = K (.int .i64 k) σ :=
  callI' C70 rfl (by simp only [pureL, PV.pure, TRat.pure, Bool.and_self]) (by simp only [p70, canonA, canonV, TRat.canon]; rfl) (nat70_ok X r b)
theorem J57_2_next (X : Ext) (m v6 : Int) {i : Nat} (hi : i < 9223372036854775807) (σ : Heap) : ∃ m' : Int, J57_2 X (.ptr 0 0) (.int .i64 m) (.int .i64 (i : Nat)) (.int .i64 v6) σ = L57_1 X (.ptr 0 0) (.int .i64 m') (.int .i64 ((i + 1 : Nat) : Int)) σ := by
  refine ⟨minL 1000 [IntKind.i64.wrap (maxL 1 [m] * v6)], ?_⟩
  rw [J57_2_eq]
  simp only [mx_two, Option.bind_some, bin_mul, mn_two, bin_add, wrap_succ hi]
theorem degree_end (X : Ext) (n : TNode) (m : Int) : AnsI (J57_3 X (.ptr 0 0) (.int .i64 m) [.box n.c]) := by
  have f : ∀ (k : Int) (σ : Heap), AnsI (finVs p57.keepr [.int .i64 k] σ) := fun k σ => ⟨k, rfl⟩
  rw [J57_3_eq]
  simp only [faddrV_ptr, Nat.zero_add, loadV_ptr0, List.drop_zero, nn0, Option.bind_some, bin_eql, mx_two]
  cases h1 : decide (opOf n = 2) <;> cases h2 : decide (opOf n = 3) <;> cases h3 : decide (opOf n = 10) <;> cases h4 : decide (opOf n = 11) <;> simp only [guardR_yes, guardR_tf, guardR_ft, Option.bind_some, nthV_zero, nthV_succ, pickV_true, pickV_false, condK_true, condK_false, faddrV_ptr, Nat.zero_add, loadV_ptr0, List.drop_zero, nn0, bin_eql, h1, h2, h3, h4] <;> exact f _ _
theorem degree_ok (X : Ext) : ∀ (n : TNode), n.ok → AnsI ((Hw C X).pure 57 [.agg n.c])
  | n, hn => by
    obtain ⟨hb, hk⟩ := nkids_ok hn
    unfold Sm at hb
    rw [F57]
    simp only [boxV_agg, Option.bind_some, List.nil_append, List.length_nil]
    refine sum_loop (n := (nkids n).length) (Q := AnsI) (I := fun σ => σ = [.box n.c]) (L := fun i m σ => L57_1 X (.ptr 0 0) (.int .i64 m) (.int .i64 (i : Nat)) σ) ?_ ?_ 0 _ rfl
    · rintro m τ rfl
      try simp only
      rw [L57_1_eq]
      simp only [faddrV_ptr, Nat.zero_add, loadV_ptr0, nn5, Option.bind_some, len_enc, bin_lss, Int.lt_irrefl, decide_false, condK_false]
      exact degree_end X n m
    · rintro i hi m τ rfl
      obtain ⟨k, hc⟩ := callI' (args := [.agg (nkids n)[i].c]) C57 rfl (by simp only [pureL, PV.pure, TNode.pure, Bool.and_self]) (by simp only [p57, canonA, canonV, TNode.canon]) (by
        have := nkids_size (List.getElem_mem hi)
        exact degree_ok X (nkids n)[i] (hk _ (List.getElem_mem hi)))
      have hi0 : decide ((i : Int) < ((nkids n).length : Int)) = true := decide_eq_true (by omega)
      have hs : IntKind.i64.wrap ((i : Int) + 1) = ((i + 1 : Nat) : Int) := wrap_succ (by omega)
      have e : ∀ m' : Int, L57_1 X (.ptr 0 0) (.int .i64 m) (.int .i64 (i : Nat)) [PE.Obj.box n.c] = L57_1 X (.ptr 0 0) (.int .i64 m') (.int .i64 ((i + 1 : Nat) : Int)) [PE.Obj.box n.c] → ∃ m' τ', τ' = [PE.Obj.box n.c] ∧ L57_1 X (.ptr 0 0) (.int .i64 m) (.int .i64 (i : Nat)) [PE.Obj.box n.c] = L57_1 X (.ptr 0 0) (.int .i64 m') (.int .i64 ((i + 1 : Nat) : Int)) τ' := fun m' h => ⟨m', _, rfl, h⟩
      have c1 : decide ((i : Int) = 1) = decide (i = 1) := dec_nat i 1
      by_cases h7 : opOf n = 7
      · refine e (minL 1000 [IntKind.i64.wrap (m + k)]) ?_
        · rw [L57_1_eq]
          simp only [faddrV_ptr, Nat.zero_add, loadV_ptr0, List.drop_zero, nn5, nn0, Option.bind_some, len_enc, bin_lss, hi0, condK_true, iaddr_enc _ _ hi, loadV_cref, loadP_all (TNode.len _), hc, bin_eql, decide_eq_true h7, bin_add, mn_two, hs]
      · by_cases h9 : opOf n = 9 ∧ i = 1
        · obtain ⟨h9, rfl⟩ := h9
          have ia : ∀ σ : Heap, iaddrV σ 6 (encL 6 TNode.c (nkids n)) (.int .i64 1) = some (.cref (nkids n)[1].c) := fun σ => iaddr_enc σ .i64 hi
          obtain ⟨k2, hc2⟩ := call70 X (numOf (nkids n)[1]) 20
          by_cases hneg : k2 < 0
          · obtain ⟨m', hm⟩ := J57_2_next X m 1000 (i := 1) (by omega) [.box n.c]
            refine e m' ?_
            rw [← hm, L57_1_eq]
            simp only [faddrV_ptr, Nat.zero_add, loadV_ptr0, List.drop_zero, nn5, nn0, Option.bind_some, len_enc, bin_lss, hi0, condK_true, iaddr_enc _ _ hi, loadV_cref, loadP_all (TNode.len _), hc, bin_eql, decide_eq_false h7, condK_false, decide_eq_true h9, guardR_yes, c1, decide_true, nthV_zero, nthV_succ, pickV_true, ia, faddrV_cref, nn2, hc2, decide_eq_true hneg]
          · obtain ⟨m', hm⟩ := J57_2_next X m k2 (i := 1) (by omega) [.box n.c]
            refine e m' ?_
            rw [← hm, L57_1_eq]
            simp only [faddrV_ptr, Nat.zero_add, loadV_ptr0, List.drop_zero, nn5, nn0, Option.bind_some, len_enc, bin_lss, hi0, condK_true, iaddr_enc _ _ hi, loadV_cref, loadP_all (TNode.len _), hc, bin_eql, decide_eq_false h7, condK_false, decide_eq_true h9, guardR_yes, c1, decide_true, nthV_zero, nthV_succ, pickV_true, ia, faddrV_cref, nn2, hc2, decide_eq_false hneg]
        · refine e (maxL m [k]) ?_
          · rw [L57_1_eq]
            by_cases h9' : opOf n = 9
            · have h1 : ¬ i = 1 := fun h => h9 ⟨h9', h⟩
              simp only [faddrV_ptr, Nat.zero_add, loadV_ptr0, List.drop_zero, nn5, nn0, Option.bind_some, len_enc, bin_lss, hi0, condK_true, iaddr_enc _ _ hi, loadV_cref, loadP_all (TNode.len _), hc, bin_eql, decide_eq_false h7, condK_false, decide_eq_true h9', guardR_yes, c1, decide_eq_false h1, nthV_zero, nthV_succ, pickV_true, mx_two, bin_add, hs]
            · simp only [faddrV_ptr, Nat.zero_add, loadV_ptr0, List.drop_zero, nn5, nn0, Option.bind_some, len_enc, bin_lss, hi0, condK_true, iaddr_enc _ _ hi, loadV_cref, loadP_all (TNode.len _), hc, bin_eql, decide_eq_false h7, condK_false, decide_eq_false h9', guardR_ft, pickV_false, mx_two, bin_add, hs]
termination_by n => SizeOf.sizeOf n
theorem call57 (X : Ext) (n : TNode) (h : n.ok) : ∃ k : Int, ∀ {R : Type} (σ : Heap) (pc : Bool) (K : PV → Heap → Option R), callK C (Hw C X) σ pc (.fn 57 []) [.agg n.c] K = K (.int .i64 k) σ :=
  callI' C57 rfl (by simp only [pureL, PV.pure, TNode.pure, Bool.and_self]) (by simp only [p57, canonA, canonV, TNode.canon]) (degree_ok X n h)
/-- A loop that answers true, or false on the way. -/
theorem ans_loop {R : Type} {n : Nat} {L : Nat → Option R} {Q : Option R → Prop} (hend : Q (L n)) (hstep : ∀ i, i < n → Q (L i) ∨ L i = L (i + 1)) : Q (L 0) :=
  inv_loop2 (L := fun i _ => L i) (I := fun _ _ => True) (fun _ _ => hend) (fun i hi τ _ => (hstep i hi).imp id fun h => ⟨τ, trivial, h⟩) (τ := []) trivial
theorem calm40_ok (X : Ext) : ∀ (n : TNode), n.ok → AnsB ((Hw C X).pure 40 [.agg n.c])
  | n, hn => by
    obtain ⟨hb, hk⟩ := nkids_ok hn
    unfold Sm at hb
    have f : ∀ (k : Bool) (σ : Heap), AnsB (finVs p40.keepr [.bool k] σ) := fun k σ => ⟨k, rfl⟩
    obtain ⟨k1, hc1⟩ := call56 X (opOf n)
    obtain ⟨k2, hc2⟩ := call57 X n hn
    have hL : AnsB (L40_1 X (.ptr 0 0) (.int .i64 0) [.box n.c]) := by
      refine ans_loop (n := (nkids n).length) (Q := AnsB) (L := fun i => L40_1 X (.ptr 0 0) (.int .i64 (i : Nat)) [.box n.c]) ?_ ?_
      · try simp only
        rw [L40_1_eq]
        simp only [faddrV_ptr, Nat.zero_add, loadV_ptr0, nn5, Option.bind_some, len_enc, bin_lss, Int.lt_irrefl, decide_false, condK_false]
        exact f _ _
      · intro i hi
        obtain ⟨k, hc⟩ := callB (args := [.agg (nkids n)[i].c]) C40 rfl (by simp only [pureL, PV.pure, TNode.pure, Bool.and_self]) (by simp only [p40, canonA, canonV, TNode.canon]) (by
          have := nkids_size (List.getElem_mem hi)
          exact calm40_ok X (nkids n)[i] (hk _ (List.getElem_mem hi)))
        have hi0 : decide ((i : Int) < ((nkids n).length : Int)) = true := decide_eq_true (by omega)
        try simp only
        rw [L40_1_eq]
        simp only [faddrV_ptr, Nat.zero_add, loadV_ptr0, nn5, Option.bind_some, len_enc, bin_lss, hi0, condK_true, iaddr_enc _ _ hi, loadV_cref, loadP_all (TNode.len _), hc, not_bool]
        cases k
        · left
          simp only [Bool.not_false, condK_true]
          exact f _ _
        · right
          simp only [Bool.not_true, condK_false, bin_add, wrap_succ (show i < 9223372036854775807 by omega), Option.bind_some]
    rw [F40]
    have e1 : ∀ a : Nat, evBin .gtr .int (.int .i64 (a : Nat)) (.int .i64 2) = some (.bool (decide (2 < a))) := fun a => gtr_nat _ a 2
    have rep : nthV (List.replicate 5 (.tup [])) 4 = .tup [] := rfl
    simp only [boxV_agg, Option.bind_some, List.nil_append, List.length_nil, faddrV_ptr, Nat.zero_add, loadV_ptr0, List.drop_zero, Nat.reduceAdd, nn3, nn4, nn0, len_enc, e1, hc1, bin_eql, loadP_all (TNode.len _), hc2, bin_gtr]
    cases h1 : decide (2 < (numOf n).num.length) <;> cases h2 : decide (2 < (numOf n).den.length) <;> cases h3 : decide (k1 = 1) <;> cases h4 : decide (k2 > 12) <;> simp only [guardR_yes, guardR_tf, guardR_ft, guardR_tup, rep, Option.bind_some, nthV_zero, nthV_succ, pickV_true, pickV_false, condK_true, condK_false, faddrV_ptr, Nat.zero_add, Nat.reduceAdd, loadV_ptr0, List.drop_zero, nn3, nn4, nn0, len_enc, e1, hc1, hc2, bin_eql, bin_gtr, loadP_all (TNode.len _), h1, h2, h3, h4] <;> first | exact f _ _ | exact hL
termination_by n => SizeOf.sizeOf n
theorem call40 (X : Ext) (n : TNode) (h : n.ok) : ∃ k : Bool, ∀ {R : Type} (σ : Heap) (pc : Bool) (K : PV → Heap → Option R), callK C (Hw C X) σ pc (.fn 40 []) [.agg n.c] K = K (.bool k) σ :=
  callB C40 rfl (by simp only [pureL, PV.pure, TNode.pure, Bool.and_self]) (by simp only [p40, canonA, canonV, TNode.canon]) (calm40_ok X n h)
end Go.Proofs.YtkpbfldnickghaaDoor
set_option linter.unusedVariables false
set_option linter.unusedSimpArgs false
namespace Go.Proofs.YtkpbfldnickghaaDoor
open Go Go.PE
theorem calm21_ok (X : Ext) : ∀ (p : TProof), p.ok → AnsB ((Hw C X).pure 21 [.agg p.c])
  | p, hp => by
    have A := bare_ok_of hp
    have K := kids_ok_of hp
    have b1 := A.forms.1
    have b2 := A.subst.1
    have b3 := K.1
    unfold Sm at b1 b2 b3
    have f : ∀ (k : Bool) (σ : Heap), AnsB (finVs p21.keepr [.bool k] σ) := fun k σ => ⟨k, rfl⟩
    have H1 : AnsB (L21_1 X (.ptr 0 0) (.int .i64 0) [.box p.c]) := by
      refine ans_loop (n := (kidsOf p).length) (Q := AnsB) (L := fun i => L21_1 X (.ptr 0 0) (.int .i64 (i : Nat)) [.box p.c]) ?_ ?_
      · try simp only
        rw [L21_1_eq]
        simp only [faddrV_ptr, Nat.zero_add, loadV_ptr0, pr11, Option.bind_some, len_enc, bin_lss, Int.lt_irrefl, decide_false, condK_false]
        exact f _ _
      · intro i hi
        obtain ⟨k, hc⟩ := callB (args := [.agg (kidsOf p)[i].c]) C21 rfl (by simp only [pureL, PV.pure, TProof.pure, Bool.and_self]) (by simp only [p21, canonA, canonV, TProof.canon]) (by
          have := kids_size (List.getElem_mem hi)
          exact calm21_ok X (kidsOf p)[i] (K.2 _ (List.getElem_mem hi)))
        have hi0 : decide ((i : Int) < ((kidsOf p).length : Int)) = true := decide_eq_true (by omega)
        try simp only
        rw [L21_1_eq]
        simp only [faddrV_ptr, Nat.zero_add, loadV_ptr0, pr11, Option.bind_some, len_enc, bin_lss, hi0, condK_true, iaddr_enc _ _ hi, loadV_cref, loadP_all (TProof.len _), hc, not_bool]
        cases k
        · left
          simp only [Bool.not_false, condK_true]
          exact f _ _
        · right
          simp only [Bool.not_true, condK_false, bin_add, wrap_succ (show i < 9223372036854775807 by omega), Option.bind_some]
    have H2 : AnsB (L21_2 X (.ptr 0 0) (.int .i64 0) [.box p.c]) := by
      refine ans_loop (n := (bareOf p).subst.length) (Q := AnsB) (L := fun i => L21_2 X (.ptr 0 0) (.int .i64 (i : Nat)) [.box p.c]) ?_ ?_
      · try simp only
        rw [L21_2_eq]
        simp only [faddrV_ptr, Nat.zero_add, loadV_ptr0, pr3, Option.bind_some, len_enc, bin_lss, Int.lt_irrefl, decide_false, condK_false]
        rw [J21_4_eq]
        exact H1
      · intro i hi
        obtain ⟨q1, q2, q3⟩ := A.subst.2 _ (List.getElem_mem hi)
        have q3b := q3.1
        unfold Sm at q3b
        obtain ⟨k, hc⟩ := call40 X _ q2
        have hi0 : decide ((i : Int) < ((bareOf p).subst.length : Int)) = true := decide_eq_true (by omega)
        try simp only
        rw [L21_2_eq]
        simp only [faddrV_ptr, Nat.zero_add, loadV_ptr0, pr3, Option.bind_some, len_enc, bin_lss, hi0, condK_true, iaddr_enc _ _ hi, faddrV_cref, loadV_cref, pa6, hc, not_bool]
        cases k
        · left
          simp only [Bool.not_false, condK_true]
          exact f _ _
        · simp only [Bool.not_true, condK_false]
          refine ans_loop (n := (bareOf p).subst[i].rates.length) (Q := fun r => AnsB r ∨ r = L21_2 X (.ptr 0 0) (.int .i64 ((i + 1 : Nat) : Int)) [.box p.c]) (L := fun j => L21_3 X (.ptr 0 0) (.int .i64 (i : Nat)) (.int .i64 (j : Nat)) [.box p.c]) ?_ ?_
          · right
            try simp only
            rw [L21_3_eq]
            simp only [faddrV_ptr, Nat.zero_add, loadV_ptr0, pr3, iaddr_enc _ _ hi, faddrV_cref, loadV_cref, pa12, Option.bind_some, len_enc, bin_lss, Int.lt_irrefl, decide_false, condK_false, bin_add, wrap_succ (show i < 9223372036854775807 by omega)]
          · intro j hj
            obtain ⟨k3, hc3⟩ := call40 X _ (q3.2 _ (List.getElem_mem hj))
            have hj0 : decide ((j : Int) < ((bareOf p).subst[i].rates.length : Int)) = true := decide_eq_true (by omega)
            try simp only
            rw [L21_3_eq]
            simp only [faddrV_ptr, Nat.zero_add, loadV_ptr0, pr3, iaddr_enc _ _ hi, faddrV_cref, loadV_cref, pa12, Option.bind_some, len_enc, bin_lss, hj0, condK_true, iaddr_enc _ _ hj, loadP_all (TNode.len _), hc3, not_bool]
            cases k3
            · left
              left
              simp only [Bool.not_false, condK_true]
              exact f _ _
            · right
              simp only [Bool.not_true, condK_false, bin_add, wrap_succ (show j < 9223372036854775807 by omega), Option.bind_some]
    rw [F21]
    simp only [boxV_agg, Option.bind_some, List.nil_append, List.length_nil]
    refine ans_loop (n := (bareOf p).forms.length) (Q := AnsB) (L := fun i => L21_5 X (.ptr 0 0) (.int .i64 (i : Nat)) [.box p.c]) ?_ ?_
    · try simp only
      rw [L21_5_eq]
      simp only [faddrV_ptr, Nat.zero_add, loadV_ptr0, pr2, Option.bind_some, len_enc, bin_lss, Int.lt_irrefl, decide_false, condK_false]
      rw [J21_6_eq]
      exact H2
    · intro i hi
      obtain ⟨k, hc⟩ := call40 X _ (A.forms.2 _ (List.getElem_mem hi))
      have hi0 : decide ((i : Int) < ((bareOf p).forms.length : Int)) = true := decide_eq_true (by omega)
      try simp only
      rw [L21_5_eq]
      simp only [faddrV_ptr, Nat.zero_add, loadV_ptr0, pr2, Option.bind_some, len_enc, bin_lss, hi0, condK_true, iaddr_enc _ _ hi, loadV_cref, loadP_all (TNode.len _), hc, not_bool]
      cases k
      · left
        simp only [Bool.not_false, condK_true]
        exact f _ _
      · right
        simp only [Bool.not_true, condK_false, bin_add, wrap_succ (show i < 9223372036854775807 by omega), Option.bind_some]
termination_by p => SizeOf.sizeOf p
theorem call21 (X : Ext) (p : TProof) (h : p.ok) : ∃ k : Bool, ∀ {R : Type} (σ : Heap) (pc : Bool) (K : PV → Heap → Option R), callK C (Hw C X) σ pc (.fn 21 []) [.agg p.c] K = K (.bool k) σ :=
  callB C21 rfl (by simp only [pureL, PV.pure, TProof.pure, Bool.and_self]) (by simp only [p21, canonA, canonV, TProof.canon]) (calm21_ok X p h)
theorem accb_loop {R : Type} {n : Nat} {L : Nat → Int → Option R} {Q : Option R → Prop} (hend : ∀ m, Q (L n m)) (hstep : ∀ i, i < n → ∀ m, Q (L i m) ∨ ∃ m', L i m = L (i + 1) m') (m : Int) : Q (L 0 m) := by
  have key : ∀ (d i : Nat), i + d = n → ∀ m, Q (L i m) := by
    intro d
    induction d with
    | zero => intro i hi m; obtain rfl : i = n := by omega
              exact hend m
    | succ d ih =>
      intro i hi m
      rcases hstep i (by omega) m with h | ⟨m', e⟩
      · exact h
      · rw [e]
        exact ih (i + 1) (by omega) m'
  exact key n 0 (by omega) m
theorem light8_ok (X : Ext) (l : List TStep) (hl : ∀ s ∈ l, s.what.ok) : AnsB ((Hw C X).pure 8 [encL 13 TStep.c l]) := by
  have f : ∀ (k : Bool) (σ : Heap), AnsB (finVs p8.keepr [.bool k] σ) := fun k σ => ⟨k, rfl⟩
  have e1 : evBin .gtr .int (.int .i64 (l.length : Nat)) (.int .i64 200) = some (.bool (decide (200 < l.length))) := gtr_nat _ _ 200
  rw [F8]
  simp only [len_enc, Option.bind_some, e1]
  by_cases h : 200 < l.length
  · simp only [decide_eq_true h, condK_true]
    exact f _ _
  · simp only [decide_eq_false h, condK_false]
    refine accb_loop (n := l.length) (Q := AnsB) (L := fun i m => L8_1 X (encL 13 TStep.c l) (.int .i64 m) (.int .i64 (i : Nat)) []) ?_ ?_ 0
    · intro m
      try simp only
      rw [L8_1_eq]
      simp only [len_enc, Option.bind_some, bin_lss, Int.lt_irrefl, decide_false, condK_false, bin_leq]
      exact f _ _
    · intro i hi m
      have hok := hl _ (List.getElem_mem hi)
      obtain ⟨k1, hc1⟩ := call7 (R := List PV) X _ hok
      obtain ⟨k2, hc2⟩ := call21 X _ hok
      have hi0 : decide ((i : Int) < (l.length : Int)) = true := decide_eq_true (by omega)
      try simp only
      rw [L8_1_eq]
      simp only [len_enc, Option.bind_some, bin_lss, hi0, condK_true, iaddr_enc _ _ hi, faddrV_cref, List.drop_zero, loadV_cref, tsw, hc1, ts12', bin_add, hc2, not_bool]
      cases k2
      · left
        simp only [Bool.not_false, condK_true]
        exact f _ _
      · right
        simp only [Bool.not_true, condK_false, wrap_succ (show i < 9223372036854775807 by omega)]
        exact ⟨_, rfl⟩
theorem call8 (X : Ext) (l : List TStep) (hl : ∀ s ∈ l, s.what.ok) : ∃ k : Bool, ∀ {R : Type} (σ : Heap) (pc : Bool) (K : PV → Heap → Option R), callK C (Hw C X) σ pc (.fn 8 []) [encL 13 TStep.c l] K = K (.bool k) σ :=
  callB C8 rfl (by simp only [pureL, encL_pure (fun x _ => TStep.pure x), Bool.and_self]) (by simp only [p8, canonA, canon_sl]) (light8_ok X l hl)
end Go.Proofs.YtkpbfldnickghaaDoor
set_option linter.unusedVariables false
set_option linter.unusedSimpArgs false
namespace Go.Proofs.YtkpbfldnickghaaDoor
open Go Go.PE
theorem call6' {R : Type} (σ : Heap) (pc : Bool) (k : PV → Heap → Option R) : callK C (Hw C XI) σ pc (.fn 6 []) [] k = k (.bool true) σ :=
  callK_pure C6 rfl rfl rfl awake_ok
theorem call15'' {R : Type} (X : Ext) (a b : TProof) (ha : a.ok) (hb : b.ok) (σ : Heap) (pc : Bool) (k : PV → Heap → Option R) : callK C (Hw C X) σ pc (.fn 15 []) [.agg a.c, .agg b.c] k = k (.bool (eqb a b)) σ := call15 X (equal_ok X a b ha hb) σ pc k
theorem fin3 (b : Bool) (σ : Heap) : finVs p3.keepr [.bool b] σ = some [.bool b] := rfl
theorem records_law (p : TProof) (l : List TStep) (hp : p.ok) (hz : p.sz < lim) (hl : ∀ s ∈ l, s.what.ok ∧ Sm s.kids) (hf : Fine l) : (Hw C XI).pure 3 [.agg p.c, encL 13 TStep.c l] = some [.bool true] := by
  obtain ⟨k1, c7⟩ := call7 (R := List PV) XI p hp
  obtain ⟨k2, c8⟩ := call8 XI l (fun s hs => (hl s hs).1)
  have g0 : ([PE.Obj.box p.c] : Heap)[0]? = some (.box p.c) := rfl
  rw [F3]
  simp only [boxV_agg, List.nil_append, List.length_nil, Option.bind_some, call6', not_bool, Bool.not_true, condK_false, load_all (sz := 12) g0 (TProof.len p), c7, bin_gtr]
  by_cases h1 : k1 > 3000
  · simp only [decide_eq_true h1, guardR_tf, Option.bind_some, pickV_true, condK_true, fin3]
  · simp only [decide_eq_false h1, guardR_yes, c8, not_bool, Option.bind_some, nthV_zero, nthV_succ, pickV_false]
    cases k2
    · simp only [Bool.not_false, condK_true, fin3]
    · have good := good_record p hp hz
      have gk : ∀ s ∈ (recordOf p).1, s.what.ok ∧ Sm s.kids := fun s hs => ⟨(good s hs).1, (good s hs).2.2⟩
      have glen : (recordOf p).1.length < 9223372036854775807 := by
        unfold recordOf
        split
        · rename_i hfit
          have := (rec1_len p []).1
          have := (fits_nodes hfit).1
          simp at *
          omega
        · simp
      have bok := build_ok hl
      have e22 : evBin .neq .int (.int .i64 (recordOf p).2) (.int .i64 (recordOf p).2) = some (.bool false) := by rw [bin_neq]; simp
      have e33 : evBin .neq .int (.int .i64 (buildOf l).2) (.int .i64 (buildOf l).2) = some (.bool false) := by rw [bin_neq]; simp
      simp only [Bool.not_true, condK_false, load_all (sz := 12) g0 (TProof.len p), Option.bind_some, call9 p hp hz, call10 XI p hp hz, extV_zero, extV_succ, e22, guardR_yes, call11 XI _ _ glen gk gk, eqb_eq, not_bool, nthV_zero, nthV_succ, pickV_false, call12 XI hf, call13 XI hf, e33]
      have st1 : storeV ([PE.Obj.box p.c] ++ [.box [(.str []), (.str []), .nils, .nils, .nils, .nils, (.int .i64 0), .nils, .nils, .nils, .nils, .nils]]) 12 (.ptr [PE.Obj.box p.c].length 0) (.agg (buildOf l).1.c) = some [PE.Obj.box p.c, .box (buildOf l).1.c] := storeV_last (sz := 12) rfl (TProof.len _) (TProof.scal _)
      have st2 : storeV ([PE.Obj.box p.c, .box (buildOf l).1.c] ++ [.box [(.str []), (.str []), .nils, .nils, .nils, .nils, (.int .i64 0), .nils, .nils, .nils, .nils, .nils]]) 12 (.ptr [PE.Obj.box p.c, .box (buildOf l).1.c].length 0) (.agg (buildOf l).1.c) = some [PE.Obj.box p.c, .box (buildOf l).1.c, .box (buildOf l).1.c] := storeV_last (sz := 12) rfl (TProof.len _) (TProof.scal _)
      have ld1 : loadV [PE.Obj.box p.c, .box (buildOf l).1.c, .box (buildOf l).1.c] true 12 (.ptr [PE.Obj.box p.c].length 0) = some (.agg (buildOf l).1.c) := load_all (sz := 12) rfl (TProof.len _)
      have ld2 : loadV [PE.Obj.box p.c, .box (buildOf l).1.c, .box (buildOf l).1.c] true 12 (.ptr [PE.Obj.box p.c, .box (buildOf l).1.c].length 0) = some (.agg (buildOf l).1.c) := load_all (sz := 12) rfl (TProof.len _)
      simp only [st1, Option.bind_some, call13 XI hf, extV_zero, extV_succ, st2, e33, guardR_yes, ld1, ld2, call14' XI _ _ bok bok, eqb_eq, not_bool, Bool.not_true, nthV_zero, nthV_succ, pickV_false, condK_false, len_enc]
      have el : evBin .eql .int (.int .i64 ((recordOf p).1.length : Nat)) (.int .i64 0) = some (.bool (decide ((recordOf p).1.length = 0))) := bin_eqlN _ _ _ 0
      simp only [el, Option.bind_some]
      cases hfit : fits p 2000 60
      · have : (recordOf p).1.length = 0 := by unfold recordOf; rw [if_neg (by simp [hfit])]; rfl
        simp only [decide_eq_true this, condK_true, fin3]
      · obtain ⟨b1, b2⟩ := build_record hfit
        have hr : (recordOf p).1 = (rec1 [] p).1 := by unfold recordOf; rw [if_pos hfit]
        have hfine : Fine (rec1 [] p).1 := rec1_fine p [] hz (fun s hs => by cases hs)
        rw [hr]
        have st3 : storeV ([PE.Obj.box p.c, .box (buildOf l).1.c, .box (buildOf l).1.c] ++ [.box [(.str []), (.str []), .nils, .nils, .nils, .nils, (.int .i64 0), .nils, .nils, .nils, .nils, .nils]]) 12 (.ptr [PE.Obj.box p.c, .box (buildOf l).1.c, .box (buildOf l).1.c].length 0) (.agg p.c) = some [PE.Obj.box p.c, .box (buildOf l).1.c, .box (buildOf l).1.c, .box p.c] := storeV_last (sz := 12) rfl (TProof.len _) (TProof.scal _)
        have ld3 : loadV [PE.Obj.box p.c, .box (buildOf l).1.c, .box (buildOf l).1.c, .box p.c] true 12 (.ptr 0 0) = some (.agg p.c) := load_all (sz := 12) rfl (TProof.len _)
        have ld4 : loadV [PE.Obj.box p.c, .box (buildOf l).1.c, .box (buildOf l).1.c, .box p.c] true 12 (.ptr [PE.Obj.box p.c, .box (buildOf l).1.c, .box (buildOf l).1.c].length 0) = some (.agg p.c) := load_all (sz := 12) rfl (TProof.len _)
        have e0 : evBin .eql .int (.int .i64 0) (.int .i64 0) = some (.bool true) := rfl
        simp only [decide_eq_false b2, condK_false, call12 XI hfine, b1, extV_zero, extV_succ, Option.bind_some, st3, e0, guardR_yes, ld3, ld4, call14' XI _ _ hp hp, call15'' XI _ _ hp hp, eqb_eq, nthV_zero, nthV_succ, pickV_true, fin3]
end Go.Proofs.YtkpbfldnickghaaDoor
