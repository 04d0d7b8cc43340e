/- Contracts: the reference's comparisons of polynomials, pairs, certificates, proofs. -/
import Derived.Test.YtkpbfldnickghaaDoorU10
set_option linter.unusedVariables false
set_option linter.unusedSimpArgs false
namespace Go.Proofs.YtkpbfldnickghaaDoor
open Go Go.PE
theorem L66b (X : Ext) (a b : TMono) (hb : Sm a.exps) (hl : a.exps.length = b.exps.length) (v3 v24 v25 v26 w : PV) (hw : evBin .add .int v26 (.int .i64 1) = some w) (σ : Heap) (ia ib : Nat) (h1 : σ[ia]? = some (.box a.c)) (h2 : σ[ib]? = some (.box b.c)) :
    L66_2 X v3 (.ptr ia 0) (.ptr ib 0) v24 v25 v26 (.int .i64 (a.exps.length : Nat)) (.int .i64 (0 : Nat)) σ = if eqb a.exps b.exps = true then L66_1 X v3 v24 v25 w σ else some [.bool false] := by
  unfold Sm at hb
  have e0 : ∀ m : TMono, loadP false 1 m.c = some (encL 1 cInt m.exps) := fun _ => rfl
  obtain ⟨k1, k2⟩ := all_loop (F := some [.bool false]) (T := fun τ => L66_1 X v3 v24 v25 w τ) (I := fun τ => τ = σ) (L := fun i τ => L66_2 X v3 (.ptr ia 0) (.ptr ib 0) v24 v25 v26 (.int .i64 (a.exps.length : Nat)) (.int .i64 (i : Nat)) τ) hl (by
    rintro τ rfl
    try simp only
    rw [L66_2_eq]
    simp [hw]) (by
    rintro i hi hi' τ rfl hc
    refine ⟨_, rfl, ?_⟩
    try simp only
    rw [L66_2_eq]
    simp [hi, hi', iaddr_enc, loadV_ptr h1, loadV_ptr h2, e0, cInt, hc, wrap_succ (show i < 9223372036854775807 by omega)]) (by
    rintro i hi hi' τ rfl hc
    try simp only
    rw [L66_2_eq]
    simp [hi, hi', iaddr_enc, loadV_ptr h1, loadV_ptr h2, e0, cInt, hc]
    rfl) rfl
  by_cases h : a.exps = b.exps
  · obtain ⟨τ, rfl, h3⟩ := k1 h
    rw [eqb_eq h, if_pos rfl]; exact h3
  · rw [eqb_ne h, if_neg (by simp)]; exact k2 h
theorem L66 (X : Ext) (p q : TPoly) (hp : p.ok) (hq : q.ok) (hl : p.terms.length = q.terms.length) (σ : Heap) (hσ : σ[1]? = some (.box q.c)) :
    L66_1 X (.ptr 1 0) (encL 4 TMono.c p.terms) (.int .i64 (p.terms.length : Nat)) (.int .i64 (0 : Nat)) σ = some [.bool (eqb p.terms q.terms)] := by
  have hb := hp.1
  unfold Sm at hb
  have d1 : List.drop 1 q.c = [encL 4 TMono.c q.terms] := rfl
  have e0 : ∀ m : TMono, loadP false 1 m.c = some (encL 1 cInt m.exps) := fun _ => rfl
  have e1 : ∀ m : TMono, List.drop 1 m.c = m.coef.c := fun _ => rfl
  refine all_loop_bool (I := fun σ => σ[1]? = some (.box q.c)) (L := fun i σ => L66_1 X (.ptr 1 0) (encL 4 TMono.c p.terms) (.int .i64 (p.terms.length : Nat)) (.int .i64 (i : Nat)) σ) hl ?_ ?_ ?_ hσ
  · intro σ hσ
    try simp only
    rw [L66_1_eq]
    simp
    rfl
  · intro i hi hi' σ hσ hc
    have hlt : 1 < σ.length := (List.getElem?_eq_some_iff.1 hσ).1
    have hm := hp.2 p.terms[i] (by simp)
    have hm' := hq.2 q.terms[i] (by simp)
    refine ⟨σ ++ [.box p.terms[i].c] ++ [.box q.terms[i].c], by rw [List.append_assoc, List.getElem?_append_left hlt]; exact hσ, ?_⟩
    try simp only
    rw [L66_1_eq]
    have hin := L66b X p.terms[i] q.terms[i] hm.1 (by rw [hc]) (.ptr 1 0) (encL 4 TMono.c p.terms) (.int .i64 (p.terms.length : Nat)) (.int .i64 (i : Nat)) (.int .i64 ((i + 1 : Nat) : Int)) (by simp [wrap_succ (show i < 9223372036854775807 by omega)]) (σ ++ [.box p.terms[i].c] ++ [.box q.terms[i].c]) σ.length (σ ++ [PE.Obj.box p.terms[i].c]).length (by simp) (by simp)
    rw [eqb_eq (by rw [hc]), if_pos rfl] at hin
    rw [← hin]
    simp only [bin_lss, iaddr_enc _ _ hi, iaddr_enc _ _ hi', Option.bind_some, loadV_cref, loadP_all (TMono.len _), loadP_all (TRat.len _), storeV_last (sz := 4) (cs := [.nils, .bool false, .nils, .nils]) rfl (TMono.len _) (TMono.scal _), faddrV_ptr, Nat.zero_add, loadV_last, loadV_prev (σ := σ) hlt, loadV_ptr hσ, two_last, List.drop_zero, d1, e0, e1, loadP_one, len_enc, hc, bin_neqN, call67 X _ _ hm'.2, eqb_eq, not_bool, Bool.not_true, decide_true, guardR_yes, nthV_zero, nthV_succ, pickV_false, condK_false]
    simp [hi]
  · intro i hi hi' σ hσ hc
    have hlt : 1 < σ.length := (List.getElem?_eq_some_iff.1 hσ).1
    have hm := hp.2 p.terms[i] (by simp)
    have hm' := hq.2 q.terms[i] (by simp)
    try simp only
    rw [L66_1_eq]
    by_cases h0 : p.terms[i].exps.length = q.terms[i].exps.length
    · by_cases h2 : p.terms[i].coef = q.terms[i].coef
      · have h1 : p.terms[i].exps ≠ q.terms[i].exps := fun h1 => hc (by
          generalize p.terms[i] = a at h1 h2
          generalize q.terms[i] = b at h1 h2
          cases a; cases b; simp_all)
        have hin := L66b X p.terms[i] q.terms[i] hm.1 h0 (.ptr 1 0) (encL 4 TMono.c p.terms) (.int .i64 (p.terms.length : Nat)) (.int .i64 (i : Nat)) (.int .i64 ((i + 1 : Nat) : Int)) (by simp [wrap_succ (show i < 9223372036854775807 by omega)]) (σ ++ [.box p.terms[i].c] ++ [.box q.terms[i].c]) σ.length (σ ++ [PE.Obj.box p.terms[i].c]).length (by simp) (by simp)
        rw [eqb_ne h1, if_neg (by simp)] at hin
        rw [← hin]
        simp only [bin_lss, iaddr_enc _ _ hi, iaddr_enc _ _ hi', Option.bind_some, loadV_cref, loadP_all (TMono.len _), loadP_all (TRat.len _), storeV_last (sz := 4) (cs := [.nils, .bool false, .nils, .nils]) rfl (TMono.len _) (TMono.scal _), faddrV_ptr, Nat.zero_add, loadV_last, loadV_prev (σ := σ) hlt, loadV_ptr hσ, two_last, List.drop_zero, d1, e0, e1, loadP_one, len_enc, h0, h2, bin_neqN, call67 X _ _ hm'.2, eqb_eq, not_bool, Bool.not_true, decide_true, guardR_yes, nthV_zero, nthV_succ, pickV_false, condK_false]
        simp [hi]
      · simp only [bin_lss, iaddr_enc _ _ hi, iaddr_enc _ _ hi', Option.bind_some, loadV_cref, loadP_all (TMono.len _), loadP_all (TRat.len _), storeV_last (sz := 4) (cs := [.nils, .bool false, .nils, .nils]) rfl (TMono.len _) (TMono.scal _), faddrV_ptr, Nat.zero_add, loadV_last, loadV_prev (σ := σ) hlt, loadV_ptr hσ, two_last, List.drop_zero, d1, e0, e1, loadP_one, len_enc, h0, bin_neqN, call67 X _ _ hm.2, eqb_ne h2, not_bool, Bool.not_true, Bool.not_false, decide_true, guardR_yes, nthV_zero, nthV_succ, pickV_false, condK_false, condK_true]
        simp [hi]
        rfl
    · simp only [bin_lss, iaddr_enc _ _ hi, iaddr_enc _ _ hi', Option.bind_some, loadV_cref, loadP_all (TMono.len _), loadP_all (TRat.len _), storeV_last (sz := 4) (cs := [.nils, .bool false, .nils, .nils]) rfl (TMono.len _) (TMono.scal _), faddrV_ptr, Nat.zero_add, loadV_last, loadV_prev (σ := σ) hlt, loadV_ptr hσ, two_last, List.drop_zero, d1, e0, e1, loadP_one, len_enc, h0, bin_neqN, not_bool, Bool.not_true, Bool.not_false, decide_false, guardR_tf, nthV_zero, nthV_succ, pickV_true, condK_true]
      simp [hi]
      rfl
theorem samePoly_ok (X : Ext) (p q : TPoly) (hp : p.ok) (hq : q.ok) : (Hw C X).pure 66 [.agg p.c, .agg q.c] = some [.bool (eqb p q)] := by
  have f0 : ∀ p : TPoly, loadP false 1 p.c = some (.int .i64 p.n) := fun _ => rfl
  have f1 : ∀ p : TPoly, List.drop 1 p.c = [encL 4 TMono.c p.terms] := fun _ => rfl
  rw [F66]
  by_cases h1 : p.n = q.n
  · by_cases h2 : p.terms.length = q.terms.length
    · have hL := L66 X p q hp hq h2 [.box p.c, .box q.c] rfl
      have : eqb p q = eqb p.terms q.terms := by
        obtain ⟨n, t⟩ := p
        obtain ⟨n', t'⟩ := q
        simp only at h1
        simp [eqb, h1]
      rw [this]
      simp [ld1, f0, f1, h1, h2]
      simpa [h2] using hL
    · have : p ≠ q := fun e => h2 (by rw [e])
      simp [ld1, f0, f1, h1, h2, eqb_ne this]
      rfl
  · have : p ≠ q := fun e => h1 (by rw [e])
    simp [ld1, f0, f1, h1, eqb_ne this]
    rfl
theorem call66 {R : Type} (X : Ext) (a b : TPoly) (ha : a.ok) (hb : b.ok) (σ : Heap) (pc : Bool) (k : PV → Heap → Option R) : callK C (Hw C X) σ pc (.fn 66 []) [.agg a.c, .agg b.c] k = k (.bool (eqb a b)) σ :=
  callK_pure C66 rfl (by simp only [pureL, PV.pure, TPoly.pure, Bool.and_self]) (by simp only [p66, canonA, canonV, TPoly.canon]) (samePoly_ok X a b ha hb)
theorem samePairs_ok (X : Ext) (xs ys : List TPair) (hx : Sm xs ∧ ∀ p ∈ xs, p.ok) (hy : Sm ys ∧ ∀ p ∈ ys, p.ok) : (Hw C X).pure 52 [encL 13 TPair.c xs, encL 13 TPair.c ys] = some [.bool (eqb xs ys)] := by
  obtain ⟨hb, hx⟩ := hx
  unfold Sm at hb
  rw [F52]
  by_cases hl : xs.length = ys.length
  · have hL : L52_1 X (encL 13 TPair.c xs) (encL 13 TPair.c ys) (.int .i64 (0 : Nat)) [] = some [.bool (eqb xs ys)] := by
      refine all_loop_bool (I := fun σ => True) (L := fun i σ => L52_1 X (encL 13 TPair.c xs) (encL 13 TPair.c ys) (.int .i64 (i : Nat)) σ) hl ?_ ?_ ?_ trivial
      · intro σ _
        try simp only
        rw [L52_1_eq]
        simp
        rfl
      · intro i hi hi' σ _ hc
        obtain ⟨k1, k2, k3⟩ := hx xs[i] (by simp)
        refine ⟨σ, trivial, ?_⟩
        try simp only
        rw [L52_1_eq]
        simp only [len_enc, bin_lss, iaddr_enc _ _ hi, iaddr_enc _ _ hi', Option.bind_some, faddrV_cref, loadV_cref, List.drop_zero, pa0, pa6, pa12, ← hc, call64 X _ _ k1 k1, call64 X _ _ k2 k2, call51 X _ _ k3 k3, eqb_eq, not_bool, Bool.not_true, guardR_yes, nthV_zero, nthV_succ, pickV_false, condK_false, bin_add, wrap_succ (show i < 9223372036854775807 by omega)]
        simp [hi]
      · intro i hi hi' σ _ hc
        obtain ⟨k1, k2, k3⟩ := hx xs[i] (by simp)
        obtain ⟨m1, m2, m3⟩ := hy.2 ys[i] (by simp)
        try simp only
        rw [L52_1_eq]
        by_cases h1 : xs[i].what = ys[i].what
        · by_cases h2 : xs[i].with_ = ys[i].with_
          · have h3 : xs[i].rates ≠ ys[i].rates := fun h3 => hc (by
              generalize xs[i] = a at h1 h2 h3
              generalize ys[i] = b at h1 h2 h3
              cases a; cases b; simp_all)
            simp only [len_enc, bin_lss, iaddr_enc _ _ hi, iaddr_enc _ _ hi', Option.bind_some, faddrV_cref, loadV_cref, List.drop_zero, pa0, pa6, pa12, call64 X _ _ k1 m1, call64 X _ _ k2 m2, call51 X _ _ k3 m3, not_bool, Bool.not_true, Bool.not_false, guardR_yes, guardR_tf, guardR_ft, nthV_zero, nthV_succ, pickV_false, pickV_true, condK_false, condK_true, eqb_eq h1, eqb_eq h2, eqb_ne h3]
            simp [hi]
            rfl
          · simp only [len_enc, bin_lss, iaddr_enc _ _ hi, iaddr_enc _ _ hi', Option.bind_some, faddrV_cref, loadV_cref, List.drop_zero, pa0, pa6, pa12, call64 X _ _ k1 m1, call64 X _ _ k2 m2, call51 X _ _ k3 m3, not_bool, Bool.not_true, Bool.not_false, guardR_yes, guardR_tf, guardR_ft, nthV_zero, nthV_succ, pickV_false, pickV_true, condK_false, condK_true, eqb_eq h1, eqb_ne h2]
            simp [hi]
            rfl
        · simp only [len_enc, bin_lss, iaddr_enc _ _ hi, iaddr_enc _ _ hi', Option.bind_some, faddrV_cref, loadV_cref, List.drop_zero, pa0, pa6, pa12, call64 X _ _ k1 m1, call64 X _ _ k2 m2, call51 X _ _ k3 m3, not_bool, Bool.not_true, Bool.not_false, guardR_yes, guardR_tf, guardR_ft, nthV_zero, nthV_succ, pickV_false, pickV_true, condK_false, condK_true, eqb_ne h1]
          simp [hi]
          rfl
    simp [hl]
    simpa [hl] using hL
  · have hne : xs ≠ ys := fun e => hl (by rw [e])
    simp [hl, eqb_ne hne]
    rfl
theorem call52 {R : Type} (X : Ext) (a b : List TPair) (ha : Sm a ∧ ∀ p ∈ a, p.ok) (hb : Sm b ∧ ∀ p ∈ b, p.ok) (σ : Heap) (pc : Bool) (k : PV → Heap → Option R) : callK C (Hw C X) σ pc (.fn 52 []) [encL 13 TPair.c a, encL 13 TPair.c b] k = k (.bool (eqb a b)) σ :=
  callK_pure C52 rfl (by simp only [pureL, encL_pure (fun x _ => TPair.pure x), Bool.and_self]) (by simp only [p52, canonA, canon_sl]) (samePairs_ok X a b ha hb)
theorem call54 {R : Type} (X : Ext) {a b : TCert} {r : Bool} (h : (Hw C X).pure 54 [.agg a.c, .agg b.c] = some [.bool r]) (σ : Heap) (pc : Bool) (k : PV → Heap → Option R) : callK C (Hw C X) σ pc (.fn 54 []) [.agg a.c, .agg b.c] k = k (.bool r) σ :=
  callK_pure C54 rfl (by simp only [pureL, PV.pure, TCert.pure, Bool.and_self]) (by simp only [p54, canonA, canonV, TCert.canon]) h
section
variable (X : Ext) {kind kind' : Int} {nums nums' : List TRat} {polys polys' : List TPoly} {squares squares' : List TSquare} {kids kids' : List TCert}
theorem L54a (hb : Sm kids) (hl : kids.length = kids'.length) (IH : ∀ x ∈ kids, ∀ y ∈ kids', (Hw C X).pure 54 [.agg x.c, .agg y.c] = some [.bool (eqb x y)]) :
    L54_1 X (.ptr 0 0) (.ptr 1 0) (.int .i64 (0 : Nat)) [.box (cc kind nums polys squares kids), .box (cc kind' nums' polys' squares' kids')] = some [.bool (eqb kids kids')] := by
  unfold Sm at hb
  refine all_loop_bool (I := fun σ => σ = [.box (cc kind nums polys squares kids), .box (cc kind' nums' polys' squares' kids')]) (L := fun i σ => L54_1 X (.ptr 0 0) (.ptr 1 0) (.int .i64 (i : Nat)) σ) hl ?_ ?_ ?_ rfl
  · rintro σ rfl
    try simp only
    rw [L54_1_eq]
    simp [cc]
    rfl
  · rintro i hi hi' σ rfl hc
    refine ⟨_, rfl, ?_⟩
    try simp only
    rw [L54_1_eq]
    simp [hi, hi', iaddr_enc, ld1, cc, loadP_all (TCert.len _), call54 X (IH _ (List.getElem_mem hi) _ (List.getElem_mem hi')), eqb_eq hc, wrap_succ (show i < 9223372036854775807 by omega)]
  · rintro i hi hi' σ rfl hc
    try simp only
    rw [L54_1_eq]
    simp [hi, hi', iaddr_enc, ld1, cc, loadP_all (TCert.len _), call54 X (IH _ (List.getElem_mem hi) _ (List.getElem_mem hi')), eqb_ne hc]
    rfl
theorem L54c (hb : Sm polys) (hl : polys.length = polys'.length) (h1 : ∀ p ∈ polys, p.ok) (h2 : ∀ p ∈ polys', p.ok) {r : Bool} (hT : J54_5 X (.ptr 0 0) (.ptr 1 0) [.box (cc kind nums polys squares kids), .box (cc kind' nums' polys' squares' kids')] = some [.bool r]) :
    L54_4 X (.ptr 0 0) (.ptr 1 0) (.int .i64 (0 : Nat)) [.box (cc kind nums polys squares kids), .box (cc kind' nums' polys' squares' kids')] = some [.bool (eqb polys polys' && r)] := by
  unfold Sm at hb
  obtain ⟨k1, k2⟩ := all_loop (F := some [.bool false]) (T := fun _ => some [.bool r]) (I := fun σ => σ = [.box (cc kind nums polys squares kids), .box (cc kind' nums' polys' squares' kids')]) (L := fun i σ => L54_4 X (.ptr 0 0) (.ptr 1 0) (.int .i64 (i : Nat)) σ) hl (by
    rintro σ rfl
    try simp only
    rw [L54_4_eq]
    simp [cc] at hT ⊢
    exact hT) (by
    rintro i hi hi' σ rfl hc
    refine ⟨_, rfl, ?_⟩
    try simp only
    rw [L54_4_eq]
    simp [hi, hi', iaddr_enc, ld1, cc, loadP_all (TPoly.len _), call66 X _ _ (h1 _ (List.getElem_mem hi)) (h2 _ (List.getElem_mem hi')), eqb_eq hc, wrap_succ (show i < 9223372036854775807 by omega)]) (by
    rintro i hi hi' σ rfl hc
    try simp only
    rw [L54_4_eq]
    simp [hi, hi', iaddr_enc, ld1, cc, loadP_all (TPoly.len _), call66 X _ _ (h1 _ (List.getElem_mem hi)) (h2 _ (List.getElem_mem hi')), eqb_ne hc]
    rfl) rfl
  by_cases h : polys = polys'
  · obtain ⟨_, _, h3⟩ := k1 h
    rw [eqb_eq h, Bool.true_and]; exact h3
  · rw [eqb_ne h]; exact k2 h
theorem L54b (hb : Sm squares) (hl : squares.length = squares'.length) (h1 : ∀ p ∈ squares, p.ok) (h2 : ∀ p ∈ squares', p.ok) {r : Bool} (hT : J54_3 X (.ptr 0 0) (.ptr 1 0) [.box (cc kind nums polys squares kids), .box (cc kind' nums' polys' squares' kids')] = some [.bool r]) :
    L54_2 X (.ptr 0 0) (.ptr 1 0) (.int .i64 (0 : Nat)) [.box (cc kind nums polys squares kids), .box (cc kind' nums' polys' squares' kids')] = some [.bool (eqb squares squares' && r)] := by
  unfold Sm at hb
  obtain ⟨k1, k2⟩ := all_loop (F := some [.bool false]) (T := fun _ => some [.bool r]) (I := fun σ => σ = [.box (cc kind nums polys squares kids), .box (cc kind' nums' polys' squares' kids')]) (L := fun i σ => L54_2 X (.ptr 0 0) (.ptr 1 0) (.int .i64 (i : Nat)) σ) hl (by
    rintro σ rfl
    try simp only
    rw [L54_2_eq]
    simp [cc] at hT ⊢
    exact hT) (by
    rintro i hi hi' σ rfl hc
    refine ⟨_, rfl, ?_⟩
    try simp only
    rw [L54_2_eq]
    simp [hi, hi', iaddr_enc, ld1, cc, sq0, sq3, call67 X _ _ (h2 _ (List.getElem_mem hi')).1, call66 X _ _ (h2 _ (List.getElem_mem hi')).2 (h2 _ (List.getElem_mem hi')).2, hc, eqb_eq, wrap_succ (show i < 9223372036854775807 by omega)]) (by
    rintro i hi hi' σ rfl hc
    try simp only
    rw [L54_2_eq]
    by_cases hw : squares[i].weight = squares'[i].weight
    · have hp : squares[i].poly ≠ squares'[i].poly := fun hp => hc (by
        generalize squares[i] = a at hw hp
        generalize squares'[i] = b at hw hp
        cases a; cases b; simp_all)
      simp [hi, hi', iaddr_enc, ld1, cc, sq0, sq3, call67 X _ _ (h1 _ (List.getElem_mem hi)).1, call66 X _ _ (h1 _ (List.getElem_mem hi)).2 (h2 _ (List.getElem_mem hi')).2, eqb_eq hw, eqb_ne hp]
      rfl
    · simp [hi, hi', iaddr_enc, ld1, cc, sq0, sq3, call67 X _ _ (h1 _ (List.getElem_mem hi)).1, eqb_ne hw]
      rfl) rfl
  by_cases h : squares = squares'
  · obtain ⟨_, _, h3⟩ := k1 h
    rw [eqb_eq h, Bool.true_and]; exact h3
  · rw [eqb_ne h]; exact k2 h
end
theorem sameCert_ok (X : Ext) : ∀ (a b : TCert), a.ok → b.ok → (Hw C X).pure 54 [.agg a.c, .agg b.c] = some [.bool (eqb a b)]
  | .mk kind nums polys squares kids, .mk kind' nums' polys' squares' kids', ha, hb => by
    obtain ⟨⟨a1, a1'⟩, ⟨a2, a2'⟩, ⟨a3, a3'⟩, a4, a4'⟩ := ha
    obtain ⟨⟨b1, b1'⟩, ⟨b2, b2'⟩, ⟨b3, b3'⟩, b4, b4'⟩ := hb
    rw [TCert.oks_iff] at a4' b4'
    have IH : ∀ x ∈ kids, ∀ y ∈ kids', (Hw C X).pure 54 [.agg x.c, .agg y.c] = some [.bool (eqb x y)] := fun x hx y hy => by
      have := List.sizeOf_lt_of_mem hx
      exact sameCert_ok X x y (a4' x hx) (b4' y hy)
    have w65 := fun σ pc (k : PV → Heap → Option (List PV × Heap)) => call65 X nums nums' ⟨a1, a1'⟩ σ pc k
    rw [F54, cc_eq, cc_eq]
    by_cases h1 : kind = kind'
    · by_cases h2 : nums = nums'
      · by_cases h3 : polys.length = polys'.length
        · by_cases h4 : squares.length = squares'.length
          · by_cases h5 : kids.length = kids'.length
            · have k1 := L54a X (kind := kind) (kind' := kind') (nums := nums) (nums' := nums') (polys := polys) (polys' := polys') (squares := squares) (squares' := squares') a4 h5 IH
              have j1 : J54_3 X (.ptr 0 0) (.ptr 1 0) [.box (cc kind nums polys squares kids), .box (cc kind' nums' polys' squares' kids')] = some [.bool (eqb kids kids')] := by
                rw [J54_3_eq]; simp [cc] at k1 ⊢; exact k1
              have k2 := L54b X a3 h4 a3' b3' j1
              have j2 : J54_5 X (.ptr 0 0) (.ptr 1 0) [.box (cc kind nums polys squares kids), .box (cc kind' nums' polys' squares' kids')] = some [.bool (eqb squares squares' && eqb kids kids')] := by
                rw [J54_5_eq]; simp [cc] at k2 ⊢; exact k2
              have k3 := L54c X a2 h3 a2' b2' j2
              have : eqb (TCert.mk kind nums polys squares kids) (TCert.mk kind' nums' polys' squares' kids') = (eqb polys polys' && (eqb squares squares' && eqb kids kids')) := by
                rw [Bool.eq_iff_iff]
                simp only [eqb_iff, Bool.and_eq_true, TCert.mk.injEq, h1, h2, true_and]
              rw [this]
              simp [cc, ld1, w65, h1, eqb_eq h2, h3, h4, h5] at k3 ⊢
              exact k3
            · rw [eqb_ne (fun e => h5 (by simp only [TCert.mk.injEq] at e; rw [e.2.2.2.2]))]
              simp [cc, ld1, w65, h1, eqb_eq h2, h3, h4, h5]
              rfl
          · rw [eqb_ne (fun e => h4 (by simp only [TCert.mk.injEq] at e; rw [e.2.2.2.1]))]
            simp [cc, ld1, w65, h1, eqb_eq h2, h3, h4]
            rfl
        · rw [eqb_ne (fun e => h3 (by simp only [TCert.mk.injEq] at e; rw [e.2.2.1]))]
          simp [cc, ld1, w65, h1, eqb_eq h2, h3]
          rfl
      · rw [eqb_ne (fun e => h2 (by simp only [TCert.mk.injEq] at e; rw [e.2.1]))]
        simp [cc, ld1, w65, h1, eqb_ne h2]
        rfl
    · rw [eqb_ne (fun e => h1 (by simp only [TCert.mk.injEq] at e; exact e.1))]
      simp [cc, ld1, h1]
      rfl
termination_by a => SizeOf.sizeOf a
theorem call54' {R : Type} (X : Ext) (a b : TCert) (ha : a.ok) (hb : b.ok) (σ : Heap) (pc : Bool) (k : PV → Heap → Option R) : callK C (Hw C X) σ pc (.fn 54 []) [.agg a.c, .agg b.c] k = k (.bool (eqb a b)) σ := call54 X (sameCert_ok X a b ha hb) σ pc k
theorem sameNode_ok (X : Ext) (a b : TProof) (ha : a.ok) (hb : b.ok) : (Hw C X).pure 35 [.agg a.c, .agg b.c] = some [.bool (eqb (bareOf a) (bareOf b))] := by
  have A := bare_ok_of ha
  have B := bare_ok_of hb
  have key : eqb (bareOf a) (bareOf b) = (eqb (bareOf a).rule (bareOf b).rule && (eqb (bareOf a).name (bareOf b).name && (eqb (bareOf a).forms (bareOf b).forms && (eqb (bareOf a).subst (bareOf b).subst && (eqb (bareOf a).path (bareOf b).path && (eqb (bareOf a).args (bareOf b).args && eqb (bareOf a).cert (bareOf b).cert)))))) := by
    rw [Bool.eq_iff_iff]
    simp only [eqb_iff, Bool.and_eq_true]
    generalize bareOf a = u
    generalize bareOf b = v
    cases u; cases v
    simp only [Bare.mk.injEq]
  rw [F35, key]
  have c1 := fun σ pc (k : PV → Heap → Option (List PV × Heap)) => call51 X _ _ A.forms B.forms σ pc k
  have c2 := fun σ pc (k : PV → Heap → Option (List PV × Heap)) => call52 X _ _ A.subst B.subst σ pc k
  have c3 := fun σ pc (k : PV → Heap → Option (List PV × Heap)) => call53 X (bareOf a).path (bareOf b).path A.path σ pc k
  have c4 := fun σ pc (k : PV → Heap → Option (List PV × Heap)) => call18 X (bareOf a).args (bareOf b).args A.args σ pc k
  have c5 := fun σ pc (k : PV → Heap → Option (List PV × Heap)) => call54' X _ _ A.cert B.cert σ pc k
  by_cases h1 : (bareOf a).rule = (bareOf b).rule
  · by_cases h2 : (bareOf a).name = (bareOf b).name
    · simp [ld1, pr0, pr1, pr1', pr2, pr3, pr4, pr5, pr6, h1, h2, eqb_eq, c1]
      cases eqb (bareOf a).forms (bareOf b).forms
      · simp; rfl
      · simp [ld1, pr3, c2]
        cases eqb (bareOf a).subst (bareOf b).subst
        · simp; rfl
        · simp [ld1, pr4, c3]
          cases eqb (bareOf a).path (bareOf b).path
          · simp; rfl
          · simp [ld1, pr5, c4]
            cases eqb (bareOf a).args (bareOf b).args
            · simp; rfl
            · simp [ld1, pr6, c5]
              cases eqb (bareOf a).cert (bareOf b).cert <;> rfl
    · simp [ld1, pr0, pr1, pr1', h1, h2, eqb_eq, eqb_ne h2]
      rfl
  · simp [ld1, pr0, h1, eqb_ne h1]
    rfl
theorem call35 {R : Type} (X : Ext) (a b : TProof) (ha : a.ok) (hb : b.ok) (σ : Heap) (pc : Bool) (k : PV → Heap → Option R) : callK C (Hw C X) σ pc (.fn 35 []) [.agg a.c, .agg b.c] k = k (.bool (eqb (bareOf a) (bareOf b))) σ :=
  callK_pure C35 rfl (by simp only [pureL, PV.pure, TProof.pure, Bool.and_self]) (by simp only [p35, canonA, canonV, TProof.canon]) (sameNode_ok X a b ha hb)
theorem call14 {R : Type} (X : Ext) {a b : TProof} {r : Bool} (h : (Hw C X).pure 14 [.agg a.c, .agg b.c] = some [.bool r]) (σ : Heap) (pc : Bool) (k : PV → Heap → Option R) : callK C (Hw C X) σ pc (.fn 14 []) [.agg a.c, .agg b.c] k = k (.bool r) σ :=
  callK_pure C14 rfl (by simp only [pureL, PV.pure, TProof.pure, Bool.and_self]) (by simp only [p14, canonA, canonV, TProof.canon]) h
theorem L14 (X : Ext) (a b : TProof) (hb : Sm (kidsOf a)) (hl : (kidsOf a).length = (kidsOf b).length) (IH : ∀ x ∈ kidsOf a, ∀ y ∈ kidsOf b, (Hw C X).pure 14 [.agg x.c, .agg y.c] = some [.bool (eqb x y)]) :
    L14_1 X (.ptr 0 0) (.ptr 1 0) (.int .i64 (0 : Nat)) [.box a.c, .box b.c] = some [.bool (eqb (kidsOf a) (kidsOf b))] := by
  unfold Sm at hb
  refine all_loop_bool (I := fun σ => σ = [.box a.c, .box b.c]) (L := fun i σ => L14_1 X (.ptr 0 0) (.ptr 1 0) (.int .i64 (i : Nat)) σ) hl ?_ ?_ ?_ rfl
  · rintro σ rfl
    try simp only
    rw [L14_1_eq]
    simp [pr11]
    rfl
  · rintro i hi hi' σ rfl hc
    refine ⟨_, rfl, ?_⟩
    try simp only
    rw [L14_1_eq]
    simp [hi, hi', iaddr_enc, ld1, pr11, loadP_all (TProof.len _), call14 X (IH _ (List.getElem_mem hi) _ (List.getElem_mem hi')), eqb_eq hc, wrap_succ (show i < 9223372036854775807 by omega)]
  · rintro i hi hi' σ rfl hc
    try simp only
    rw [L14_1_eq]
    simp [hi, hi', iaddr_enc, ld1, pr11, loadP_all (TProof.len _), call14 X (IH _ (List.getElem_mem hi) _ (List.getElem_mem hi')), eqb_ne hc]
    rfl
theorem same_ok (X : Ext) (a b : TProof) (ha : a.ok) (hb : b.ok) : (Hw C X).pure 14 [.agg a.c, .agg b.c] = some [.bool (eqb a b)] := by
  have A := kids_ok_of ha
  have B := kids_ok_of hb
  have IH : ∀ x ∈ kidsOf a, ∀ y ∈ kidsOf b, (Hw C X).pure 14 [.agg x.c, .agg y.c] = some [.bool (eqb x y)] := fun x hx y hy => by
    have := kids_size hx
    exact same_ok X x y (A.2 x hx) (B.2 y hy)
  rw [F14]
  by_cases h1 : bareOf a = bareOf b
  · by_cases h2 : (kidsOf a).length = (kidsOf b).length
    · have hL := L14 X a b A.1 h2 IH
      have : eqb a b = eqb (kidsOf a) (kidsOf b) := by
        rw [Bool.eq_iff_iff]
        simp only [eqb_iff, proof_eq, h1, true_and]
      rw [this]
      simp [ld1, loadP_all (TProof.len _), call35 X a b ha hb, eqb_eq h1, pr11, h2] at hL ⊢
      exact hL
    · rw [eqb_ne (fun e => h2 (by rw [e]))]
      simp [ld1, loadP_all (TProof.len _), call35 X a b ha hb, eqb_eq h1, pr11, h2]
      rfl
  · rw [eqb_ne (fun e => h1 (by rw [e]))]
    simp [ld1, loadP_all (TProof.len _), call35 X a b ha hb, eqb_ne h1]
    rfl
termination_by SizeOf.sizeOf a
end Go.Proofs.YtkpbfldnickghaaDoor
