/- Contracts: certificates. -/
import Derived.Test.YtkpbfldnickghaaDoorU6
set_option linter.unusedVariables false
set_option linter.unusedSimpArgs false
namespace Go.Proofs.YtkpbfldnickghaaDoor
open Go Go.PE
theorem cd1 (kind : Int) (nums : List TRat) (polys : List TPoly) (squares : List TSquare) (kids : List TCert) : List.drop 1 (TCert.mk kind nums polys squares kids).c = [encL 3 TRat.c nums, encL 2 TPoly.c polys, encL 5 TSquare.c squares, encL 5 TCert.c kids] := by rw [TCert.c_eq]; rfl
theorem call48 {R : Type} (X : Ext) {a b : TCert} {r : Bool} (h : (Hw C X).pure 48 [.agg a.c, .agg b.c] = some [.bool r]) (σ : Heap) (pc : Bool) (k : PV → Heap → Option R) : callK C (Hw C X) σ pc (.fn 48 []) [.agg a.c, .agg b.c] k = k (.bool r) σ :=
  callK_pure C48 rfl (by simp only [pureL, PV.pure, TCert.pure, Bool.and_self]) (by simp only [p48, canonA, canonV, TCert.canon]) h
/-- The cells of a certificate. -/
def cc (kind : Int) (nums : List TRat) (polys : List TPoly) (squares : List TSquare) (kids : List TCert) : List PV := [.int .i64 kind, encL 3 TRat.c nums, encL 2 TPoly.c polys, encL 5 TSquare.c squares, encL 5 TCert.c kids]
section
variable (X : Ext) {kind kind' : Int} {nums nums' : List TRat} {polys polys' : List TPoly} {squares squares' : List TSquare} {kids kids' : List TCert}
theorem L48a (hb : Sm kids) (hl : kids.length = kids'.length) (IH : ∀ x ∈ kids, ∀ y ∈ kids', (Hw C X).pure 48 [.agg x.c, .agg y.c] = some [.bool (eqb x y)]) :
    L48_1 X (.ptr 0 0) (.ptr 1 0) (.int .i64 (kids.length : Nat)) (.int .i64 (0 : Nat)) [.box (cc kind nums polys squares kids), .box (cc kind' nums' polys' squares' kids')] = some [.bool (eqb kids kids')] := by
  unfold Sm at hb
  refine all_loop_bool (I := fun σ => σ = [.box (cc kind nums polys squares kids), .box (cc kind' nums' polys' squares' kids')]) (L := fun i σ => L48_1 X (.ptr 0 0) (.ptr 1 0) (.int .i64 (kids.length : Nat)) (.int .i64 (i : Nat)) σ) hl ?_ ?_ ?_ rfl
  · rintro σ rfl
    try simp only
    rw [L48_1_eq]
    simp
    rfl
  · rintro i hi hi' σ rfl hc
    refine ⟨_, rfl, ?_⟩
    try simp only
    rw [L48_1_eq]
    simp [hi, hi', iaddr_enc, ld1, cc, loadP_all (TCert.len _), call48 X (IH _ (List.getElem_mem hi) _ (List.getElem_mem hi')), eqb_eq hc, wrap_succ (show i < 9223372036854775807 by omega)]
  · rintro i hi hi' σ rfl hc
    try simp only
    rw [L48_1_eq]
    simp [hi, hi', iaddr_enc, ld1, cc, loadP_all (TCert.len _), call48 X (IH _ (List.getElem_mem hi) _ (List.getElem_mem hi')), eqb_ne hc]
    rfl
theorem L48c (hb : Sm polys) (hl : polys.length = polys'.length) (h1 : ∀ p ∈ polys, p.ok) (h2 : ∀ p ∈ polys', p.ok) {r : Bool} (hT : J48_5 X (.ptr 0 0) (.ptr 1 0) [.box (cc kind nums polys squares kids), .box (cc kind' nums' polys' squares' kids')] = some [.bool r]) :
    L48_4 X (.ptr 0 0) (.ptr 1 0) (.int .i64 (polys.length : Nat)) (.int .i64 (0 : Nat)) [.box (cc kind nums polys squares kids), .box (cc kind' nums' polys' squares' kids')] = some [.bool (eqb polys polys' && r)] := by
  unfold Sm at hb
  obtain ⟨k1, k2⟩ := all_loop (F := some [.bool false]) (T := fun _ => some [.bool r]) (I := fun σ => σ = [.box (cc kind nums polys squares kids), .box (cc kind' nums' polys' squares' kids')]) (L := fun i σ => L48_4 X (.ptr 0 0) (.ptr 1 0) (.int .i64 (polys.length : Nat)) (.int .i64 (i : Nat)) σ) hl (by
    rintro σ rfl
    try simp only
    rw [L48_4_eq]
    simp [hT]) (by
    rintro i hi hi' σ rfl hc
    refine ⟨_, rfl, ?_⟩
    try simp only
    rw [L48_4_eq]
    simp [hi, hi', iaddr_enc, ld1, cc, loadP_all (TPoly.len _), call63 X _ _ (h1 _ (List.getElem_mem hi)) (h2 _ (List.getElem_mem hi')), eqb_eq hc, wrap_succ (show i < 9223372036854775807 by omega)]) (by
    rintro i hi hi' σ rfl hc
    try simp only
    rw [L48_4_eq]
    simp [hi, hi', iaddr_enc, ld1, cc, loadP_all (TPoly.len _), call63 X _ _ (h1 _ (List.getElem_mem hi)) (h2 _ (List.getElem_mem hi')), eqb_ne hc]
    rfl) rfl
  by_cases h : polys = polys'
  · obtain ⟨_, _, h3⟩ := k1 h
    rw [eqb_eq h, Bool.true_and]; exact h3
  · rw [eqb_ne h]; exact k2 h
theorem L48d (hb : Sm nums) (hl : nums.length = nums'.length) (h1 : ∀ p ∈ nums, p.ok) (h2 : ∀ p ∈ nums', p.ok) {r : Bool} (hT : J48_7 X (.ptr 0 0) (.ptr 1 0) [.box (cc kind nums polys squares kids), .box (cc kind' nums' polys' squares' kids')] = some [.bool r]) :
    L48_6 X (.ptr 0 0) (.ptr 1 0) (.int .i64 (nums.length : Nat)) (.int .i64 (0 : Nat)) [.box (cc kind nums polys squares kids), .box (cc kind' nums' polys' squares' kids')] = some [.bool (eqb nums nums' && r)] := by
  unfold Sm at hb
  obtain ⟨k1, k2⟩ := all_loop (F := some [.bool false]) (T := fun _ => some [.bool r]) (I := fun σ => σ = [.box (cc kind nums polys squares kids), .box (cc kind' nums' polys' squares' kids')]) (L := fun i σ => L48_6 X (.ptr 0 0) (.ptr 1 0) (.int .i64 (nums.length : Nat)) (.int .i64 (i : Nat)) σ) hl (by
    rintro σ rfl
    try simp only
    rw [L48_6_eq]
    simp [hT]) (by
    rintro i hi hi' σ rfl hc
    refine ⟨_, rfl, ?_⟩
    try simp only
    rw [L48_6_eq]
    simp [hi, hi', iaddr_enc, ld1, cc, loadP_all (TRat.len _), call62 X _ _ (h1 _ (List.getElem_mem hi)) (h2 _ (List.getElem_mem hi')), eqb_eq hc, wrap_succ (show i < 9223372036854775807 by omega)]) (by
    rintro i hi hi' σ rfl hc
    try simp only
    rw [L48_6_eq]
    simp [hi, hi', iaddr_enc, ld1, cc, loadP_all (TRat.len _), call62 X _ _ (h1 _ (List.getElem_mem hi)) (h2 _ (List.getElem_mem hi')), eqb_ne hc]
    rfl) rfl
  by_cases h : nums = nums'
  · obtain ⟨_, _, h3⟩ := k1 h
    rw [eqb_eq h, Bool.true_and]; exact h3
  · rw [eqb_ne h]; exact k2 h
theorem sq0 (s : TSquare) : loadP true 3 s.c = some (.agg s.weight.c) := rfl
theorem sq3 (s : TSquare) : loadP true 2 (s.c.drop 3) = some (.agg s.poly.c) := rfl
theorem L48b (hb : Sm squares) (hl : squares.length = squares'.length) (h1 : ∀ p ∈ squares, p.ok) (h2 : ∀ p ∈ squares', p.ok) {r : Bool} (hT : J48_3 X (.ptr 0 0) (.ptr 1 0) [.box (cc kind nums polys squares kids), .box (cc kind' nums' polys' squares' kids')] = some [.bool r]) :
    L48_2 X (.ptr 0 0) (.ptr 1 0) (.int .i64 (squares.length : Nat)) (.int .i64 (0 : Nat)) [.box (cc kind nums polys squares kids), .box (cc kind' nums' polys' squares' kids')] = some [.bool (eqb squares squares' && r)] := by
  unfold Sm at hb
  obtain ⟨k1, k2⟩ := all_loop (F := some [.bool false]) (T := fun _ => some [.bool r]) (I := fun σ => σ = [.box (cc kind nums polys squares kids), .box (cc kind' nums' polys' squares' kids')]) (L := fun i σ => L48_2 X (.ptr 0 0) (.ptr 1 0) (.int .i64 (squares.length : Nat)) (.int .i64 (i : Nat)) σ) hl (by
    rintro σ rfl
    try simp only
    rw [L48_2_eq]
    simp [hT]) (by
    rintro i hi hi' σ rfl hc
    refine ⟨_, rfl, ?_⟩
    try simp only
    rw [L48_2_eq]
    simp [hi, hi', iaddr_enc, ld1, cc, sq0, sq3, call62 X _ _ (h2 _ (List.getElem_mem hi')).1 (h2 _ (List.getElem_mem hi')).1, call63 X _ _ (h2 _ (List.getElem_mem hi')).2 (h2 _ (List.getElem_mem hi')).2, hc, eqb_eq, wrap_succ (show i < 9223372036854775807 by omega)]) (by
    rintro i hi hi' σ rfl hc
    try simp only
    rw [L48_2_eq]
    by_cases hw : squares[i].weight = squares'[i].weight
    · have hp : squares[i].poly ≠ squares'[i].poly := fun hp => hc (by
        generalize squares[i] = a at hw hp
        generalize squares'[i] = b at hw hp
        cases a; cases b; simp_all)
      simp [hi, hi', iaddr_enc, ld1, cc, sq0, sq3, call62 X _ _ (h1 _ (List.getElem_mem hi)).1 (h2 _ (List.getElem_mem hi')).1, call63 X _ _ (h1 _ (List.getElem_mem hi)).2 (h2 _ (List.getElem_mem hi')).2, eqb_eq hw, eqb_ne hp]
      rfl
    · simp [hi, hi', iaddr_enc, ld1, cc, sq0, sq3, call62 X _ _ (h1 _ (List.getElem_mem hi)).1 (h2 _ (List.getElem_mem hi')).1, eqb_ne hw]
      rfl) rfl
  by_cases h : squares = squares'
  · obtain ⟨_, _, h3⟩ := k1 h
    rw [eqb_eq h, Bool.true_and]; exact h3
  · rw [eqb_ne h]; exact k2 h
end
theorem cc_eq (kind : Int) (nums : List TRat) (polys : List TPoly) (squares : List TSquare) (kids : List TCert) : (TCert.mk kind nums polys squares kids).c = cc kind nums polys squares kids := by rw [TCert.c_eq]; rfl
theorem certs_ok (X : Ext) : ∀ (a b : TCert), a.ok → b.ok → (Hw C X).pure 48 [.agg a.c, .agg b.c] = some [.bool (eqb a b)]
  | .mk kind nums polys squares kids, .mk kind' nums' polys' squares' kids', ha, hb => by
    obtain ⟨⟨a1, a1'⟩, ⟨a2, a2'⟩, ⟨a3, a3'⟩, a4, a4'⟩ := ha
    obtain ⟨⟨b1, b1'⟩, ⟨b2, b2'⟩, ⟨b3, b3'⟩, b4, b4'⟩ := hb
    rw [TCert.oks_iff] at a4' b4'
    have IH : ∀ x ∈ kids, ∀ y ∈ kids', (Hw C X).pure 48 [.agg x.c, .agg y.c] = some [.bool (eqb x y)] := fun x hx y hy => by
      have := List.sizeOf_lt_of_mem hx
      exact certs_ok X x y (a4' x hx) (b4' y hy)
    rw [F48, cc_eq, cc_eq]
    by_cases h1 : kind = kind'
    · by_cases h2 : nums.length = nums'.length
      · by_cases h3 : polys.length = polys'.length
        · by_cases h4 : squares.length = squares'.length
          · by_cases h5 : kids.length = kids'.length
            · have k1 := L48a X (kind := kind) (kind' := kind') (nums := nums) (nums' := nums') (polys := polys) (polys' := polys') (squares := squares) (squares' := squares') a4 h5 IH
              have j1 : J48_3 X (.ptr 0 0) (.ptr 1 0) [.box (cc kind nums polys squares kids), .box (cc kind' nums' polys' squares' kids')] = some [.bool (eqb kids kids')] := by
                rw [J48_3_eq]; simp [cc] at k1 ⊢; exact k1
              have k2 := L48b X a3 h4 a3' b3' j1
              have j2 : J48_5 X (.ptr 0 0) (.ptr 1 0) [.box (cc kind nums polys squares kids), .box (cc kind' nums' polys' squares' kids')] = some [.bool (eqb squares squares' && eqb kids kids')] := by
                rw [J48_5_eq]; simp [cc] at k2 ⊢; exact k2
              have k3 := L48c X a2 h3 a2' b2' j2
              have j3 : J48_7 X (.ptr 0 0) (.ptr 1 0) [.box (cc kind nums polys squares kids), .box (cc kind' nums' polys' squares' kids')] = some [.bool (eqb polys polys' && (eqb squares squares' && eqb kids kids'))] := by
                rw [J48_7_eq]; simp [cc] at k3 ⊢; exact k3
              have k4 := L48d X a1 h2 a1' b1' j3
              have : eqb (TCert.mk kind nums polys squares kids) (TCert.mk kind' nums' polys' squares' kids') = (eqb nums nums' && (eqb polys polys' && (eqb squares squares' && eqb kids kids'))) := by
                rw [Bool.eq_iff_iff]
                simp only [eqb_iff, Bool.and_eq_true, TCert.mk.injEq, h1, true_and]
              rw [this]
              simp [cc, ld1, h1, h2, h3, h4, h5] at k4 ⊢
              exact k4
            · rw [eqb_ne (fun e => h5 (by simp only [TCert.mk.injEq] at e; rw [e.2.2.2.2]))]
              simp [cc, ld1, h1, h2, h3, h4, h5]
              rfl
          · rw [eqb_ne (fun e => h4 (by simp only [TCert.mk.injEq] at e; rw [e.2.2.2.1]))]
            simp [cc, ld1, h1, h2, h3, h4]
            rfl
        · rw [eqb_ne (fun e => h3 (by simp only [TCert.mk.injEq] at e; rw [e.2.2.1]))]
          simp [cc, ld1, h1, h2, h3]
          rfl
      · rw [eqb_ne (fun e => h2 (by simp only [TCert.mk.injEq] at e; rw [e.2.1]))]
        simp [cc, ld1, h1, h2]
        rfl
    · rw [eqb_ne (fun e => h1 (by simp only [TCert.mk.injEq] at e; exact e.1))]
      simp [cc, ld1, h1]
      rfl
termination_by a => SizeOf.sizeOf a
end Go.Proofs.YtkpbfldnickghaaDoor
