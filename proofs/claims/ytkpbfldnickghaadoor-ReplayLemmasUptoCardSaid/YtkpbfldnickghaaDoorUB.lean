/- U13, U14, U15, U16, U17 of the seat, in one text. -/
import Derived.Test.YtkpbfldnickghaaDoorUA
import Derived.Test.YtkpbfldnickghaaDoorPEt
import Derived.Test.YtkpbfldnickghaaDoorPEq
import Derived.Test.YtkpbfldnickghaaDoorPEu
set_option linter.unusedVariables false
set_option linter.unusedSimpArgs false
namespace Go.Proofs.YtkpbfldnickghaaDoor
open Go Go.PE
/-- Small enough for any memory. -/
abbrev lim : Nat := 1073741824
theorem szs_len : ∀ (l : List TNode), l.length ≤ (l.map TNode.sz).sum
  | [] => by simp
  | n :: r => by
    have := szs_len r
    have h1 : 1 ≤ n.sz := by cases n; simp only [TNode.sz]; omega
    simp only [List.length_cons, List.map_cons, List.sum_cons]
    omega
theorem sum_mem_le {α : Type} {f : α → Nat} : ∀ {l : List α} {x : α}, x ∈ l → f x ≤ (l.map f).sum
  | a :: l, x, h => by
    rcases List.mem_cons.1 h with rfl | h
    · simp
    · have := sum_mem_le (f := f) h; simp; omega
theorem load_box {σ : Heap} {id : Nat} {cs : List PV} (h : σ[id]? = some (.box cs)) {off : Nat} {v : PV} (hv : cs[off]? = some v) : loadV σ false 1 (.ptr id off) = some v := by
  rw [loadV_ptr h]
  simp [loadP, hv]
theorem load_all {σ : Heap} {id sz : Nat} {cs : List PV} (h : σ[id]? = some (.box cs)) (hl : cs.length = sz) : loadV σ true sz (.ptr id 0) = some (.agg cs) := by
  rw [loadV_ptr h, List.drop_zero, loadP_all hl]
def z6 : List PV := [(.int .i64 0), (.str []), (.bool false), .nils, .nils, .nils]
theorem L43 (X : Ext) (kids : List TNode) (hb : kids.length < lim) (ho : ∀ k ∈ kids, (Hw C X).pure 43 [.agg k.c] = some [.agg k.c]) (c0 c1 c2 a b : PV) (τ : Heap) (z : List PV) (hz : z.length = 6) (h1 : τ[1]? = some (.box z)) (h2 : τ[2]? = some (.box [c0, c1, c2, a, b, .nils]))
    {Q : Option (List PV) → Prop} (hQ : ∀ (τ : Heap) (v : PV), τ[1]? = some (.box z) → τ[2]? = some (.box [c0, c1, c2, a, b, v]) → Acc τ v 57 6 (kids.map TNode.c) → Q (J43_2 X (.ptr 1 0) (.ptr 2 0) τ)) :
    Q (L43_1 X (.ptr 1 0) (.ptr 2 0) (encL 6 TNode.c kids) (.int .i64 (kids.length : Nat)) (.int .i64 (0 : Nat)) τ) := by
  refine inv_loop (n := kids.length) (Q := Q) (L := fun i τ => L43_1 X (.ptr 1 0) (.ptr 2 0) (encL 6 TNode.c kids) (.int .i64 (kids.length : Nat)) (.int .i64 (i : Nat)) τ)
    (I := fun i τ => τ[1]? = some (.box z) ∧ ∃ v, τ[2]? = some (.box [c0, c1, c2, a, b, v]) ∧ Acc τ v 57 6 ((kids.take i).map TNode.c)) ?_ ?_ ⟨h1, .nils, h2, Acc.nil _ _ _⟩
  · rintro τ ⟨k1, v, k2, k3⟩
    rw [List.take_length] at k3
    try simp only
    rw [L43_1_eq]
    simp
    exact hQ τ v k1 k2 k3
  · rintro i hi τ ⟨k1, v, k2, k3⟩
    have hc := fun σ pc (K : PV → Heap → Option (List PV)) => callK_pure (R := List PV) (pc := pc) (σ := σ) (k := K) C43 rfl (by simp only [pureL, PV.pure, TNode.pure, Bool.and_self]) (by simp only [p43, canonA, canonV, TNode.canon]) (ho kids[i] (List.getElem_mem hi))
    -- the heap when the kid's copy is there
    have e2 : (τ ++ [.box kids[i].c] ++ [.box kids[i].c])[2]? = some (.box [c0, c1, c2, a, b, v]) := get_prev (get_prev k2 _) _
    have k3' : Acc (τ ++ [.box kids[i].c] ++ [.box kids[i].c]) v 57 6 ((kids.take i).map TNode.c) := k3.keep fun L _ hL => by rw [List.append_assoc, List.getElem?_append_left hL]
    obtain ⟨v', τ', q1, q2, q3, _⟩ := k3'.append (bytes := 104) (TNode.pure kids[i]) (TNode.len _) (TNode.scal _) (by simp; unfold lim at hb; omega)
    have own2 : ¬ AccAt v 2 := by
      rintro ⟨st, n, rfl⟩
      rcases k3 with ⟨_, h⟩ | ⟨L, h, h'⟩
      · cases h
      · cases h; rw [k2] at h'; cases h'
    have own1 : ¬ AccAt v 1 := by
      rintro ⟨st, n, rfl⟩
      rcases k3 with ⟨_, h⟩ | ⟨L, h, h'⟩
      · cases h
      · cases h; rw [k1] at h'; cases h'
    have f2 : τ'[2]? = some (.box [c0, c1, c2, a, b, v]) := q3.get e2 own2
    have f1 : τ'[1]? = some (.box z) := q3.get (get_prev (get_prev k1 _) _) own1
    refine ⟨τ'.set 2 (.box [c0, c1, c2, a, b, v']), ⟨get_other f1 (by omega) _, v', get_set f2 _, ?_⟩, ?_⟩
    · rw [take_map_succ TNode.c kids hi]
      exact q2.keep fun L hL hlt => by
        refine List.getElem?_set_ne fun e => ?_
        subst e
        obtain ⟨st, n, rfl⟩ := hL
        rcases q2 with ⟨_, h⟩ | ⟨L, h, h'⟩
        · cases h
        · cases h; rw [f2] at h'; cases h'
    · try simp only
      rw [L43_1_eq]
      simp only [bin_lss, iaddr_enc _ _ hi, Option.bind_some, loadV_cref, loadP_all (TNode.len _), storeV_last (sz := 6) (cs := [(.int .i64 0), (.str []), (.bool false), .nils, .nils, .nils]) rfl (TNode.len _) (TNode.scal _), loadV_last, List.drop_zero, hc, packP, faddrV_ptr, Nat.zero_add, load_box e2 (show [c0, c1, c2, a, b, v][5]? = some v from rfl), bslice_pure (TNode.canon _) (TNode.len _) (TNode.pure _), q1 _ (rowsOf_sl _ _ _ _), storeV_one f2 (show 5 < [c0, c1, c2, a, b, v].length by simp) q2.scal, bin_add, wrap_succ (show i < 9223372036854775807 by unfold lim at hb; omega)]
      simp [hi]
theorem J43 (X : Ext) {τ : Heap} {z c : List PV} {c0 c1 c2 a b v : PV} {kids : List TNode} (h1 : τ[1]? = some (.box z)) (hz : z.length = 6) (h2 : τ[2]? = some (.box [c0, c1, c2, a, b, v])) (h3 : Acc τ v 57 6 (kids.map TNode.c)) (hs : ([c0, c1, c2, a, b] : List PV).all PV.scalar = true) (hp : pureL [c0, c1, c2, a, b] = true) {nu de : List Nat}
    (ha : canon1 (some 1) a = encL 1 cU32 nu) (hb : canon1 (some 1) b = encL 1 cU32 de) : J43_2 X (.ptr 1 0) (.ptr 2 0) τ = some [.agg [c0, c1, c2, encL 1 cU32 nu, encL 1 cU32 de, encL 6 TNode.c kids]] := by
  have hs' : ([c0, c1, c2, a, b, v] : List PV).all PV.scalar = true := by
    simp only [List.all_cons, List.all_nil, Bool.and_eq_true, Bool.and_true] at hs ⊢
    exact ⟨hs.1, hs.2.1, hs.2.2.1, hs.2.2.2.1, hs.2.2.2.2, h3.scal⟩
  rw [J43_2_eq]
  simp only [load_all (sz := 6) h2 rfl, Option.bind_some, storeV_all (sz := 6) h1 rfl hz hs', load_all (sz := 6) (cs := [c0, c1, c2, a, b, v]) (get_set h1 _) rfl]
  have hk : Acc (τ.set 1 (.box [c0, c1, c2, a, b, v])) v 57 6 (kids.map TNode.c) := h3.keep fun L hL hlt => by
    refine List.getElem?_set_ne fun e => ?_
    subst e
    obtain ⟨st, n, rfl⟩ := hL
    rcases h3 with ⟨_, h⟩ | ⟨L, h, h'⟩
    · cases h
    · cases h; rw [h1] at h'; cases h'
  have hf := hk.fin
  simp only [pureL, Bool.and_eq_true, Bool.and_true] at hp
  have fp : ∀ p : PV, p.pure = true → fin1 (τ.set 1 (.box [c0, c1, c2, a, b, v])) p = p := fun p h => by cases p <;> first | rfl | (simp [PV.pure] at h)
  unfold finVs
  have : finArgs (τ.set 1 (.box [c0, c1, c2, a, b, v])) p43.keepr [.agg [c0, c1, c2, a, b, v]] = [.agg [c0, c1, c2, encL 1 cU32 nu, encL 1 cU32 de, encL 6 TNode.c kids]] := by
    simp only [p43, finArgs, finV, List.map_cons, List.map_nil, fp _ hp.1, fp _ hp.2.1, fp _ hp.2.2.1, fp _ hp.2.2.2.1, fp _ hp.2.2.2.2, canonV, canonL, canon1_none, ha, hb, hf]
    rfl
  rw [this, if_pos (by simp only [pureL, PV.pure, hp.1, hp.2.1, hp.2.2.1, encL_pure (fun x _ => cU32_pure x), encL_pure (fun x _ => TNode.pure x), Bool.and_self])]
theorem copy_ok (X : Ext) : ∀ (n : TNode), n.sz < lim → (Hw C X).pure 43 [.agg n.c] = some [.agg n.c]
  | .mk op name ⟨neg, nu, de⟩ kids, hn => by
    simp only [TNode.sz, TRat.sz, TNode.szs_sum] at hn
    have hl := szs_len kids
    have IH : ∀ k ∈ kids, (Hw C X).pure 43 [.agg k.c] = some [.agg k.c] := fun k hk => by
      have h1 := List.sizeOf_lt_of_mem hk
      have h2 := sum_mem_le (f := TNode.sz) hk
      exact copy_ok X k (by omega)
    have hfin : ∀ (a b : PV) (τ : Heap), τ[1]? = some (.box z6) → τ[2]? = some (.box [.int .i64 op, .str name, .bool neg, a, b, .nils]) → a.scalar = true → b.scalar = true → a.pure = true → b.pure = true → canon1 (some 1) a = encL 1 cU32 nu → canon1 (some 1) b = encL 1 cU32 de →
        L43_1 X (.ptr 1 0) (.ptr 2 0) (encL 6 TNode.c kids) (.int .i64 (kids.length : Nat)) (.int .i64 (0 : Nat)) τ = some [.agg (TNode.mk op name ⟨neg, nu, de⟩ kids).c] := by
      intro a b τ h1 h2 sa sb pa pb ca cb
      refine L43 X kids (by unfold lim at *; omega) IH _ _ _ a b τ z6 rfl h1 h2 (Q := fun r => r = some [.agg (TNode.mk op name ⟨neg, nu, de⟩ kids).c]) fun τ v k1 k2 k3 => ?_
      rw [TNode.c_eq]
      exact J43 X (c := []) k1 rfl k2 k3 (by simp [sa, sb]; exact ⟨rfl, rfl, rfl⟩) (by simp [pureL, PV.pure, pa, pb]) ca cb
    obtain ⟨va, a1, a2, a3, a4, a5⟩ := copy_enc (τ := [.box (TNode.mk op name ⟨neg, nu, de⟩ kids).c, .box z6, .box [.int .i64 op, .str name, .bool neg, .nils, .nils, .nils]]) (bytes := 4) cU32_pure (fun _ => rfl) (xs := nu) (st := 1) (by unfold lim at hn; omega)
    have d3 : (TNode.mk op name ⟨neg, nu, de⟩ kids).c[3]? = some (encL 1 cU32 nu) := by rw [TNode.c_eq]; rfl
    have d4 : (TNode.mk op name ⟨neg, nu, de⟩ kids).c[4]? = some (encL 1 cU32 de) := by rw [TNode.c_eq]; rfl
    have d5 : (TNode.mk op name ⟨neg, nu, de⟩ kids).c[5]? = some (encL 6 TNode.c kids) := by rw [TNode.c_eq]; rfl
    -- the second number
    have hJ3 : ∀ (a b : PV) (τ : Heap), τ[0]? = some (.box (TNode.mk op name ⟨neg, nu, de⟩ kids).c) → τ[1]? = some (.box z6) → τ[2]? = some (.box [.int .i64 op, .str name, .bool neg, a, b, .nils]) → a.scalar = true → b.scalar = true → a.pure = true → b.pure = true → canon1 (some 1) a = encL 1 cU32 nu → canon1 (some 1) b = encL 1 cU32 de →
        J43_3 X (.ptr 0 0) (.ptr 1 0) (.ptr 2 0) τ = some [.agg (TNode.mk op name ⟨neg, nu, de⟩ kids).c] := by
      intro a b τ h0 h1 h2 sa sb pa pb ca cb
      rw [J43_3_eq]
      simp only [faddrV_ptr, Option.bind_some, Nat.zero_add, load_box h0 d5, len_enc]
      exact hfin a b τ h1 h2 sa sb pa pb ca cb
    have hJ4 : ∀ (a : PV) (τ : Heap), τ[0]? = some (.box (TNode.mk op name ⟨neg, nu, de⟩ kids).c) → τ[1]? = some (.box z6) → τ[2]? = some (.box [.int .i64 op, .str name, .bool neg, a, .nils, .nils]) → a.scalar = true → a.pure = true → canon1 (some 1) a = encL 1 cU32 nu →
        J43_4 X (.ptr 0 0) (.ptr 1 0) (.ptr 2 0) τ = some [.agg (TNode.mk op name ⟨neg, nu, de⟩ kids).c] := by
      intro a τ h0 h1 h2 sa pa ca
      obtain ⟨vb, b1, b2, b3, b4, b5⟩ := copy_enc (τ := τ) (bytes := 4) cU32_pure (fun _ => rfl) (xs := de) (st := 1) (by unfold lim at hn; omega)
      rw [J43_4_eq]
      simp only [faddrV_ptr, Option.bind_some, Nat.zero_add, load_box h0 d4, len_enc]
      by_cases hd : de = []
      · subst hd
        simp only [bin_gtr, Option.bind_some, List.length_nil, Int.natCast_zero, gt_iff_lt, Int.lt_irrefl, decide_false, condK_false]
        exact hJ3 a .nils τ h0 h1 h2 sa rfl pa rfl ca rfl
      · have : 0 < de.length := List.length_pos_iff.2 hd
        have hpos : ((de.length : Nat) : Int) > 0 := by omega
        simp only [bin_gtr, Option.bind_some, hpos, decide_true, condK_true, b1, storeV_one h2 (show 4 < [PV.int .i64 op, .str name, .bool neg, a, .nils, .nils].length by simp) b3]
        exact hJ3 a vb _ (get_other h0 (by omega) _) (get_other h1 (by omega) _) (get_set h2 _) sa b3 pa b4 ca b5
    rw [F43]
    have e0 : fillP [] [(.bool false), .nils, .nils] [(0, 1, .cst (.bool neg))] = some [.bool neg, .nils, .nils] := rfl
    have e1 : fillP [] [(.int .i64 0), (.str []), (.bool false), .nils, .nils, .nils] [(0, 1, .cst (.int .i64 op)), (1, 1, .cst (.str name)), (2, 3, .cst (.agg [.bool neg, .nils, .nils]))] = some [.int .i64 op, .str name, .bool neg, .nils, .nils, .nils] := rfl
    have b0 : ∀ σ, evPrim [] σ (.build [(.bool false), .nils, .nils] [(0, 1, (.cst (.bool neg)))]) = some (.agg [.bool neg, .nils, .nils], σ) := fun σ => by simp only [evPrim, e0, Option.map_some]
    have b1 : ∀ σ, evPrim [] σ (.build [(.int .i64 0), (.str []), (.bool false), .nils, .nils, .nils] [(0, 1, .cst (.int .i64 op)), (1, 1, .cst (.str name)), (2, 3, .cst (.agg [.bool neg, .nils, .nils]))]) = some (.agg [.int .i64 op, .str name, .bool neg, .nils, .nils, .nils], σ) := fun σ => by simp only [evPrim, e1, Option.map_some]
    have g0 : ∀ l : Heap, (PE.Obj.box (TNode.mk op name ⟨neg, nu, de⟩ kids).c :: l)[0]? = some (.box (TNode.mk op name ⟨neg, nu, de⟩ kids).c) := fun _ => rfl
    have d0 : (TNode.mk op name ⟨neg, nu, de⟩ kids).c[0]? = some (.int .i64 op) := by rw [TNode.c_eq]; rfl
    have d1 : (TNode.mk op name ⟨neg, nu, de⟩ kids).c[1]? = some (.str name) := by rw [TNode.c_eq]; rfl
    have d2 : (TNode.mk op name ⟨neg, nu, de⟩ kids).c[2]? = some (.bool neg) := by rw [TNode.c_eq]; rfl
    simp only [boxV_agg, Option.bind_some, List.nil_append, List.length_nil, List.length_cons, List.cons_append, faddrV_ptr, Nat.zero_add, Nat.reduceAdd, load_box (g0 _) d0, load_box (g0 _) d1, load_box (g0 _) d2, b0, b1]
    have hst : storeV [.box (TNode.mk op name ⟨neg, nu, de⟩ kids).c, .box [(.int .i64 0), (.str []), (.bool false), .nils, .nils, .nils], .box [(.int .i64 0), (.str []), (.bool false), .nils, .nils, .nils]] 6 (.ptr 2 0) (.agg [.int .i64 op, .str name, .bool neg, .nils, .nils, .nils]) = some [.box (TNode.mk op name ⟨neg, nu, de⟩ kids).c, .box z6, .box [.int .i64 op, .str name, .bool neg, .nils, .nils, .nils]] := by
      exact storeV_all (sz := 6) (cells := z6) (ys := [.int .i64 op, .str name, .bool neg, .nils, .nils, .nils]) (σ := [.box (TNode.mk op name ⟨neg, nu, de⟩ kids).c, .box z6, .box z6]) rfl rfl rfl rfl
    simp only [hst, Option.bind_some, load_box (g0 _) d3, len_enc]
    by_cases hd : nu = []
    · subst hd
      simp only [bin_gtr, Option.bind_some, List.length_nil, Int.natCast_zero, gt_iff_lt, Int.lt_irrefl, decide_false, condK_false]
      exact hJ4 .nils _ rfl rfl rfl rfl rfl rfl
    · have : 0 < nu.length := List.length_pos_iff.2 hd
      have hpos : ((nu.length : Nat) : Int) > 0 := by omega
      simp only [bin_gtr, Option.bind_some, hpos, decide_true, condK_true, a1, storeV_one (show ([.box (TNode.mk op name ⟨neg, nu, de⟩ kids).c, .box z6, .box [.int .i64 op, .str name, .bool neg, .nils, .nils, .nils]] : Heap)[2]? = some (.box [.int .i64 op, .str name, .bool neg, .nils, .nils, .nils]) from rfl) (show 3 < [PV.int .i64 op, .str name, .bool neg, .nils, .nils, .nils].length by simp) a3]
      exact hJ4 va _ rfl rfl rfl a3 a4 a5
termination_by n => SizeOf.sizeOf n
theorem call43 {R : Type} (X : Ext) (n : TNode) (h : n.sz < lim) (σ : Heap) (pc : Bool) (k : PV → Heap → Option R) : callK C (Hw C X) σ pc (.fn 43 []) [.agg n.c] k = k (.agg n.c) σ :=
  callK_pure C43 rfl (by simp only [pureL, PV.pure, TNode.pure, Bool.and_self]) (by simp only [p43, canonA, canonV, TNode.canon]) (copy_ok X n h)
end Go.Proofs.YtkpbfldnickghaaDoor
set_option linter.unusedVariables false
set_option linter.unusedSimpArgs false
namespace Go.Proofs.YtkpbfldnickghaaDoor
open Go Go.PE
theorem scal_of_pure1 {v : PV} (h : v.scalar = true) : ([v] : List PV).all PV.scalar = true := by simp [h]
theorem ratOf_ok (X : Ext) (r : TRat) (hr : r.sz < lim) : (Hw C X).pure 58 [.agg r.c] = some [.agg r.c] := by
  obtain ⟨neg, nu, de⟩ := r
  simp only [TRat.sz] at hr
  unfold lim at hr
  have g0 : ∀ l : Heap, (PE.Obj.box (TRat.mk neg nu de).c :: l)[0]? = some (.box (TRat.mk neg nu de).c) := fun _ => rfl
  obtain ⟨va, a1, _, a3, a4, a5⟩ := copy_enc (τ := [.box (TRat.mk neg nu de).c, .box [(.bool false), .nils, .nils]]) (bytes := 4) cU32_pure (fun _ => rfl) (xs := nu) (st := 1) (by omega)
  obtain ⟨vb, b1, _, b3, b4, b5⟩ := copy_enc (τ := [.box (TRat.mk neg nu de).c, .box [(.bool false), .nils, .nils]]) (bytes := 4) cU32_pure (fun _ => rfl) (xs := de) (st := 1) (by omega)
  have e0 : ∀ σ, evPrim [] σ (.build [(.bool false), .nils, .nils] [(0, 1, (.cst (.bool neg))), (1, 1, (.cst va)), (2, 1, (.cst vb))]) = some (.agg [.bool neg, va, vb], σ) := fun σ => by
    simp [evPrim, fillP, Opd.ev, cells_scal a3, cells_scal b3, cells_bool]
  rw [F58]
  simp only [boxV_agg, Option.bind_some, List.nil_append, List.length_nil, List.length_cons, List.cons_append, faddrV_ptr, Nat.zero_add, Nat.reduceAdd, load_box (g0 _) (show (TRat.mk neg nu de).c[0]? = some (.bool neg) from rfl), load_box (g0 _) (show (TRat.mk neg nu de).c[1]? = some (encL 1 cU32 nu) from rfl), load_box (g0 _) (show (TRat.mk neg nu de).c[2]? = some (encL 1 cU32 de) from rfl), a1, b1, e0]
  have hs : ([.bool neg, va, vb] : List PV).all PV.scalar = true := by simp [a3, b3]; rfl
  rw [storeV_all (sz := 3) (cells := [(.bool false), .nils, .nils]) (ys := [.bool neg, va, vb]) rfl rfl rfl hs]
  simp only [Option.bind_some, load_all (sz := 3) (cs := [.bool neg, va, vb]) (get_set (show ([.box (TRat.mk neg nu de).c, .box [(.bool false), .nils, .nils]] : Heap)[1]? = some (.box [(.bool false), .nils, .nils]) from rfl) _) rfl]
  rw [finVs_pure (by simp [pureL, PV.pure, a4, b4])]
  simp only [p58, canonA, canonV, canonL, canon1_none, a5, b5]
  rfl
theorem call58 {R : Type} (X : Ext) (r : TRat) (h : r.sz < lim) (σ : Heap) (pc : Bool) (k : PV → Heap → Option R) : callK C (Hw C X) σ pc (.fn 58 []) [.agg r.c] k = k (.agg r.c) σ :=
  callK_pure C58 rfl (by simp only [pureL, PV.pure, TRat.pure, Bool.and_self]) (by simp only [p58, canonA, canonV, TRat.canon]) (ratOf_ok X r h)
theorem len_sum {α : Type} {f : α → Nat} (h1 : ∀ x, 1 ≤ f x) : ∀ (l : List α), l.length ≤ (l.map f).sum
  | [] => by simp
  | x :: l => by
    have := len_sum h1 l
    have := h1 x
    simp only [List.length_cons, List.map_cons, List.sum_cons]
    omega
theorem rat_pos (r : TRat) : 1 ≤ r.sz := by simp only [TRat.sz]; omega
theorem mono_pos (r : TMono) : 1 ≤ r.sz := by simp only [TMono.sz]; omega
theorem poly_pos (r : TPoly) : 1 ≤ r.sz := by simp only [TPoly.sz]; omega
theorem square_pos (r : TSquare) : 1 ≤ r.sz := by simp only [TSquare.sz]; omega
theorem pair_pos (r : TPair) : 1 ≤ r.sz := by simp only [TPair.sz]; omega
theorem node_pos (r : TNode) : 1 ≤ r.sz := by cases r; simp only [TNode.sz]; omega
theorem cert_pos (r : TCert) : 1 ≤ r.sz := by cases r; simp only [TCert.sz]; omega
theorem proof_pos (r : TProof) : 1 ≤ r.sz := by cases r; simp only [TProof.sz]; omega
theorem polyOf_ok (X : Ext) (p : TPoly) (hp : p.sz < lim) : (Hw C X).pure 59 [.agg p.c] = some [.agg p.c] := by
  obtain ⟨n, ts⟩ := p
  simp only [TPoly.sz] at hp
  have hl := len_sum mono_pos ts
  have hlim : ts.length < lim := by omega
  have g0 : ∀ l : Heap, (PE.Obj.box (TPoly.mk n ts).c :: l)[0]? = some (.box (TPoly.mk n ts).c) := fun _ => rfl
  have e0 : ∀ σ, evPrim [] σ (.build [(.int .i64 0), .nils] [(0, 1, .cst (.int .i64 n))]) = some (.agg [.int .i64 n, .nils], σ) := fun σ => by simp [evPrim, fillP, Opd.ev, cells_int]
  rw [F59]
  simp only [boxV_agg, Option.bind_some, List.nil_append, List.length_nil, List.length_cons, List.cons_append, faddrV_ptr, Nat.zero_add, Nat.reduceAdd, load_box (g0 _) (show (TPoly.mk n ts).c[0]? = some (.int .i64 n) from rfl), e0]
  have hst : storeV [.box (TPoly.mk n ts).c, .box [(.int .i64 0), .nils], .box [(.int .i64 0), .nils]] 2 (.ptr 2 0) (.agg [.int .i64 n, .nils]) = some [.box (TPoly.mk n ts).c, .box [(.int .i64 0), .nils], .box [.int .i64 n, .nils]] :=
    storeV_all (sz := 2) (cells := [(.int .i64 0), .nils]) (ys := [.int .i64 n, .nils]) (σ := [.box (TPoly.mk n ts).c, .box [(.int .i64 0), .nils], .box [(.int .i64 0), .nils]]) rfl rfl rfl rfl
  simp only [hst, Option.bind_some, load_box (g0 _) (show (TPoly.mk n ts).c[1]? = some (encL 4 TMono.c ts) from rfl), len_enc]
  refine app_loop (α := TMono) (f := TMono.c) (xs := ts) (ty := 91) (st := 4) (bytes := 80) (d := 2) (off := 1) (cs := [.int .i64 n, .nils]) (fix := [(1, [(.int .i64 0), .nils])]) (accs := []) (Q := fun r => r = some [.agg (TPoly.mk n ts).c])
    (L := fun i τ => L59_1 X (.ptr 1 0) (.ptr 2 0) (encL 4 TMono.c ts) (.int .i64 (ts.length : Nat)) (.int .i64 (i : Nat)) τ) (by simp) (fun x _ => TMono.pure x) (fun x _ => TMono.len x) (fun x _ => TMono.scal x) (by unfold lim at hlim; omega) ?_ ?_ rfl ⟨by simp, by simp⟩
  · intro i hi τ v k1 k2 k3
    have hmem := List.getElem_mem hi
    have hsz := sum_mem_le (f := TMono.sz) hmem
    have hm : ts[i].sz < lim := by omega
    have hm' : ts[i].coef.sz < lim := by simp only [TMono.sz] at hm; omega
    have hexp : ts[i].exps.length < lim := by simp only [TMono.sz] at hm; omega
    obtain ⟨va, a1, _, a3, a4, a5⟩ := copy_enc (τ := τ ++ [.box ts[i].c]) (bytes := 8) cInt_pure (fun _ => rfl) (xs := ts[i].exps) (st := 1) (by unfold lim at hexp; omega)
    refine ⟨τ ++ [.box ts[i].c], Stay.push _ _ _, fun v' τ' q1 q2 q3 _ => ?_⟩
    have b0 : ∀ σ, evPrim [] σ (.build [.nils, (.bool false), .nils, .nils] [(0, 1, (.cst va)), (1, 3, (.cst (.agg ts[i].coef.c)))]) = some (.agg (va :: ts[i].coef.c), σ) := fun σ => by
      simp [evPrim, fillP, Opd.ev, cells_scal a3, cells_agg, TRat.c]
    have b1 : ∀ (σ : Heap) (zero : List PV), evPrim [] σ (.bslice 4 [(some 1), none, (some 1), (some 1)] zero 1 [(0, .cst (.agg (va :: ts[i].coef.c)))]) = some (.sl 4 true [ts[i].c], σ) := fun σ zero => by
      refine bslice_one (ys := ts[i].c) ?_ (TMono.len _) (TMono.pure _)
      rw [keep_pure σ (show (PV.agg (va :: ts[i].coef.c)).pure = true by simp only [PV.pure, pureL, a4, TRat.pure, Bool.and_self])]
      simp only [canonV, canonL, a5]
      show some (encL 1 cInt ts[i].exps :: canonL [none, some 1, some 1] ts[i].coef.c) = some ts[i].c
      rw [TRat.canon]; rfl
    try simp only
    rw [L59_1_eq]
    simp only [bin_lss, iaddr_enc _ _ hi, Option.bind_some, loadV_cref, loadP_all (TMono.len _), storeV_last (sz := 4) (cs := [.nils, (.bool false), .nils, .nils]) rfl (TMono.len _) (TMono.scal _), loadV_last, faddrV_ptr, Nat.zero_add, load_box (get_prev k1 _) (show ([PV.int .i64 n, .nils].set 1 v)[1]? = some v from rfl), List.drop_zero, show loadP false 1 ts[i].c = some (encL 1 cInt ts[i].exps) from rfl, a1, show List.drop 1 ts[i].c = ts[i].coef.c from rfl, loadP_all (TRat.len _), call58 X _ hm', b0, b1, q1 _ (rowsOf_sl _ _ _ _), storeV_one q2 (show 1 < ([PV.int .i64 n, .nils].set 1 v).length by simp) q3, bin_add, wrap_succ (show i < 9223372036854775807 by unfold lim at hlim; omega)]
    simp [hi]
  · intro τ v k1 k2 k3
    have f1 : τ[1]? = some (.box [(.int .i64 0), .nils]) := (k3.fix (1, _) (by simp)).2
    try simp only
    rw [L59_1_eq]
    simp only [bin_lss, Option.bind_some, Int.lt_irrefl, decide_false, condK_false]
    rw [J59_2_eq]
    have k1' : τ[2]? = some (.box [.int .i64 n, v]) := k1
    have hs : ([.int .i64 n, v] : List PV).all PV.scalar = true := by simp [k2.scal]; rfl
    simp only [load_all (sz := 2) k1' rfl, Option.bind_some, storeV_all (sz := 2) f1 rfl rfl hs, load_all (sz := 2) (cs := [.int .i64 n, v]) (get_set f1 _) rfl]
    have hk : Acc (τ.set 1 (.box [.int .i64 n, v])) v 91 4 (ts.map TMono.c) := k2.keep fun L hL _ => List.getElem?_set_ne fun e => k2.notBox f1 (by rw [e]; exact hL)
    refine fin_ok ?_ (by simp [pureL, PV.pure, TPoly.pure])
    simp only [p59, finArgs, finV, List.map_cons, List.map_nil, fin_cell_pure (show (PV.int .i64 n).pure = true from rfl), canonV, canonL, canon1_none, hk.fin]
    rfl
theorem call59 {R : Type} (X : Ext) (p : TPoly) (h : p.sz < lim) (σ : Heap) (pc : Bool) (k : PV → Heap → Option R) : callK C (Hw C X) σ pc (.fn 59 []) [.agg p.c] k = k (.agg p.c) σ :=
  callK_pure C59 rfl (by simp only [pureL, PV.pure, TPoly.pure, Bool.and_self]) (by simp only [p59, canonA, canonV, TPoly.canon]) (polyOf_ok X p h)
end Go.Proofs.YtkpbfldnickghaaDoor
set_option linter.unusedVariables false
set_option linter.unusedSimpArgs false
namespace Go.Proofs.YtkpbfldnickghaaDoor
open Go Go.PE
abbrev z5 : List PV := [(.int .i64 0), .nils, .nils, .nils, .nils]
section
variable (X : Ext) {kind : Int} {nums : List TRat} {polys : List TPoly} {squares : List TSquare} {kids : List TCert}
theorem L42k (hb : kids.length < lim) (IH : ∀ k ∈ kids, (Hw C X).pure 42 [.agg k.c] = some [.agg k.c]) {vn vp vs : PV} {τ : Heap} (h2 : τ[2]? = some (.box [.int .i64 kind, vn, vp, vs, .nils]))
    (hO : Oth 2 .nils [(0, cc kind nums polys squares kids), (1, z5)] [(vs, 80, 5, squares.map TSquare.c), (vp, 78, 2, polys.map TPoly.c), (vn, 55, 3, nums.map TRat.c)] τ) :
    L42_1 X (.ptr 1 0) (.ptr 2 0) (encL 5 TCert.c kids) (.int .i64 (kids.length : Nat)) (.int .i64 (0 : Nat)) τ = some [.agg (cc kind nums polys squares kids)] := by
  refine app_loop (α := TCert) (f := TCert.c) (xs := kids) (ty := 31) (st := 5) (bytes := 104) (d := 2) (off := 4) (cs := [.int .i64 kind, vn, vp, vs, .nils]) (fix := [(0, cc kind nums polys squares kids), (1, z5)]) (accs := [(vs, 80, 5, squares.map TSquare.c), (vp, 78, 2, polys.map TPoly.c), (vn, 55, 3, nums.map TRat.c)]) (Q := fun r => r = some [.agg (cc kind nums polys squares kids)])
    (L := fun i τ => L42_1 X (.ptr 1 0) (.ptr 2 0) (encL 5 TCert.c kids) (.int .i64 (kids.length : Nat)) (.int .i64 (i : Nat)) τ) (by simp) (fun x _ => TCert.pure x) (fun x _ => TCert.len x) (fun x _ => TCert.scal x) (by unfold lim at hb; omega) ?_ ?_ h2 hO
  · intro i hi τ v k1 k2 k3
    have hc := fun σ pc (K : PV → Heap → Option (List PV)) => callK_pure (R := List PV) (pc := pc) (σ := σ) (k := K) C42 rfl (by simp only [pureL, PV.pure, TCert.pure, Bool.and_self]) (by simp only [p42, canonA, canonV, TCert.canon]) (IH kids[i] (List.getElem_mem hi))
    refine ⟨τ ++ [.box kids[i].c] ++ [.box kids[i].c], (Stay.push _ _ _).trans (Stay.push _ _ _), fun v' τ' q1 q2 q3 _ => ?_⟩
    try simp only
    rw [L42_1_eq]
    simp only [bin_lss, iaddr_enc _ _ hi, Option.bind_some, loadV_cref, loadP_all (TCert.len _), storeV_last (sz := 5) (cs := [(.int .i64 0), .nils, .nils, .nils, .nils]) rfl (TCert.len _) (TCert.scal _), loadV_last, List.drop_zero, hc, packP, faddrV_ptr, Nat.zero_add, load_box (get_prev (get_prev k1 _) _) (show ([PV.int .i64 kind, vn, vp, vs, .nils].set 4 v)[4]? = some v from rfl), bslice_pure (TCert.canon _) (TCert.len _) (TCert.pure _), q1 _ (rowsOf_sl _ _ _ _), storeV_one q2 (show 4 < ([PV.int .i64 kind, vn, vp, vs, .nils].set 4 v).length by simp) q3, bin_add, wrap_succ (show i < 9223372036854775807 by unfold lim at hb; omega)]
    simp [hi]
  · intro τ v k1 k2 k3
    have f1 : τ[1]? = some (.box z5) := (k3.fix (1, z5) (by simp)).2
    have k1' : τ[2]? = some (.box [.int .i64 kind, vn, vp, vs, v]) := k1
    have asq := (k3.accs (vs, 80, 5, squares.map TSquare.c) (by simp)).1
    have ap := (k3.accs (vp, 78, 2, polys.map TPoly.c) (by simp)).1
    have an := (k3.accs (vn, 55, 3, nums.map TRat.c) (by simp)).1
    try simp only
    rw [L42_1_eq]
    simp only [bin_lss, Option.bind_some, Int.lt_irrefl, decide_false, condK_false]
    rw [J42_2_eq]
    have hs : ([.int .i64 kind, vn, vp, vs, v] : List PV).all PV.scalar = true := by simp [k2.scal, asq.scal, ap.scal, an.scal]; rfl
    simp only [load_all (sz := 5) k1' rfl, Option.bind_some, storeV_all (sz := 5) f1 rfl rfl hs, load_all (sz := 5) (cs := [.int .i64 kind, vn, vp, vs, v]) (get_set f1 _) rfl]
    have hk : ∀ {u : PV} {ty st : Nat} {rows : List (List PV)}, Acc τ u ty st rows → Acc (τ.set 1 (.box [.int .i64 kind, vn, vp, vs, v])) u ty st rows := fun h => h.keep fun L hL _ => List.getElem?_set_ne fun e => h.notBox f1 (by rw [e]; exact hL)
    refine fin_ok ?_ (by rw [← cc_eq]; simp [pureL, PV.pure, TCert.pure])
    simp only [p42, finArgs, finV, List.map_cons, List.map_nil, fin_cell_pure (show (PV.int .i64 kind).pure = true from rfl), canonV, canonL, canon1_none, (hk k2).fin, (hk asq).fin, (hk ap).fin, (hk an).fin]
    rfl
theorem L42s (hs : (squares.map TSquare.sz).sum < lim) (hb : kids.length < lim) (IH : ∀ k ∈ kids, (Hw C X).pure 42 [.agg k.c] = some [.agg k.c]) {vn vp : PV} {τ : Heap} (h2 : τ[2]? = some (.box [.int .i64 kind, vn, vp, .nils, .nils]))
    (hO : Oth 2 .nils [(0, cc kind nums polys squares kids), (1, z5)] [(vp, 78, 2, polys.map TPoly.c), (vn, 55, 3, nums.map TRat.c)] τ) :
    L42_3 X (.ptr 0 0) (.ptr 1 0) (.ptr 2 0) (encL 5 TSquare.c squares) (.int .i64 (squares.length : Nat)) (.int .i64 (0 : Nat)) τ = some [.agg (cc kind nums polys squares kids)] := by
  have hl := len_sum square_pos squares
  refine app_loop (α := TSquare) (f := TSquare.c) (xs := squares) (ty := 80) (st := 5) (bytes := 88) (d := 2) (off := 3) (cs := [.int .i64 kind, vn, vp, .nils, .nils]) (fix := [(0, cc kind nums polys squares kids), (1, z5)]) (accs := [(vp, 78, 2, polys.map TPoly.c), (vn, 55, 3, nums.map TRat.c)]) (Q := fun r => r = some [.agg (cc kind nums polys squares kids)])
    (L := fun i τ => L42_3 X (.ptr 0 0) (.ptr 1 0) (.ptr 2 0) (encL 5 TSquare.c squares) (.int .i64 (squares.length : Nat)) (.int .i64 (i : Nat)) τ) (by simp) (fun x _ => TSquare.pure x) (fun x _ => TSquare.len x) (fun x _ => TSquare.scal x) (by unfold lim at hs; omega) ?_ ?_ h2 hO
  · intro i hi τ v k1 k2 k3
    have hsz := sum_mem_le (f := TSquare.sz) (List.getElem_mem hi)
    have z1 : squares[i].weight.sz < lim := by have : squares[i].sz = 1 + squares[i].weight.sz + squares[i].poly.sz := rfl; omega
    have z2 : squares[i].poly.sz < lim := by have : squares[i].sz = 1 + squares[i].weight.sz + squares[i].poly.sz := rfl; omega
    refine ⟨τ ++ [.box squares[i].c], Stay.push _ _ _, fun v' τ' q1 q2 q3 _ => ?_⟩
    have b0 : ∀ σ, evPrim [] σ (.build [(.bool false), .nils, .nils, (.int .i64 0), .nils] [(0, 3, (.cst (.agg squares[i].weight.c))), (3, 2, (.cst (.agg squares[i].poly.c)))]) = some (.agg squares[i].c, σ) := fun σ => by
      simp [evPrim, fillP, Opd.ev, cells_agg, TRat.c, TPoly.c, TSquare.c]
    have cs5 : canonL [none, some 1, some 1, none, some 4] squares[i].c = squares[i].c := TSquare.canon _
    try simp only
    rw [L42_3_eq]
    simp only [bin_lss, iaddr_enc _ _ hi, Option.bind_some, loadV_cref, loadP_all (TSquare.len _), storeV_last (sz := 5) (cs := [(.bool false), .nils, .nils, (.int .i64 0), .nils]) rfl (TSquare.len _) (TSquare.scal _), loadV_last, List.drop_zero, faddrV_ptr, Nat.zero_add, load_box (get_prev k1 _) (show ([PV.int .i64 kind, vn, vp, .nils, .nils].set 3 v)[3]? = some v from rfl), sq0, sq3, call58 X _ z1, call59 X _ z2, b0, bslice_pure cs5 (TSquare.len _) (TSquare.pure _), q1 _ (rowsOf_sl _ _ _ _), storeV_one q2 (show 3 < ([PV.int .i64 kind, vn, vp, .nils, .nils].set 3 v).length by simp) q3, bin_add, wrap_succ (show i < 9223372036854775807 by unfold lim at hs; omega)]
    simp [hi]
  · intro τ v k1 k2 k3
    try simp only
    rw [L42_3_eq]
    simp only [bin_lss, Option.bind_some, Int.lt_irrefl, decide_false, condK_false]
    rw [J42_4_eq]
    have f0 : τ[0]? = some (.box (cc kind nums polys squares kids)) := (k3.fix (0, cc kind nums polys squares kids) (by simp)).2
    simp only [faddrV_ptr, Nat.zero_add, Option.bind_some, load_box f0 (show (cc kind nums polys squares kids)[4]? = some (encL 5 TCert.c kids) from rfl), len_enc]
    exact L42k X hb IH k1 (k3.next k2)
theorem L42p (hp : (polys.map TPoly.sz).sum < lim) (hs : (squares.map TSquare.sz).sum < lim) (hb : kids.length < lim) (IH : ∀ k ∈ kids, (Hw C X).pure 42 [.agg k.c] = some [.agg k.c]) {vn : PV} {τ : Heap} (h2 : τ[2]? = some (.box [.int .i64 kind, vn, .nils, .nils, .nils]))
    (hO : Oth 2 .nils [(0, cc kind nums polys squares kids), (1, z5)] [(vn, 55, 3, nums.map TRat.c)] τ) :
    L42_5 X (.ptr 0 0) (.ptr 1 0) (.ptr 2 0) (encL 2 TPoly.c polys) (.int .i64 (polys.length : Nat)) (.int .i64 (0 : Nat)) τ = some [.agg (cc kind nums polys squares kids)] := by
  have hl := len_sum poly_pos polys
  refine app_loop (α := TPoly) (f := TPoly.c) (xs := polys) (ty := 78) (st := 2) (bytes := 32) (d := 2) (off := 2) (cs := [.int .i64 kind, vn, .nils, .nils, .nils]) (fix := [(0, cc kind nums polys squares kids), (1, z5)]) (accs := [(vn, 55, 3, nums.map TRat.c)]) (Q := fun r => r = some [.agg (cc kind nums polys squares kids)])
    (L := fun i τ => L42_5 X (.ptr 0 0) (.ptr 1 0) (.ptr 2 0) (encL 2 TPoly.c polys) (.int .i64 (polys.length : Nat)) (.int .i64 (i : Nat)) τ) (by simp) (fun x _ => TPoly.pure x) (fun x _ => TPoly.len x) (fun x _ => TPoly.scal x) (by unfold lim at hp; omega) ?_ ?_ h2 hO
  · intro i hi τ v k1 k2 k3
    have hsz := sum_mem_le (f := TPoly.sz) (List.getElem_mem hi)
    refine ⟨τ ++ [.box polys[i].c], Stay.push _ _ _, fun v' τ' q1 q2 q3 _ => ?_⟩
    try simp only
    rw [L42_5_eq]
    simp only [bin_lss, iaddr_enc _ _ hi, Option.bind_some, loadV_cref, loadP_all (TPoly.len _), storeV_last (sz := 2) (cs := [(.int .i64 0), .nils]) rfl (TPoly.len _) (TPoly.scal _), loadV_last, List.drop_zero, faddrV_ptr, Nat.zero_add, load_box (get_prev k1 _) (show ([PV.int .i64 kind, vn, .nils, .nils, .nils].set 2 v)[2]? = some v from rfl), call59 X polys[i] (by omega), bslice_pure (TPoly.canon _) (TPoly.len _) (TPoly.pure _), q1 _ (rowsOf_sl _ _ _ _), storeV_one q2 (show 2 < ([PV.int .i64 kind, vn, .nils, .nils, .nils].set 2 v).length by simp) q3, bin_add, wrap_succ (show i < 9223372036854775807 by unfold lim at hp; omega)]
    simp [hi]
  · intro τ v k1 k2 k3
    try simp only
    rw [L42_5_eq]
    simp only [bin_lss, Option.bind_some, Int.lt_irrefl, decide_false, condK_false]
    rw [J42_6_eq]
    have f0 : τ[0]? = some (.box (cc kind nums polys squares kids)) := (k3.fix (0, cc kind nums polys squares kids) (by simp)).2
    simp only [faddrV_ptr, Nat.zero_add, Option.bind_some, load_box f0 (show (cc kind nums polys squares kids)[3]? = some (encL 5 TSquare.c squares) from rfl), len_enc]
    exact L42s X hs hb IH k1 (k3.next k2)
theorem L42n (hn : (nums.map TRat.sz).sum < lim) (hp : (polys.map TPoly.sz).sum < lim) (hs : (squares.map TSquare.sz).sum < lim) (hb : kids.length < lim) (IH : ∀ k ∈ kids, (Hw C X).pure 42 [.agg k.c] = some [.agg k.c]) {τ : Heap} (h2 : τ[2]? = some (.box [.int .i64 kind, .nils, .nils, .nils, .nils]))
    (hO : Oth 2 .nils [(0, cc kind nums polys squares kids), (1, z5)] [] τ) :
    L42_7 X (.ptr 0 0) (.ptr 1 0) (.ptr 2 0) (encL 3 TRat.c nums) (.int .i64 (nums.length : Nat)) (.int .i64 (0 : Nat)) τ = some [.agg (cc kind nums polys squares kids)] := by
  have hl := len_sum rat_pos nums
  refine app_loop (α := TRat) (f := TRat.c) (xs := nums) (ty := 55) (st := 3) (bytes := 56) (d := 2) (off := 1) (cs := [.int .i64 kind, .nils, .nils, .nils, .nils]) (fix := [(0, cc kind nums polys squares kids), (1, z5)]) (accs := []) (Q := fun r => r = some [.agg (cc kind nums polys squares kids)])
    (L := fun i τ => L42_7 X (.ptr 0 0) (.ptr 1 0) (.ptr 2 0) (encL 3 TRat.c nums) (.int .i64 (nums.length : Nat)) (.int .i64 (i : Nat)) τ) (by simp) (fun x _ => TRat.pure x) (fun x _ => TRat.len x) (fun x _ => TRat.scal x) (by unfold lim at hn; omega) ?_ ?_ h2 hO
  · intro i hi τ v k1 k2 k3
    have hsz := sum_mem_le (f := TRat.sz) (List.getElem_mem hi)
    refine ⟨τ ++ [.box nums[i].c], Stay.push _ _ _, fun v' τ' q1 q2 q3 _ => ?_⟩
    try simp only
    rw [L42_7_eq]
    simp only [bin_lss, iaddr_enc _ _ hi, Option.bind_some, loadV_cref, loadP_all (TRat.len _), storeV_last (sz := 3) (cs := [(.bool false), .nils, .nils]) rfl (TRat.len _) (TRat.scal _), loadV_last, List.drop_zero, faddrV_ptr, Nat.zero_add, load_box (get_prev k1 _) (show ([PV.int .i64 kind, .nils, .nils, .nils, .nils].set 1 v)[1]? = some v from rfl), call58 X nums[i] (by omega), bslice_pure (TRat.canon _) (TRat.len _) (TRat.pure _), q1 _ (rowsOf_sl _ _ _ _), storeV_one q2 (show 1 < ([PV.int .i64 kind, .nils, .nils, .nils, .nils].set 1 v).length by simp) q3, bin_add, wrap_succ (show i < 9223372036854775807 by unfold lim at hn; omega)]
    simp [hi]
  · intro τ v k1 k2 k3
    try simp only
    rw [L42_7_eq]
    simp only [bin_lss, Option.bind_some, Int.lt_irrefl, decide_false, condK_false]
    rw [J42_8_eq]
    have f0 : τ[0]? = some (.box (cc kind nums polys squares kids)) := (k3.fix (0, cc kind nums polys squares kids) (by simp)).2
    simp only [faddrV_ptr, Nat.zero_add, Option.bind_some, load_box f0 (show (cc kind nums polys squares kids)[2]? = some (encL 2 TPoly.c polys) from rfl), len_enc]
    exact L42p X hp hs hb IH k1 (k3.next k2)
end
theorem certOf_ok (X : Ext) : ∀ (c : TCert), c.sz < lim → (Hw C X).pure 42 [.agg c.c] = some [.agg c.c]
  | .mk kind nums polys squares kids, hc => by
    simp only [TCert.sz, TCert.szs_sum] at hc
    have hl := len_sum cert_pos kids
    have IH : ∀ k ∈ kids, (Hw C X).pure 42 [.agg k.c] = some [.agg k.c] := fun k hk => by
      have h1 := List.sizeOf_lt_of_mem hk
      have h2 := sum_mem_le (f := TCert.sz) hk
      exact certOf_ok X k (by omega)
    rw [F42, cc_eq]
    have g0 : ∀ l : Heap, (PE.Obj.box (cc kind nums polys squares kids) :: l)[0]? = some (.box (cc kind nums polys squares kids)) := fun _ => rfl
    have e0 : ∀ σ, evPrim [] σ (.build [(.int .i64 0), .nils, .nils, .nils, .nils] [(0, 1, .cst (.int .i64 kind))]) = some (.agg [.int .i64 kind, .nils, .nils, .nils, .nils], σ) := fun σ => by simp [evPrim, fillP, Opd.ev, cells_int]
    simp only [boxV_agg, Option.bind_some, List.nil_append, List.length_nil, List.length_cons, List.cons_append, faddrV_ptr, Nat.zero_add, Nat.reduceAdd, load_box (g0 _) (show (cc kind nums polys squares kids)[0]? = some (.int .i64 kind) from rfl), e0]
    have hst : storeV [.box (cc kind nums polys squares kids), .box z5, .box z5] 5 (.ptr 2 0) (.agg [.int .i64 kind, .nils, .nils, .nils, .nils]) = some [.box (cc kind nums polys squares kids), .box z5, .box [.int .i64 kind, .nils, .nils, .nils, .nils]] :=
      storeV_all (sz := 5) (cells := z5) (ys := [.int .i64 kind, .nils, .nils, .nils, .nils]) (σ := [.box (cc kind nums polys squares kids), .box z5, .box z5]) rfl rfl rfl rfl
    simp only [hst, Option.bind_some, load_box (g0 _) (show (cc kind nums polys squares kids)[1]? = some (encL 3 TRat.c nums) from rfl), len_enc]
    refine L42n X (by omega) (by omega) (by omega) (by omega) IH rfl ⟨?_, by simp⟩
    simp
termination_by c => SizeOf.sizeOf c
theorem call42 {R : Type} (X : Ext) (c : TCert) (h : c.sz < lim) (σ : Heap) (pc : Bool) (k : PV → Heap → Option R) : callK C (Hw C X) σ pc (.fn 42 []) [.agg c.c] k = k (.agg c.c) σ :=
  callK_pure C42 rfl (by simp only [pureL, PV.pure, TCert.pure, Bool.and_self]) (by simp only [p42, canonA, canonV, TCert.canon]) (certOf_ok X c h)
end Go.Proofs.YtkpbfldnickghaaDoor
set_option linter.unusedVariables false
set_option linter.unusedSimpArgs false
namespace Go.Proofs.YtkpbfldnickghaaDoor
open Go Go.PE
/-- The cells of a node without kids, as Bare hands it over: the kids nil. -/
def bareC (b : Bare) : List PV := [.str b.rule, .str b.name, encL 6 TNode.c b.forms, encL 13 TPair.c b.subst, encL 1 cInt b.path, encL 1 cStr b.args] ++ b.cert.c ++ [.nils]
theorem TCert.five (c : TCert) : ∃ a0 a1 a2 a3 a4, c.c = [a0, a1, a2, a3, a4] ∧ canonL [none, some 3, some 2, some 5, some 5] [a0, a1, a2, a3, a4] = [a0, a1, a2, a3, a4] ∧ pureL [a0, a1, a2, a3, a4] = true ∧ ([a0, a1, a2, a3, a4] : List PV).all PV.scalar = true := by
  have h1 := TCert.canon c
  have h2 := TCert.pure c
  have h3 := TCert.scal c
  obtain ⟨kind, nums, polys, squares, kids⟩ := c
  rw [cc_eq] at h1 h2 h3 ⊢
  exact ⟨_, _, _, _, _, rfl, h1, h2, h3⟩
abbrev z12 : List PV := [(.str []), (.str []), .nils, .nils, .nils, .nils, (.int .i64 0), .nils, .nils, .nils, .nils, .nils]
theorem pairCanon (p : TPair) : canonL [none, none, none, some 1, some 1, some 6, none, none, none, some 1, some 1, some 6, some 6] p.c = p.c := by
  obtain ⟨⟨o, n, r, k⟩, ⟨o', n', r', k'⟩, l⟩ := p
  simp [TPair.c, TNode.c_eq, canonL, canon1_encL, canon1_none]
theorem node6 (n : TNode) : ∃ a0 a1 a2 a3 a4 a5, n.c = [a0, a1, a2, a3, a4, a5] := by
  obtain ⟨op, name, num, kids⟩ := n
  exact ⟨_, _, _, _, _, _, TNode.c_eq _ _ _ _⟩
section
variable (X : Ext) (p : TProof) (pa ar : PV) (c0 c1 c2 c3 c4 : PV)
/-- The new node's cells. -/
abbrev nd (f s : PV) : List PV := [.str (bareOf p).rule, .str (bareOf p).name, f, s, pa, ar, c0, c1, c2, c3, c4, .nils]
theorem pr3' : p.c[3]? = some (encL 13 TPair.c (bareOf p).subst) := by cases p; rw [TProof.c_eq]; rfl
theorem pr2' : p.c[2]? = some (encL 6 TNode.c (bareOf p).forms) := by cases p; rw [TProof.c_eq]; rfl
theorem pr0' : p.c[0]? = some (.str (bareOf p).rule) := by cases p; rw [TProof.c_eq]; rfl
theorem pr1'' : p.c[1]? = some (.str (bareOf p).name) := by cases p; rw [TProof.c_eq]; rfl
theorem pr4' : p.c[4]? = some (encL 1 cInt (bareOf p).path) := by cases p; rw [TProof.c_eq]; rfl
theorem pr5' : p.c[5]? = some (encL 1 cStr (bareOf p).args) := by cases p; rw [TProof.c_eq]; rfl
variable (hpa : pa.scalar = true ∧ pa.pure = true ∧ canon1 (some 1) pa = encL 1 cInt (bareOf p).path) (har : ar.scalar = true ∧ ar.pure = true ∧ canon1 (some 1) ar = encL 1 cStr (bareOf p).args)
variable (hc : (bareOf p).cert.c = [c0, c1, c2, c3, c4] ∧ canonL [none, some 3, some 2, some 5, some 5] [c0, c1, c2, c3, c4] = [c0, c1, c2, c3, c4] ∧ pureL [c0, c1, c2, c3, c4] = true ∧ ([c0, c1, c2, c3, c4] : List PV).all PV.scalar = true)
include hpa har hc
theorem J24 {f s : PV} {τ : Heap} (h1 : τ[1]? = some (.box z12)) (h2 : τ[2]? = some (.box (nd p pa ar c0 c1 c2 c3 c4 f s))) (hf : Acc τ f 57 6 ((bareOf p).forms.map TNode.c)) (hs : Acc τ s 59 13 ((bareOf p).subst.map TPair.c)) : J24_4 X (.ptr 1 0) (.ptr 2 0) τ = some [.agg (bareC (bareOf p))] := by
  obtain ⟨q1, q2, q3, q4⟩ := hc
  rw [J24_4_eq]
  have hsc : (nd p pa ar c0 c1 c2 c3 c4 f s).all PV.scalar = true := by
    simp only [List.all_cons, List.all_nil, Bool.and_eq_true, Bool.and_true] at q4
    simp only [nd, List.all_cons, List.all_nil, hf.scal, hs.scal, hpa.1, har.1, q4.1, q4.2.1, q4.2.2.1, q4.2.2.2.1, q4.2.2.2.2, Bool.and_self, Bool.and_true]
    rfl
  simp only [load_all (sz := 12) h2 rfl, Option.bind_some, storeV_all (sz := 12) h1 rfl rfl hsc, load_all (sz := 12) (cs := nd p pa ar c0 c1 c2 c3 c4 f s) (get_set h1 _) rfl]
  have hk : ∀ {u : PV} {ty st : Nat} {rows : List (List PV)}, Acc τ u ty st rows → Acc (τ.set 1 (.box (nd p pa ar c0 c1 c2 c3 c4 f s))) u ty st rows := fun h => h.keep fun L hL _ => List.getElem?_set_ne fun e => h.notBox h1 (by rw [e]; exact hL)
  simp only [pureL, Bool.and_eq_true, Bool.and_true] at q3
  simp only [canonL, List.cons.injEq, and_true] at q2
  refine fin_ok ?_ ?_
  · simp only [p24, finArgs, finV, nd, List.map_cons, List.map_nil, fin_cell_pure (show (PV.str (bareOf p).rule).pure = true from rfl), fin_cell_pure (show (PV.str (bareOf p).name).pure = true from rfl), fin_cell_pure hpa.2.1, fin_cell_pure har.2.1, fin_cell_pure q3.1, fin_cell_pure q3.2.1, fin_cell_pure q3.2.2.1, fin_cell_pure q3.2.2.2.1, fin_cell_pure q3.2.2.2.2, fin_cell_pure (show PV.nils.pure = true from rfl), canonV, canonL, canon1_none, (hk hf).fin, (hk hs).fin, hpa.2.2, har.2.2, q2.2.1, q2.2.2.1, q2.2.2.2.1, q2.2.2.2.2]
    simp only [bareC, q1]
    rfl
  · simp only [pureL, PV.pure, bareC, pureL_app, encL_pure (fun x _ => TNode.pure x), encL_pure (fun x _ => TPair.pure x), encL_pure (fun x _ => cInt_pure x), encL_pure (fun x _ => cStr_pure x), TCert.pure, Bool.and_self]
theorem L24s (hsz : ((bareOf p).subst.map TPair.sz).sum < lim) {f : PV} {τ : Heap} (h2 : τ[2]? = some (.box (nd p pa ar c0 c1 c2 c3 c4 f .nils))) (hO : Oth 2 .nils [(0, p.c), (1, z12)] [(f, 57, 6, (bareOf p).forms.map TNode.c)] τ) :
    L24_1 X (.ptr 1 0) (.ptr 2 0) (encL 13 TPair.c (bareOf p).subst) (.int .i64 ((bareOf p).subst.length : Nat)) (.int .i64 (0 : Nat)) τ = some [.agg (bareC (bareOf p))] := by
  generalize hxs : (bareOf p).subst = xs at hsz ⊢
  have hl := len_sum pair_pos xs
  refine app_loop (α := TPair) (f := TPair.c) (xs := xs) (ty := 59) (st := 13) (bytes := 232) (d := 2) (off := 3) (cs := nd p pa ar c0 c1 c2 c3 c4 f .nils) (fix := [(0, p.c), (1, z12)]) (accs := [(f, 57, 6, (bareOf p).forms.map TNode.c)]) (Q := fun r => r = some [.agg (bareC (bareOf p))])
    (L := fun i τ => L24_1 X (.ptr 1 0) (.ptr 2 0) (encL 13 TPair.c xs) (.int .i64 (xs.length : Nat)) (.int .i64 (i : Nat)) τ) (by simp) (fun x _ => TPair.pure x) (fun x _ => TPair.len x) (fun x _ => TPair.scal x) (by unfold lim at hsz; omega) ?_ ?_ h2 hO
  · intro i hi τ v k1 k2 k3
    have hsm := sum_mem_le (f := TPair.sz) (List.getElem_mem hi)
    have hsp : xs[i].sz = 1 + xs[i].what.sz + xs[i].with_.sz + (xs[i].rates.map TNode.sz).sum := rfl
    have hrl := len_sum node_pos xs[i].rates
    obtain ⟨a0, a1, a2, a3, a4, a5, ha⟩ := node6 xs[i].what
    obtain ⟨b0, b1, b2, b3, b4, b5, hb⟩ := node6 xs[i].with_
    have hbuild : ∀ σ, evPrim [] σ (.build [(.int .i64 0), (.str []), (.bool false), .nils, .nils, .nils, (.int .i64 0), (.str []), (.bool false), .nils, .nils, .nils, .nils] [(0, 6, (.cst (.agg xs[i].what.c))), (6, 6, (.cst (.agg xs[i].with_.c)))]) = some (.agg (xs[i].what.c ++ xs[i].with_.c ++ [.nils]), σ) := fun σ => by
      simp [evPrim, fillP, Opd.ev, cells_agg, ha, hb]
    have hwl : (xs[i].what.c ++ xs[i].with_.c ++ [PV.nils]).length = 13 := by simp [TNode.len]
    have hws : (xs[i].what.c ++ xs[i].with_.c ++ [PV.nils]).all PV.scalar = true := by simp only [List.all_append, TNode.scal, Bool.true_and]; rfl
    have hset : ∀ w, (xs[i].what.c ++ xs[i].with_.c ++ [PV.nils]).set 12 w = xs[i].what.c ++ xs[i].with_.c ++ [w] := fun w => by rw [ha, hb]; rfl
    -- the heap ahead of the inner loop
    have hst0 : Stay (fun _ => False) τ (τ ++ [.box xs[i].c] ++ [.box (xs[i].what.c ++ xs[i].with_.c ++ [PV.nils])]) := (Stay.push _ _ _).trans (Stay.push _ _ _)
    have hinner : ∃ (τ1 : Heap) (w : PV), Stay (fun _ => False) τ τ1 ∧ τ1[τ.length + 1]? = some (.box (xs[i].what.c ++ xs[i].with_.c ++ [w])) ∧ Acc τ1 w 57 6 (xs[i].rates.map TNode.c) ∧
        L24_2 X (.ptr 1 0) (.ptr 2 0) (.ptr (τ.length + 1) 0) (encL 13 TPair.c xs) (.int .i64 (xs.length : Nat)) (.int .i64 (i : Nat)) (encL 6 TNode.c xs[i].rates) (.int .i64 (xs[i].rates.length : Nat)) (.int .i64 (0 : Nat)) (τ ++ [.box xs[i].c] ++ [.box (xs[i].what.c ++ xs[i].with_.c ++ [PV.nils])]) =
        J24_3 X (.ptr 1 0) (.ptr 2 0) (.ptr (τ.length + 1) 0) (encL 13 TPair.c xs) (.int .i64 (xs.length : Nat)) (.int .i64 (i : Nat)) τ1 := by
      refine app_loopS (α := TNode) (f := TNode.c) (xs := xs[i].rates) (ty := 57) (st := 6) (bytes := 104) (d := τ.length + 1) (off := 12) (cs := xs[i].what.c ++ xs[i].with_.c ++ [PV.nils]) (fix := []) (accs := [])
        (Q := fun r => ∃ (τ1 : Heap) (w : PV), Stay (fun _ => False) τ τ1 ∧ τ1[τ.length + 1]? = some (.box (xs[i].what.c ++ xs[i].with_.c ++ [w])) ∧ Acc τ1 w 57 6 (xs[i].rates.map TNode.c) ∧ r = J24_3 X (.ptr 1 0) (.ptr 2 0) (.ptr (τ.length + 1) 0) (encL 13 TPair.c xs) (.int .i64 (xs.length : Nat)) (.int .i64 (i : Nat)) τ1)
        (L := fun j ρ => L24_2 X (.ptr 1 0) (.ptr 2 0) (.ptr (τ.length + 1) 0) (encL 13 TPair.c xs) (.int .i64 (xs.length : Nat)) (.int .i64 (i : Nat)) (encL 6 TNode.c xs[i].rates) (.int .i64 (xs[i].rates.length : Nat)) (.int .i64 (j : Nat)) ρ) (by rw [hwl]; omega) (fun x _ => TNode.pure x) (fun x _ => TNode.len x) (fun x _ => TNode.scal x) (by unfold lim at hsz; omega) ?_ ?_ (by rw [hset, show τ.length + 1 = (τ ++ [PE.Obj.box xs[i].c]).length by simp]; exact get_last _ _) ⟨by simp, by simp⟩
      · intro j hj ρ w m1 m2 m3
        have hjs := sum_mem_le (f := TNode.sz) (List.getElem_mem hj)
        rw [hset] at m1
        refine ⟨ρ ++ [.box xs[i].rates[j].c] ++ [.box xs[i].rates[j].c], (Stay.push _ _ _).trans (Stay.push _ _ _), fun w' ρ' n1 n2 n3 _ => ?_⟩
        rw [hset] at n2
        have g12 : (xs[i].what.c ++ xs[i].with_.c ++ [w])[12]? = some w := by rw [ha, hb]; rfl
        have s12 : (xs[i].what.c ++ xs[i].with_.c ++ [w]).set 12 w' = xs[i].what.c ++ xs[i].with_.c ++ [w'] := by rw [ha, hb]; rfl
        try simp only
        rw [L24_2_eq]
        simp only [bin_lss, iaddr_enc _ _ hj, Option.bind_some, loadV_cref, loadP_all (TNode.len _), storeV_last (sz := 6) (cs := [(.int .i64 0), (.str []), (.bool false), .nils, .nils, .nils]) rfl (TNode.len _) (TNode.scal _), loadV_last, List.drop_zero, call43 X xs[i].rates[j] (by omega), faddrV_ptr, Nat.zero_add, load_box (get_prev (get_prev m1 _) _) g12, bslice_pure (TNode.canon _) (TNode.len _) (TNode.pure _), n1 _ (rowsOf_sl _ _ _ _), storeV_one n2 (show 12 < (xs[i].what.c ++ xs[i].with_.c ++ [w]).length by simp [TNode.len]) n3, s12, bin_add, wrap_succ (show j < 9223372036854775807 by unfold lim at hsz; omega), hset]
        simp [hj]
      · intro ρ w m1 m2 m3 m4
        rw [hset] at m1
        refine ⟨ρ, w, ⟨Nat.le_trans hst0.1 m4.1, fun id hid _ => ?_⟩, m1, m2, ?_⟩
        · rw [m4.2 id (Nat.lt_of_lt_of_le hid hst0.1) (by omega), hst0.2 id hid (fun h => h)]
        · try simp only
          rw [L24_2_eq]
          simp only [bin_lss, Option.bind_some, Int.lt_irrefl, decide_false, condK_false]
    obtain ⟨τ1, w, w1, w2, w3, w4⟩ := hinner
    refine ⟨τ1, w1, fun v' τ' q1 q2 q3 _ => ?_⟩
    have k1' : τ1[2]? = some (.box (nd p pa ar c0 c1 c2 c3 c4 f v)) := w1.get k1 (fun h => h)
    have hcoe : (canonV [none, none, none, (some 1), (some 1), (some 6), none, none, none, (some 1), (some 1), (some 6), (some 6)] (coeV τ1 (.agg (xs[i].what.c ++ xs[i].with_.c ++ [w])))).cells? = some xs[i].c := by
      have pw := TNode.pure xs[i].what
      have pt := TNode.pure xs[i].with_
      have cw := TNode.canon xs[i].what
      have ct := TNode.canon xs[i].with_
      rw [ha] at pw cw
      rw [hb] at pt ct
      simp only [pureL, Bool.and_eq_true, Bool.and_true] at pw pt
      simp only [canonL, List.cons.injEq, and_true] at cw ct
      have fc : ∀ q : PV, q.pure = true → coe1 τ1 q = q := fun q h => by cases q <;> first | rfl | (simp [PV.pure] at h)
      rw [ha, hb]
      simp only [List.cons_append, List.nil_append, coeV, List.map_cons, List.map_nil, canonV, canonL, fc _ pw.1, fc _ pw.2.1, fc _ pw.2.2.1, fc _ pw.2.2.2.1, fc _ pw.2.2.2.2.1, fc _ pw.2.2.2.2.2, fc _ pt.1, fc _ pt.2.1, fc _ pt.2.2.1, fc _ pt.2.2.2.1, fc _ pt.2.2.2.2.1, fc _ pt.2.2.2.2.2, w3.coe, cw.1, cw.2.1, cw.2.2.1, cw.2.2.2.1, cw.2.2.2.2.1, cw.2.2.2.2.2, ct.1, ct.2.1, ct.2.2.1, ct.2.2.2.1, ct.2.2.2.2.1, ct.2.2.2.2.2]
      show some _ = some (xs[i].what.c ++ xs[i].with_.c ++ [encL 6 TNode.c xs[i].rates])
      rw [ha, hb]
      rfl
    try simp only
    rw [L24_1_eq]
    simp only [bin_lss, iaddr_enc _ _ hi, Option.bind_some, loadV_cref, loadP_all (TPair.len _), st13, faddrV_ptr, Nat.zero_add, loadV_last, List.drop_zero, pa0, pa6, pa12, call43 X xs[i].what (by omega), call43 X xs[i].with_ (by omega), hbuild, List.length_append, List.length_singleton, len_enc]
    have hsto : storeV (τ ++ [.box xs[i].c] ++ [.box [(.int .i64 0), (.str []), (.bool false), .nils, .nils, .nils, (.int .i64 0), (.str []), (.bool false), .nils, .nils, .nils, .nils]]) 13 (.ptr (τ.length + 1) 0) (.agg (xs[i].what.c ++ xs[i].with_.c ++ [PV.nils])) = some (τ ++ [.box xs[i].c] ++ [.box (xs[i].what.c ++ xs[i].with_.c ++ [PV.nils])]) := by
      have := storeV_last (σ := τ ++ [PE.Obj.box xs[i].c]) (sz := 13) (cs := [(.int .i64 0), (.str []), (.bool false), .nils, .nils, .nils, (.int .i64 0), (.str []), (.bool false), .nils, .nils, .nils, .nils]) rfl hwl hws
      simpa using this
    have hld : loadV (τ ++ [.box xs[i].c] ++ [.box (xs[i].what.c ++ xs[i].with_.c ++ [PV.nils])]) false 1 (.ptr τ.length 12) = some (encL 6 TNode.c xs[i].rates) := by
      rw [two_last]; exact pa12 _
    simp only [hsto, Option.bind_some, hld, len_enc, show ((0 : Nat) : Int) = 0 from rfl] at w4 ⊢
    rw [show (PV.int .i64 0) = .int .i64 ((0 : Nat) : Int) from rfl] at *
    rw [w4, J24_3_eq]
    simp only [faddrV_ptr, Nat.zero_add, Option.bind_some, load_box k1' (show (nd p pa ar c0 c1 c2 c3 c4 f v)[3]? = some v from rfl), load_all (sz := 13) w2 (by simp [TNode.len]), bslice_one hcoe (TPair.len _) (TPair.pure _), q1 _ (rowsOf_sl _ _ _ _), storeV_one q2 (show 3 < ((nd p pa ar c0 c1 c2 c3 c4 f .nils).set 3 v).length by simp) q3, bin_add, wrap_succ (show i < 9223372036854775807 by unfold lim at hsz; omega)]
    simp [hi]
  · intro τ v k1 k2 k3
    try simp only
    rw [L24_1_eq]
    simp only [bin_lss, Option.bind_some, Int.lt_irrefl, decide_false, condK_false]
    rw [← hxs] at k2
    exact J24 X p pa ar c0 c1 c2 c3 c4 hpa har hc (k3.fix (1, z12) (by simp)).2 k1 (k3.accs (f, 57, 6, (bareOf p).forms.map TNode.c) (by simp)).1 k2
theorem L24f (hsz : ((bareOf p).subst.map TPair.sz).sum < lim) (hfz : ((bareOf p).forms.map TNode.sz).sum < lim) {τ : Heap} (h2 : τ[2]? = some (.box (nd p pa ar c0 c1 c2 c3 c4 .nils .nils))) (hO : Oth 2 .nils [(0, p.c), (1, z12)] [] τ) :
    L24_5 X (.ptr 0 0) (.ptr 1 0) (.ptr 2 0) (encL 6 TNode.c (bareOf p).forms) (.int .i64 ((bareOf p).forms.length : Nat)) (.int .i64 (0 : Nat)) τ = some [.agg (bareC (bareOf p))] := by
  generalize hxs : (bareOf p).forms = xs at hfz ⊢
  have hl := len_sum node_pos xs
  refine app_loop (α := TNode) (f := TNode.c) (xs := xs) (ty := 57) (st := 6) (bytes := 104) (d := 2) (off := 2) (cs := nd p pa ar c0 c1 c2 c3 c4 .nils .nils) (fix := [(0, p.c), (1, z12)]) (accs := []) (Q := fun r => r = some [.agg (bareC (bareOf p))])
    (L := fun i τ => L24_5 X (.ptr 0 0) (.ptr 1 0) (.ptr 2 0) (encL 6 TNode.c xs) (.int .i64 (xs.length : Nat)) (.int .i64 (i : Nat)) τ) (by simp) (fun x _ => TNode.pure x) (fun x _ => TNode.len x) (fun x _ => TNode.scal x) (by unfold lim at hfz; omega) ?_ ?_ h2 hO
  · intro i hi τ v k1 k2 k3
    have hsm := sum_mem_le (f := TNode.sz) (List.getElem_mem hi)
    refine ⟨τ ++ [.box xs[i].c] ++ [.box xs[i].c], (Stay.push _ _ _).trans (Stay.push _ _ _), fun v' τ' q1 q2 q3 _ => ?_⟩
    try simp only
    rw [L24_5_eq]
    simp only [bin_lss, iaddr_enc _ _ hi, Option.bind_some, loadV_cref, loadP_all (TNode.len _), storeV_last (sz := 6) (cs := [(.int .i64 0), (.str []), (.bool false), .nils, .nils, .nils]) rfl (TNode.len _) (TNode.scal _), loadV_last, List.drop_zero, call43 X xs[i] (by omega), faddrV_ptr, Nat.zero_add, load_box (get_prev (get_prev k1 _) _) (show ((nd p pa ar c0 c1 c2 c3 c4 .nils .nils).set 2 v)[2]? = some v from rfl), bslice_pure (TNode.canon _) (TNode.len _) (TNode.pure _), q1 _ (rowsOf_sl _ _ _ _), storeV_one q2 (show 2 < ((nd p pa ar c0 c1 c2 c3 c4 .nils .nils).set 2 v).length by simp) q3, bin_add, wrap_succ (show i < 9223372036854775807 by unfold lim at hfz; omega)]
    simp [hi]
  · intro τ v k1 k2 k3
    try simp only
    rw [L24_5_eq]
    simp only [bin_lss, Option.bind_some, Int.lt_irrefl, decide_false, condK_false]
    rw [J24_6_eq]
    have f0 : τ[0]? = some (.box p.c) := (k3.fix (0, p.c) (by simp)).2
    simp only [faddrV_ptr, Nat.zero_add, Option.bind_some, load_box f0 (pr3' p), len_enc]
    rw [← hxs] at k2
    exact L24s X p pa ar c0 c1 c2 c3 c4 hpa har hc hsz k1 (k3.next k2)
end
theorem barep_ok (X : Ext) (p : TProof) (hp : p.sz < lim) : (Hw C X).pure 24 [.agg p.c] = some [.agg (bareC (bareOf p))] := by
  have hszs : ((bareOf p).subst.map TPair.sz).sum < lim ∧ ((bareOf p).forms.map TNode.sz).sum < lim ∧ (bareOf p).path.length < lim ∧ (bareOf p).args.length < lim ∧ (bareOf p).cert.sz < lim := by
    cases p
    simp only [TProof.sz, bareOf] at hp ⊢
    rename_i args _ _
    have := len_sum (f := fun s : Str => s.length + 1) (fun _ => by omega) args
    omega
  obtain ⟨z1, z2, z3, z4, z5⟩ := hszs
  obtain ⟨pa, a1, _, a3, a4, a5⟩ := copy_enc (τ := [.box p.c, .box z12]) (bytes := 8) cInt_pure (fun _ => rfl) (xs := (bareOf p).path) (st := 1) (by unfold lim at z3; omega)
  obtain ⟨ar, b1, _, b3, b4, b5⟩ := copy_enc (τ := [.box p.c, .box z12]) (bytes := 16) cStr_pure (fun _ => rfl) (xs := (bareOf p).args) (st := 1) (by unfold lim at z4; omega)
  obtain ⟨c0, c1, c2, c3, c4, d1, d2, d3, d4⟩ := TCert.five (bareOf p).cert
  rw [F24]
  have g0 : ∀ l : Heap, (PE.Obj.box p.c :: l)[0]? = some (.box p.c) := fun _ => rfl
  have e6 : loadV [.box p.c, .box z12] true 5 (.ptr 0 6) = some (.agg (bareOf p).cert.c) := by rw [loadV_ptr (show ([PE.Obj.box p.c, .box z12] : Heap)[0]? = some (.box p.c) from rfl)]; exact pr6 p
  have e0 : ∀ σ, evPrim [] σ (.build [(.str []), (.str []), .nils, .nils, .nils, .nils, (.int .i64 0), .nils, .nils, .nils, .nils, .nils] [(0, 1, (.cst (.str (bareOf p).rule))), (1, 1, (.cst (.str (bareOf p).name))), (4, 1, (.cst pa)), (5, 1, (.cst ar)), (6, 5, (.cst (.agg (bareOf p).cert.c)))]) = some (.agg (nd p pa ar c0 c1 c2 c3 c4 .nils .nils), σ) := fun σ => by
    simp [evPrim, fillP, Opd.ev, cells_scal a3, cells_scal b3, cells_str, cells_agg, d1]
  simp only [List.all_cons, List.all_nil, Bool.and_eq_true, Bool.and_true] at d4
  have hsc : (nd p pa ar c0 c1 c2 c3 c4 .nils .nils).all PV.scalar = true := by
    simp only [nd, List.all_cons, List.all_nil, a3, b3, d4.1, d4.2.1, d4.2.2.1, d4.2.2.2.1, d4.2.2.2.2, Bool.and_self, Bool.and_true]
    rfl
  have hst : storeV [.box p.c, .box z12, .box z12] 12 (.ptr 2 0) (.agg (nd p pa ar c0 c1 c2 c3 c4 .nils .nils)) = some [.box p.c, .box z12, .box (nd p pa ar c0 c1 c2 c3 c4 .nils .nils)] :=
    storeV_all (sz := 12) (cells := z12) (ys := nd p pa ar c0 c1 c2 c3 c4 .nils .nils) (σ := [.box p.c, .box z12, .box z12]) rfl rfl rfl hsc
  simp only [boxV_agg, Option.bind_some, List.nil_append, List.length_nil, List.length_cons, List.cons_append, faddrV_ptr, Nat.zero_add, Nat.reduceAdd, load_box (g0 _) (pr0' p), load_box (g0 _) (pr1'' p), load_box (g0 _) (pr4' p), load_box (g0 _) (pr5' p), a1, b1, e6, call42 X _ z5, e0, hst, load_box (g0 _) (pr2' p), len_enc]
  exact L24f X p pa ar c0 c1 c2 c3 c4 ⟨a3, a4, a5⟩ ⟨b3, b4, b5⟩ ⟨d1, d2, d3, by simp [d4]⟩ z1 z2 rfl ⟨by simp, by simp⟩
theorem call24 {R : Type} (X : Ext) (p : TProof) (h : p.sz < lim) (σ : Heap) (pc : Bool) (k : PV → Heap → Option R) : callK C (Hw C X) σ pc (.fn 24 []) [.agg p.c] k = k (.agg (bareC (bareOf p))) σ :=
  callK_pure C24 rfl (by simp only [pureL, PV.pure, TProof.pure, Bool.and_self]) (by simp only [p24, canonA, canonV, TProof.canon]) (barep_ok X p h)
end Go.Proofs.YtkpbfldnickghaaDoor
set_option linter.unusedVariables false
set_option linter.unusedSimpArgs false
namespace Go.Proofs.YtkpbfldnickghaaDoor
open Go Go.PE
mutual
/-- Nodes and levels of a proof. -/
def nodes : TProof → Nat
  | .mk _ _ _ _ _ _ _ kids => 1 + nodess kids
def nodess : List TProof → Nat
  | [] => 0
  | p :: r => nodes p + nodess r
end
mutual
def levels : TProof → Nat
  | .mk _ _ _ _ _ _ _ kids => 1 + levelss kids
def levelss : List TProof → Nat
  | [] => 0
  | p :: r => max (levels p) (levelss r)
end
theorem nodes_eq (p : TProof) : nodes p = 1 + nodess (kidsOf p) := by cases p; simp only [nodes, kidsOf]
theorem levels_eq (p : TProof) : levels p = 1 + levelss (kidsOf p) := by cases p; simp only [levels, kidsOf]
theorem nodess_sum : ∀ (l : List TProof), nodess l = (l.map nodes).sum
  | [] => rfl
  | p :: r => by simp [nodess, nodess_sum r]
theorem nodess_take {l : List TProof} {i : Nat} (h : i < l.length) : nodess (l.take (i + 1)) = nodess (l.take i) + nodes l[i] := by
  rw [nodess_sum, nodess_sum, List.take_succ_eq_append_getElem h, List.map_append, List.sum_append]
  simp
theorem nodess_take_le (l : List TProof) (i : Nat) : nodess (l.take i) ≤ nodess l := by
  have : nodess (l.take i) + nodess (l.drop i) = nodess l := by
    rw [nodess_sum, nodess_sum, nodess_sum, ← List.sum_append, ← List.map_append, List.take_append_drop]
  omega
theorem levelss_app : ∀ (a b : List TProof), levelss (a ++ b) = max (levelss a) (levelss b)
  | [], b => by simp [levelss]
  | p :: a, b => by simp only [List.cons_append, levelss, levelss_app a b]; omega
theorem levelss_take {l : List TProof} {i : Nat} (h : i < l.length) : levelss (l.take (i + 1)) = max (levelss (l.take i)) (levels l[i]) := by
  rw [List.take_succ_eq_append_getElem h, levelss_app]
  simp [levelss]
theorem levelss_take_le (l : List TProof) (i : Nat) : levelss (l.take i) ≤ levelss l := by
  have : levelss l = max (levelss (l.take i)) (levelss (l.drop i)) := by rw [← levelss_app, List.take_append_drop]
  omega
theorem levels_pos (p : TProof) : 1 ≤ levels p := by rw [levels_eq]; omega
theorem nodes_pos (p : TProof) : 1 ≤ nodes p := by rw [nodes_eq]; omega
mutual
theorem nodes_sz : ∀ (p : TProof), nodes p ≤ p.sz
  | .mk _ _ _ _ _ _ _ kids => by simp only [nodes, TProof.sz]; have := nodess_sz kids; omega
theorem nodess_sz : ∀ (l : List TProof), nodess l ≤ TProof.szs l
  | [] => by simp [nodess, TProof.szs]
  | p :: r => by simp only [nodess, TProof.szs]; have := nodes_sz p; have := nodess_sz r; omega
end
mutual
theorem levels_nodes : ∀ (p : TProof), levels p ≤ nodes p
  | .mk _ _ _ _ _ _ _ kids => by simp only [nodes, levels]; have := levelss_nodess kids; omega
theorem levelss_nodess : ∀ (l : List TProof), levelss l ≤ nodess l
  | [] => by simp [levelss, nodess]
  | p :: r => by simp only [levelss, nodess]; have := levels_nodes p; have := levelss_nodess r; omega
end
/-- Within so many nodes and levels. -/
def fits (p : TProof) (b n : Int) : Bool := decide ((nodes p : Int) ≤ b ∧ (levels p : Int) ≤ n)
theorem within_ok (X : Ext) : ∀ (p : TProof), p.ok → ∀ (σ : Heap) (id : Nat) (b n : Int), σ[id]? = some (.box [.int .i64 b]) → 0 ≤ b → b ≤ 2000 → 0 ≤ n → n ≤ 60 →
    ∃ σ', (Hw C X).imp 41 [.agg p.c, .ptr id 0, .int .i64 n] σ = some ([.bool (fits p b n)], σ') ∧ (fits p b n = true → σ'[id]? = some (.box [.int .i64 (b - nodes p)])) ∧ Stay (fun k => k = id) σ σ'
  | p, hp, σ, id, b, n, hσ, hb0, hb1, hn0, hn1 => by
    have K := kids_ok_of hp
    have b3 := K.1
    unfold Sm at b3
    have hid := id_lt hσ
    have np := nodes_eq p
    have lp := levels_eq p
    rw [F41]
    have nc : ∀ (σ : Heap) (i o : Nat), evPrim [] σ (.nilchk (.cst (.ptr i o))) = some (.ptr i o, σ) := fun _ _ _ => rfl
    have h1 : (σ ++ [.box p.c])[id]? = some (.box [.int .i64 b]) := get_prev hσ _
    have w1 : IntKind.i64.wrap (b - 1) = b - 1 := wrap_i64 (by omega) (by omega)
    have hset : ([PV.int .i64 b] : List PV).set 0 (.int .i64 (b - 1)) = [.int .i64 (b - 1)] := rfl
    have h2 : ((σ ++ [PE.Obj.box p.c]).set id (.box [.int .i64 (b - 1)]))[id]? = some (.box [.int .i64 (b - 1)]) := get_set h1 _
    have hpush : Stay (fun k => k = id) σ ((σ ++ [PE.Obj.box p.c]).set id (.box [.int .i64 (b - 1)])) := (Stay.push _ _ _).trans (Stay.set (S := fun k => k = id) rfl _)
    have h3 : ((σ ++ [PE.Obj.box p.c]).set id (.box [.int .i64 (b - 1)]))[σ.length]? = some (.box p.c) := get_other (get_last _ _) (by omega) _
    simp only [boxV_agg, Option.bind_some, nc, load_box h1 (show ([PV.int .i64 b] : List PV)[0]? = some (.int .i64 b) from rfl), bin_sub, w1, storeV_one h1 (show 0 < ([PV.int .i64 b] : List PV).length by simp) (show (PV.int .i64 (b - 1)).scalar = true from rfl), hset, load_box h2 (show ([PV.int .i64 (b - 1)] : List PV)[0]? = some (.int .i64 (b - 1)) from rfl), bin_lss, bin_leq]
    by_cases hlt : b - 1 < 0
    · have : fits p b n = false := by
        unfold fits
        rw [decide_eq_false]
        omega
      refine ⟨_, ?_, fun h => (by rw [this] at h; cases h), hpush⟩
      simp only [hlt, decide_true, guardR_tf, Option.bind_some, pickV_true, condK_true, this]
      simp only [finVs_pure, keepArgs_pure _ _ _ (show (p41.keepr.all fun k => !k.1) = true from rfl) (show pureL [PV.bool false] = true from rfl)]
      rfl
    · by_cases hle : n ≤ 0
      · have hl := levels_pos p
        have : fits p b n = false := by
          unfold fits
          rw [decide_eq_false]
          omega
        refine ⟨_, ?_, fun h => (by rw [this] at h; cases h), hpush⟩
        simp only [hlt, hle, decide_false, decide_true, guardR_yes, Option.bind_some, nthV_succ, nthV_zero, pickV_false, condK_true, this]
        simp only [keepArgs_pure _ _ _ (show (p41.keepr.all fun k => !k.1) = true from rfl) (show pureL [PV.bool false] = true from rfl)]
        rfl
      · have hk : p.c[11]? = some (encL 12 TProof.c (kidsOf p)) := by
          obtain ⟨rule, name, forms, subst, path, args, ⟨kind, nums, polys, squares, ckids⟩, kids⟩ := p
          rw [TProof.c_eq]
          simp only [kidsOf, TCert.c_eq]
          rfl
        simp only [hlt, hle, decide_false, guardR_yes, Option.bind_some, nthV_succ, nthV_zero, pickV_false, condK_false, faddrV_ptr, Nat.zero_add, load_box h3 hk, len_enc]
        refine inv_loop2 (n := (kidsOf p).length) (Q := fun r => ∃ σ', r = some ([.bool (fits p b n)], σ') ∧ (fits p b n = true → σ'[id]? = some (.box [.int .i64 (b - nodes p)])) ∧ Stay (fun k => k = id) σ σ')
          (L := fun i τ => L41_1 X (.ptr id 0) (.int .i64 n) (encL 12 TProof.c (kidsOf p)) (.int .i64 ((kidsOf p).length : Nat)) (.int .i64 (i : Nat)) τ)
          (I := fun i τ => τ[id]? = some (.box [.int .i64 (b - 1 - nodess ((kidsOf p).take i))]) ∧ (nodess ((kidsOf p).take i) : Int) ≤ b - 1 ∧ (levelss ((kidsOf p).take i) : Int) ≤ n - 1 ∧ Stay (fun k => k = id) σ τ) ?_ ?_ ⟨by simpa [nodess] using h2, by simp [nodess]; omega, by simp [levelss]; omega, hpush⟩
        · rintro τ ⟨k1, k2, k3, k4⟩
          rw [List.take_length] at k1 k2 k3
          have : fits p b n = true := by
            unfold fits
            rw [decide_eq_true]
            omega
          refine ⟨τ, ?_, fun _ => ?_, k4⟩
          · try simp only
            rw [L41_1_eq]
            simp only [bin_lss, Option.bind_some, Int.lt_irrefl, decide_false, condK_false, this, keepArgs_pure _ _ _ (show (p41.keepr.all fun k => !k.1) = true from rfl) (show pureL [PV.bool true] = true from rfl)]
            rfl
          · rw [k1, np]
            congr 4
            omega
        · rintro i hi τ ⟨k1, k2, k3, k4⟩
          have hid' : id < τ.length := id_lt k1
          have hsz := kids_size (List.getElem_mem hi)
          obtain ⟨τ', e1, e2, e3⟩ := within_ok X (kidsOf p)[i] (K.2 _ (List.getElem_mem hi)) (τ ++ [.box (kidsOf p)[i].c]) id (b - 1 - nodess ((kidsOf p).take i)) (n - 1) (get_prev k1 _) (by omega) (by omega) (by omega) (by omega)
          have wn : IntKind.i64.wrap (n - 1) = n - 1 := wrap_i64 (by omega) (by omega)
          have hcall := fun (K : PV → Heap → Option (List PV × Heap)) => callK_imp (k := K) (caps := []) (args := [.agg (kidsOf p)[i].c, .ptr id 0, .int .i64 (n - 1)]) C41 (σ := τ ++ [.box (kidsOf p)[i].c]) (args' := [.agg (kidsOf p)[i].c, .ptr id 0, .int .i64 (n - 1)]) (by
            simp only [List.append_nil, p41, keepArgs, coe_pure (show (PV.agg (kidsOf p)[i].c).pure = true from TProof.pure _), coe_ptr, coe_int, canonV, TProof.canon, canon1_none, List.map_nil]) (by simp [pureL, PV.pure]) e1
          have st2 : Stay (fun k => k = id) σ τ' := (k4.trans (Stay.push _ _ _)).trans e3
          have nt := nodess_take hi
          have lt := levelss_take hi
          have step : L41_1 X (.ptr id 0) (.int .i64 n) (encL 12 TProof.c (kidsOf p)) (.int .i64 ((kidsOf p).length : Nat)) (.int .i64 (i : Nat)) τ =
              condK (.bool (!fits (kidsOf p)[i] (b - 1 - nodess ((kidsOf p).take i)) (n - 1))) (fun _ => some (keepArgs τ' p41.keepr [(.bool false)], τ')) (fun _ => L41_1 X (.ptr id 0) (.int .i64 n) (encL 12 TProof.c (kidsOf p)) (.int .i64 ((kidsOf p).length : Nat)) (.int .i64 ((i + 1 : Nat) : Int)) τ') := by
            rw [L41_1_eq]
            simp only [bin_lss, iaddr_enc _ _ hi, Option.bind_some, loadV_cref, loadP_all (TProof.len _), storeV_last (sz := 12) (cs := [(.str []), (.str []), .nils, .nils, .nils, .nils, (.int .i64 0), .nils, .nils, .nils, .nils, .nils]) rfl (TProof.len _) (TProof.scal _), loadV_last, List.drop_zero, bin_sub, wn, hcall, packP, not_bool, bin_add, wrap_succ (show i < 9223372036854775807 by omega)]
            simp [hi]
          try simp only
          rw [step]
          by_cases hf : fits (kidsOf p)[i] (b - 1 - nodess ((kidsOf p).take i)) (n - 1) = true
          · right
            have hf' := hf
            unfold fits at hf'
            rw [decide_eq_true_iff] at hf'
            refine ⟨τ', ⟨?_, by rw [nt]; omega, by rw [lt]; omega, st2⟩, by simp [hf]⟩
            rw [e2 hf, nt]
            congr 4
            omega
          · left
            have hff : fits (kidsOf p)[i] (b - 1 - nodess ((kidsOf p).take i)) (n - 1) = false := by simpa using hf
            unfold fits at hff
            rw [decide_eq_false_iff_not] at hff
            have g1 := nodess_take_le (kidsOf p) (i + 1)
            have g2 := levelss_take_le (kidsOf p) (i + 1)
            have : fits p b n = false := by
              unfold fits
              rw [decide_eq_false]
              omega
            refine ⟨τ', ?_, fun h => (by rw [this] at h; cases h), st2⟩
            simp only [hf, Bool.not_false, condK_true, this, keepArgs_pure _ _ _ (show (p41.keepr.all fun k => !k.1) = true from rfl) (show pureL [PV.bool false] = true from rfl)]
            rfl
termination_by p => SizeOf.sizeOf p
theorem small_ok (X : Ext) (p : TProof) (hp : p.ok) : (Hw C X).pure 22 [.agg p.c] = some [.bool (fits p 2000 60)] := by
  rw [F22]
  have h0 : ([PE.Obj.box p.c, .box [.int .i64 0]] : Heap)[1]? = some (.box [.int .i64 0]) := rfl
  have h1 : ([PE.Obj.box p.c, .box [.int .i64 2000]] : Heap)[1]? = some (.box [.int .i64 2000]) := rfl
  obtain ⟨σ', e1, _, _⟩ := within_ok X p hp [.box p.c, .box [.int .i64 2000]] 1 2000 60 h1 (by omega) (by omega) (by omega) (by omega)
  have hcall := fun (K : PV → Heap → Option (List PV)) => callK_imp (k := K) (caps := []) (args := [.agg p.c, .ptr 1 0, .int .i64 60]) C41 (σ := [.box p.c, .box [.int .i64 2000]]) (args' := [.agg p.c, .ptr 1 0, .int .i64 60]) (by
    simp only [List.append_nil, p41, keepArgs, coe_pure (show (PV.agg p.c).pure = true from TProof.pure _), coe_ptr, coe_int, canonV, TProof.canon, canon1_none, List.map_nil]) (by simp [pureL, PV.pure]) e1
  have hst : storeV [.box p.c, .box [.int .i64 0]] 1 (.ptr 1 0) (.int .i64 2000) = some [.box p.c, .box [.int .i64 2000]] := by
    rw [storeV_one h0 (by simp) rfl]; rfl
  simp only [boxV_agg, Option.bind_some, List.nil_append, List.length_nil, List.length_cons, List.cons_append, Nat.zero_add, hst, load_all (sz := 12) (show ([PE.Obj.box p.c, .box [.int .i64 2000]] : Heap)[0]? = some (.box p.c) from rfl) (TProof.len p), hcall, packP]
  cases fits p 2000 60 <;> rfl
theorem call22 {R : Type} (X : Ext) (p : TProof) (h : p.ok) (σ : Heap) (pc : Bool) (k : PV → Heap → Option R) : callK C (Hw C X) σ pc (.fn 22 []) [.agg p.c] k = k (.bool (fits p 2000 60)) σ :=
  callK_pure C22 rfl (by simp only [pureL, PV.pure, TProof.pure, Bool.and_self]) (by simp only [p22, canonA, canonV, TProof.canon]) (small_ok X p h)
/-! The reference's. -/
theorem size20_ok (X : Ext) : ∀ (p : TProof), p.ok → p.sz < lim → (Hw C X).pure 49 [.agg p.c] = some [.int .i64 (nodes p : Nat)]
  | p, hp, hz => by
    have K := kids_ok_of hp
    have b3 := K.1
    unfold Sm at b3
    have hk : p.c[11]? = some (encL 12 TProof.c (kidsOf p)) := by
      obtain ⟨rule, name, forms, subst, path, args, ⟨kind, nums, polys, squares, ckids⟩, kids⟩ := p
      rw [TProof.c_eq]
      simp only [kidsOf, TCert.c_eq]
      rfl
    have h0 : ([PE.Obj.box p.c] : Heap)[0]? = some (.box p.c) := rfl
    have kz : ∀ k ∈ kidsOf p, k.sz < lim := fun k hk => by
      cases p
      simp only [TProof.sz, TProof.szs_sum, kidsOf] at hz hk
      have := sum_mem_le (f := TProof.sz) hk
      omega
    have hn := nodes_sz p
    rw [F49]
    simp only [boxV_agg, Option.bind_some, List.nil_append, List.length_nil]
    refine inv_loop (n := (kidsOf p).length) (R := List PV) (Q := fun r => r = some [.int .i64 (nodes p : Nat)]) (L := fun i τ => L49_1 X (.ptr 0 0) (.int .i64 ((1 + nodess ((kidsOf p).take i) : Nat) : Int)) (.int .i64 (i : Nat)) τ) (I := fun i τ => τ = [.box p.c]) ?_ ?_ rfl
    · rintro τ rfl
      try simp only
      rw [L49_1_eq]
      simp only [faddrV_ptr, Nat.zero_add, Option.bind_some, load_box h0 hk, len_enc, bin_lss, Int.lt_irrefl, decide_false, condK_false, List.take_length]
      rw [nodes_eq]
      rfl
    · rintro i hi τ rfl
      refine ⟨_, rfl, ?_⟩
      have hsz := kids_size (List.getElem_mem hi)
      have IH := size20_ok X (kidsOf p)[i] (K.2 _ (List.getElem_mem hi)) (kz _ (List.getElem_mem hi))
      have hcall := fun σ pc (K : PV → Heap → Option (List PV)) => callK_pure (R := List PV) (pc := pc) (σ := σ) (k := K) C49 rfl (by simp only [pureL, PV.pure, TProof.pure, Bool.and_self]) (by simp only [p49, canonA, canonV, TProof.canon]) IH
      have nt := nodess_take hi
      have g1 := nodess_take_le (kidsOf p) (i + 1)
      have np := nodes_eq p
      have e : (((1 + nodess ((kidsOf p).take i) : Nat) : Int) + ((nodes (kidsOf p)[i] : Nat) : Int)) = ((1 + nodess ((kidsOf p).take (i + 1)) : Nat) : Int) := by rw [nt]; omega
      have hw : IntKind.i64.wrap ((1 + nodess ((kidsOf p).take (i + 1)) : Nat) : Int) = ((1 + nodess ((kidsOf p).take (i + 1)) : Nat) : Int) := wrap_nat (by unfold lim at hz; omega)
      try simp only
      rw [L49_1_eq]
      simp only [faddrV_ptr, Nat.zero_add, Option.bind_some, load_box h0 hk, len_enc, bin_lss, iaddr_enc _ _ hi, loadV_cref, loadP_all (TProof.len _), hcall, packP, bin_add, e, hw, wrap_succ (show i < 9223372036854775807 by omega)]
      simp [hi]
termination_by p => SizeOf.sizeOf p
theorem levels20_ok (X : Ext) : ∀ (p : TProof), p.ok → p.sz < lim → (Hw C X).pure 50 [.agg p.c] = some [.int .i64 (levels p : Nat)]
  | p, hp, hz => by
    have K := kids_ok_of hp
    have b3 := K.1
    unfold Sm at b3
    have hk : p.c[11]? = some (encL 12 TProof.c (kidsOf p)) := by
      obtain ⟨rule, name, forms, subst, path, args, ⟨kind, nums, polys, squares, ckids⟩, kids⟩ := p
      rw [TProof.c_eq]
      simp only [kidsOf, TCert.c_eq]
      rfl
    have h0 : ([PE.Obj.box p.c] : Heap)[0]? = some (.box p.c) := rfl
    have kz : ∀ k ∈ kidsOf p, k.sz < lim := fun k hk => by
      cases p
      simp only [TProof.sz, TProof.szs_sum, kidsOf] at hz hk
      have := sum_mem_le (f := TProof.sz) hk
      omega
    have hn := nodes_sz p
    have hln := levels_nodes p
    have lp := levels_eq p
    rw [F50]
    simp only [boxV_agg, Option.bind_some, List.nil_append, List.length_nil]
    refine inv_loop (n := (kidsOf p).length) (R := List PV) (Q := fun r => r = some [.int .i64 (levels p : Nat)]) (L := fun i τ => L50_1 X (.ptr 0 0) (.int .i64 ((levelss ((kidsOf p).take i) : Nat) : Int)) (.int .i64 (i : Nat)) τ) (I := fun i τ => τ = [.box p.c]) ?_ ?_ rfl
    · rintro τ rfl
      have e : ((levelss (kidsOf p) : Nat) : Int) + 1 = ((levels p : Nat) : Int) := by omega
      try simp only
      rw [L50_1_eq]
      simp only [faddrV_ptr, Nat.zero_add, Option.bind_some, load_box h0 hk, len_enc, bin_lss, Int.lt_irrefl, decide_false, condK_false, List.take_length, bin_add, e, wrap_nat (show levels p < 9223372036854775808 by unfold lim at hz; omega)]
      rfl
    · rintro i hi τ rfl
      refine ⟨_, rfl, ?_⟩
      have hsz := kids_size (List.getElem_mem hi)
      have IH := levels20_ok X (kidsOf p)[i] (K.2 _ (List.getElem_mem hi)) (kz _ (List.getElem_mem hi))
      have hcall := fun σ pc (K : PV → Heap → Option (List PV)) => callK_pure (R := List PV) (pc := pc) (σ := σ) (k := K) C50 rfl (by simp only [pureL, PV.pure, TProof.pure, Bool.and_self]) (by simp only [p50, canonA, canonV, TProof.canon]) IH
      have lt := levelss_take hi
      have e : maxL ((levelss ((kidsOf p).take i) : Nat) : Int) [((levels (kidsOf p)[i] : Nat) : Int)] = ((levelss ((kidsOf p).take (i + 1)) : Nat) : Int) := by
        rw [lt]
        simp only [maxL]
        split <;> omega
      try simp only
      rw [L50_1_eq]
      simp only [faddrV_ptr, Nat.zero_add, Option.bind_some, load_box h0 hk, len_enc, bin_lss, iaddr_enc _ _ hi, loadV_cref, loadP_all (TProof.len _), hcall, packP, mx_two, e, bin_add, wrap_succ (show i < 9223372036854775807 by omega)]
      simp [hi]
termination_by p => SizeOf.sizeOf p
theorem large_ok (X : Ext) (p : TProof) (hp : p.ok) (hz : p.sz < lim) : (Hw C X).pure 28 [.agg p.c] = some [.bool (!fits p 2000 60)] := by
  have c49 := fun σ pc (K : PV → Heap → Option (List PV)) => callK_pure (R := List PV) (pc := pc) (σ := σ) (k := K) C49 rfl (by simp only [pureL, PV.pure, TProof.pure, Bool.and_self]) (by simp only [p49, canonA, canonV, TProof.canon]) (size20_ok X p hp hz)
  have c50 := fun σ pc (K : PV → Heap → Option (List PV × Heap)) => callK_pure (R := List PV × Heap) (pc := pc) (σ := σ) (k := K) C50 rfl (by simp only [pureL, PV.pure, TProof.pure, Bool.and_self]) (by simp only [p50, canonA, canonV, TProof.canon]) (levels20_ok X p hp hz)
  rw [F28]
  by_cases h1 : (nodes p : Int) > 2000
  · have : fits p 2000 60 = false := by unfold fits; rw [decide_eq_false]; omega
    simp only [boxV_agg, Option.bind_some, List.nil_append, List.length_nil, load_all (sz := 12) (show ([PE.Obj.box p.c] : Heap)[0]? = some (.box p.c) from rfl) (TProof.len p), c49, packP, bin_gtr, h1, decide_true, guardR_tf, pickV_true, this]
    rfl
  · by_cases h2 : (levels p : Int) > 60
    · have : fits p 2000 60 = false := by unfold fits; rw [decide_eq_false]; omega
      simp only [boxV_agg, Option.bind_some, List.nil_append, List.length_nil, load_all (sz := 12) (show ([PE.Obj.box p.c] : Heap)[0]? = some (.box p.c) from rfl) (TProof.len p), c49, c50, packP, bin_gtr, h1, h2, decide_true, decide_false, guardR_yes, nthV_succ, nthV_zero, pickV_false, this]
      rfl
    · have : fits p 2000 60 = true := by unfold fits; rw [decide_eq_true]; omega
      simp only [boxV_agg, Option.bind_some, List.nil_append, List.length_nil, load_all (sz := 12) (show ([PE.Obj.box p.c] : Heap)[0]? = some (.box p.c) from rfl) (TProof.len p), c49, c50, packP, bin_gtr, h1, h2, decide_false, guardR_yes, nthV_succ, nthV_zero, pickV_false, this]
      rfl
theorem call28 {R : Type} (X : Ext) (p : TProof) (h : p.ok) (hz : p.sz < lim) (σ : Heap) (pc : Bool) (k : PV → Heap → Option R) : callK C (Hw C X) σ pc (.fn 28 []) [.agg p.c] k = k (.bool (!fits p 2000 60)) σ :=
  callK_pure C28 rfl (by simp only [pureL, PV.pure, TProof.pure, Bool.and_self]) (by simp only [p28, canonA, canonV, TProof.canon]) (large_ok X p h hz)
end Go.Proofs.YtkpbfldnickghaaDoor
