/- U32, U33, U34, U35 of the seat, in one text. -/
import Derived.Test.YtkpbfldnickghaaDoorUC
import Derived.Sort.KeysCollected
import Derived.Sort.Walk0
set_option linter.unusedVariables false
set_option linter.unusedSimpArgs false
namespace Go.Proofs.YtkpbfldnickghaaDoor
open Go Go.PE
abbrev shP : List (Option Nat) := [none, none, some 6, some 13, some 1, some 1, none, some 3, some 2, some 5, some 5, some 12]
/-- A name put into a sorted list. -/
def insN (n : Str) : Bool → List Str → List Str
  | put, [] => if put then [] else [n]
  | put, x :: r => (if put = false ∧ Op.bytesLess x n = false then [n] else []) ++ ((if x = n then [] else [x]) ++ insN n (put || !Op.bytesLess x n) r)
abbrev lemmaS : Str := [108, 101, 109, 109, 97]
mutual
def lem (l : List Str) : TProof → List Str
  | .mk rule name forms subst path args cert kids => lems (if rule = lemmaS then insN name false l else l) kids
def lems (l : List Str) : List TProof → List Str
  | [] => l
  | p :: ps => lems (lem l p) ps
end
theorem lem_eq (l : List Str) (p : TProof) : lem l p = lems (if (bareOf p).rule = lemmaS then insN (bareOf p).name false l else l) (kidsOf p) := by
  cases p
  rw [lem]
  rfl
theorem lems_snoc : ∀ (ps : List TProof) (l : List Str) (p : TProof), lems l (ps ++ [p]) = lem (lems l ps) p
  | [], l, p => by simp [lems]
  | q :: ps, l, p => by simp only [List.cons_append, lems, lems_snoc ps]
theorem insN_len : ∀ (l : List Str) (n : Str) (put : Bool), (insN n put l).length ≤ l.length + (if put then 0 else 1)
  | [], n, put => by cases put <;> simp [insN]
  | x :: r, n, put => by
    have h1 := insN_len r n (put || !Op.bytesLess x n)
    simp only [insN, List.length_append, List.length_cons]
    cases put <;> cases hb : Op.bytesLess x n <;> simp only [hb] at h1 ⊢ <;> (by_cases hx : x = n <;> simp [hx] at h1 ⊢ <;> omega)
mutual
theorem lem_len : ∀ (p : TProof) (l : List Str), (lem l p).length ≤ l.length + nodes p
  | .mk rule name forms subst path args cert kids, l => by
    rw [lem]
    simp only [nodes]
    have h := lems_len kids (if rule = lemmaS then insN name false l else l)
    have h2 := insN_len l name false
    simp only [Bool.false_eq_true, if_false] at h2
    by_cases hr : rule = lemmaS
    · rw [if_pos hr] at h ⊢
      omega
    · rw [if_neg hr] at h ⊢
      omega
theorem lems_len : ∀ (ps : List TProof) (l : List Str), (lems l ps).length ≤ l.length + nodess ps
  | [], l => by simp [lems, nodess]
  | p :: ps, l => by
    have h1 := lem_len p l
    have h2 := lems_len ps (lem l p)
    simp only [lems, nodess]
    omega
end
/-- A list of texts as a value, or one that has grown. -/
def ValS (σ : Heap) (v : PV) (l : List Str) : Prop := v = encL 1 cStr l ∨ Acc σ v 9 1 (l.map cStr)
theorem ValS.coe {σ : Heap} {v : PV} {l : List Str} (h : ValS σ v l) : canonV [some 1] (coeV σ v) = encL 1 cStr l := by
  rcases h with rfl | h
  · rw [coe_pure (encL_pure (fun x _ => cStr_pure x)), canon_sl]
  · rw [h.coeV]; rfl
theorem ValS.fin {σ : Heap} {v : PV} {l : List Str} (h : ValS σ v l) : canonV [some 1] (finV σ v) = encL 1 cStr l := by
  rcases h with rfl | h
  · rw [fin_pure σ (encL_pure (fun x _ => cStr_pure x)), canon_sl]
  · rw [h.finV]; rfl
theorem ld_cStr (s : Str) : loadP false 1 (cStr s) = some (.str s) := rfl
theorem bin_sgeq (t : TyK) (a b : List UInt8) : evBin .geq t (.str a) (.str b) = some (.bool (!Op.bytesLess a b)) := by simp [evBin, strBin]
theorem lemmas_call {R : Type} {X : Ext} {l r : List Str} {p : TProof} {σ : Heap} {v : PV} (hv : ValS σ v l) (h : (Hw C X).pure 38 [encL 1 cStr l, .agg p.c] = some [encL 1 cStr r]) (K : PV → Heap → Option R) :
    callK C (Hw C X) σ false (.fn 38 []) [v, .agg p.c] K = K (encL 1 cStr r) σ :=
  callK_val (args' := [encL 1 cStr l, .agg p.c]) C38 rfl (by
    show [canonV [some 1] (coeV σ v), canonV shP (coeV σ (.agg p.c))] = _
    rw [hv.coe, coe_pure (show (PV.agg p.c).pure = true from TProof.pure _)]
    simp only [canonV, TProof.canon]) (by simp only [pureL, PV.pure, TProof.pure, encL_pure (fun x _ => cStr_pure x), Bool.and_self]) h
theorem ins_ok (X : Ext) {p : TProof} {l : List Str} (hl : l.length < lim) {σ : Heap} (hb : σ[0]? = some (.box p.c)) {Q : Option (List PV) → Prop} (hQ : ∀ v τ, τ[0]? = some (.box p.c) → ValS τ v (insN (bareOf p).name false l) → Q (J38_5 X v (.ptr 0 0) τ)) :
    Q (L38_2 X (encL 1 cStr l) (.ptr 0 0) .nils (.bool false) (.int .i64 (0 : Nat)) σ) := by
  refine inv_loopG (S := PV × Bool × Heap) (s := (.nils, false, σ)) (n := l.length) (Q := Q)
    (L := fun i s => L38_2 X (encL 1 cStr l) (.ptr 0 0) s.1 (.bool s.2.1) (.int .i64 (i : Nat)) s.2.2)
    (I := fun i s => s.2.2[0]? = some (.box p.c) ∧ ∃ acc : List Str, Acc s.2.2 s.1 9 1 (acc.map cStr) ∧ acc.length ≤ 2 * i ∧ acc ++ insN (bareOf p).name s.2.1 (l.drop i) = insN (bareOf p).name false l) ?_ ?_ ?_
  · rintro ⟨v5, put, τ⟩ ⟨k1, acc, k2, k3, k4⟩
    rw [List.drop_length] at k4
    simp only at k1 k2 k4 ⊢
    rw [L38_2_eq]
    simp only [len_enc, Option.bind_some, bin_lss, Int.lt_irrefl, decide_false, condK_false]
    rw [J38_4_eq]
    cases put
    · obtain ⟨w, τ', a1, a2, a3, _⟩ := k2.append (bytes := 16) (row := cStr (bareOf p).name) (cStr_pure _) rfl rfl (by rw [List.length_map]; unfold lim at hl; omega)
      have g1 := a3.get k1 (k2.notBox k1)
      simp only [not_bool, Bool.not_false, Option.bind_some, condK_true, faddrV_ptr, Nat.zero_add, loadV_ptr k1, pr1, bslice_str, a1 _ (rowsOf_sl _ _ _ _)]
      refine hQ w τ' g1 (.inr ?_)
      rw [← k4]
      simpa [insN] using a2
    · simp only [not_bool, Bool.not_true, Option.bind_some, condK_false]
      refine hQ v5 τ k1 (.inr ?_)
      rw [← k4]
      simpa [insN] using k2
  · rintro i hi ⟨v5, put, τ⟩ ⟨k1, acc, k2, k3, k4⟩
    simp only at k1 k2 k3 k4 ⊢
    have hi0 : decide ((i : Int) < (l.length : Int)) = true := decide_eq_true (by omega)
    have hs : IntKind.i64.wrap ((i : Int) + 1) = ((i + 1 : Nat) : Int) := wrap_succ (by unfold lim at hl; omega)
    rw [List.drop_eq_getElem_cons hi, insN] at k4
    -- the part behind
    have tail : ∀ (v : PV) (put' : Bool) (τ1 : Heap) (acc1 : List Str), τ1[0]? = some (.box p.c) → Acc τ1 v 9 1 (acc1.map cStr) → acc1.length ≤ 2 * i + 1 → acc1 ++ ((if l[i] = (bareOf p).name then [] else [l[i]]) ++ insN (bareOf p).name put' (l.drop (i + 1))) = insN (bareOf p).name false l →
        ∃ s' : PV × Bool × Heap, (s'.2.2[0]? = some (.box p.c) ∧ ∃ acc : List Str, Acc s'.2.2 s'.1 9 1 (acc.map cStr) ∧ acc.length ≤ 2 * (i + 1) ∧ acc ++ insN (bareOf p).name s'.2.1 (l.drop (i + 1)) = insN (bareOf p).name false l) ∧
          J38_3 X (encL 1 cStr l) (.ptr 0 0) v (.bool put') (.int .i64 (i : Nat)) τ1 = L38_2 X (encL 1 cStr l) (.ptr 0 0) s'.1 (.bool s'.2.1) (.int .i64 ((i + 1 : Nat) : Int)) s'.2.2 := by
      intro v put' τ1 acc1 q1 q2 q3 q4
      rw [J38_3_eq]
      simp only [iaddr_enc _ _ hi, Option.bind_some, loadV_cref, ld_cStr, faddrV_ptr, Nat.zero_add, loadV_ptr q1, pr1, bin_sneq]
      by_cases hx : l[i] = (bareOf p).name
      · rw [if_pos hx] at q4
        refine ⟨(v, put', τ1), ⟨q1, acc1, q2, by omega, by simpa using q4⟩, ?_⟩
        simp only [decide_eq_true hx, Bool.not_true, condK_false, bin_add, hs, Option.bind_some]
      · rw [if_neg hx] at q4
        obtain ⟨w, τ', a1, a2, a3, _⟩ := q2.append (bytes := 16) (row := cStr l[i]) (cStr_pure _) rfl rfl (by rw [List.length_map]; unfold lim at hl; omega)
        refine ⟨(w, put', τ'), ⟨a3.get q1 (q2.notBox q1), acc1 ++ [l[i]], by simpa using a2, by simp; omega, by simpa using q4⟩, ?_⟩
        simp only [decide_eq_false hx, Bool.not_false, condK_true, bslice_str, a1 _ (rowsOf_sl _ _ _ _), bin_add, hs, Option.bind_some]
    have e0 : L38_2 X (encL 1 cStr l) (.ptr 0 0) v5 (.bool put) (.int .i64 (i : Nat)) τ = L38_2 X (encL 1 cStr l) (.ptr 0 0) v5 (.bool put) (.int .i64 (i : Nat)) τ := rfl
    cases put
    · cases hb : Op.bytesLess l[i] (bareOf p).name
      · -- it goes here
        rw [if_pos ⟨rfl, hb⟩, hb] at k4
        obtain ⟨w, τ', a1, a2, a3, _⟩ := k2.append (bytes := 16) (row := cStr (bareOf p).name) (cStr_pure _) rfl rfl (by rw [List.length_map]; unfold lim at hl; omega)
        have g1 := a3.get k1 (k2.notBox k1)
        obtain ⟨s', h1, h2⟩ := tail w true τ' (acc ++ [(bareOf p).name]) g1 (by simpa using a2) (by simp; omega) (by simpa using k4)
        refine ⟨s', h1, ?_⟩
        rw [← h2, L38_2_eq]
        simp only [len_enc, Option.bind_some, bin_lss, hi0, condK_true, not_bool, Bool.not_false, guardR_yes, iaddr_enc _ _ hi, loadV_cref, ld_cStr, faddrV_ptr, Nat.zero_add, loadV_ptr k1, pr1, bin_sgeq, hb, nthV_zero, nthV_succ, pickV_true, bslice_str, a1 _ (rowsOf_sl _ _ _ _)]
      · rw [if_neg (by rw [hb]; simp), hb] at k4
        obtain ⟨s', h1, h2⟩ := tail v5 false τ acc k1 k2 (by omega) (by simpa using k4)
        refine ⟨s', h1, ?_⟩
        rw [← h2, L38_2_eq]
        simp only [len_enc, Option.bind_some, bin_lss, hi0, condK_true, not_bool, Bool.not_false, guardR_yes, iaddr_enc _ _ hi, loadV_cref, ld_cStr, faddrV_ptr, Nat.zero_add, loadV_ptr k1, pr1, bin_sgeq, hb, Bool.not_true, nthV_zero, nthV_succ, pickV_true, condK_false]
    · rw [if_neg (by simp)] at k4
      obtain ⟨s', h1, h2⟩ := tail v5 true τ acc k1 k2 (by omega) (by simpa using k4)
      refine ⟨s', h1, ?_⟩
      rw [← h2, L38_2_eq]
      simp only [len_enc, Option.bind_some, bin_lss, hi0, condK_true, not_bool, Bool.not_true, guardR_ft, pickV_false, condK_false]
  · exact ⟨hb, [], by simpa using Acc.nil _ _ _, by simp, by simp⟩
theorem lemmas_ok (X : Ext) : ∀ (p : TProof), p.ok → p.sz < lim → ∀ (l : List Str), l.length + nodes p < lim → (Hw C X).pure 38 [encL 1 cStr l, .agg p.c] = some [encL 1 cStr (lem l p)]
  | p, hp, hz, l, hl => by
    obtain ⟨z1, z2, z3, z4⟩ := proof_parts hz
    have K := kids_ok_of hp
    have np := nodes_eq p
    -- the kids
    have J : ∀ (l' : List Str), l'.length ≤ l.length + 1 → ∀ v τ, τ[0]? = some (.box p.c) → ValS τ v l' → J38_5 X v (.ptr 0 0) τ = some [encL 1 cStr (lems l' (kidsOf p))] := by
      intro l' hl' v τ hτ hv
      rw [J38_5_eq]
      refine inv_loopG (S := PV) (s := v) (n := (kidsOf p).length) (Q := fun r => r = some [encL 1 cStr (lems l' (kidsOf p))])
        (L := fun i s => L38_1 X s (.ptr 0 0) (.int .i64 (i : Nat)) τ) (I := fun i s => ValS τ s (lems l' ((kidsOf p).take i))) ?_ ?_ (by simpa [lems] using hv)
      · intro s hs
        rw [List.take_length] at hs
        try simp only
        rw [L38_1_eq]
        simp only [faddrV_ptr, Nat.zero_add, loadV_ptr hτ, pr11, Option.bind_some, len_enc, bin_lss, Int.lt_irrefl, decide_false, condK_false]
        unfold finVs
        have e : finArgs τ p38.keepr [s] = [encL 1 cStr (lems l' (kidsOf p))] := by
          simp only [p38, finArgs, hs.fin]
          rfl
        rw [e, if_pos (by simp only [pureL, encL_pure (fun x _ => cStr_pure x), Bool.and_self])]
      · intro i hi s hs
        have hmem := List.getElem_mem hi
        have := kids_size hmem
        have t1 := lems_len ((kidsOf p).take i) l'
        have t2 := nodess_take hi
        have t3 := nodess_take_le (kidsOf p) (i + 1)
        have ih := lemmas_ok X (kidsOf p)[i] (K.2 _ hmem) (z4 _ hmem) (lems l' ((kidsOf p).take i)) (by omega)
        have hc := fun (K : PV → Heap → Option (List PV)) => lemmas_call hs ih K
        have hi0 : decide ((i : Int) < ((kidsOf p).length : Int)) = true := decide_eq_true (by omega)
        refine ⟨encL 1 cStr (lem (lems l' ((kidsOf p).take i)) (kidsOf p)[i]), .inl (by rw [List.take_succ_eq_append_getElem hi, lems_snoc]), ?_⟩
        try simp only
        rw [L38_1_eq]
        simp only [faddrV_ptr, Nat.zero_add, loadV_ptr hτ, pr11, Option.bind_some, len_enc, bin_lss, hi0, condK_true, iaddr_enc _ _ hi, loadV_cref, loadP_all (TProof.len _), hc, bin_add, wrap_succ (show i < 9223372036854775807 by unfold lim at z3; omega)]
    have hb : ([PE.Obj.box p.c] : Heap)[0]? = some (.box p.c) := rfl
    rw [F38, lem_eq]
    simp only [boxV_agg, List.nil_append, List.length_nil, Option.bind_some, faddrV_ptr, Nat.zero_add, loadV_ptr hb, List.drop_zero, pr0, bin_seql]
    by_cases hr : (bareOf p).rule = lemmaS
    · rw [if_pos hr]
      simp only [decide_eq_true hr, condK_true]
      refine ins_ok X (l := l) (Q := fun r => r = some [encL 1 cStr (lems (insN (bareOf p).name false l) (kidsOf p))]) (by omega) hb fun v τ h1 h2 => J _ (by have := insN_len l (bareOf p).name false; simpa using this) v τ h1 h2
    · rw [if_neg hr]
      simp only [decide_eq_false hr, condK_false]
      exact J l (by omega) _ _ hb (.inl rfl)
termination_by p => SizeOf.sizeOf p
/-- The names of the lemmas, or why there are none. -/
def lemsOf (p : TProof) : List Str × Int := if fits p 2000 60 = true then (lem [] p, 0) else ([], 2)
theorem lemmas17_ok (X : Ext) (p : TProof) (hp : p.ok) (hz : p.sz < lim) : (Hw C X).pure 17 [.agg p.c] = some [encL 1 cStr (lemsOf p).1, .int .i64 (lemsOf p).2] := by
  have h0 : ([PE.Obj.box p.c] : Heap)[0]? = some (.box p.c) := rfl
  rw [F17]
  simp only [boxV_agg, List.nil_append, List.length_nil, Option.bind_some, load_all (sz := 12) h0 (TProof.len p), call28 X p hp hz, lemsOf]
  cases hf : fits p 2000 60
  · simp only [Bool.not_false, condK_true]
    rfl
  · have hn := (fits_nodes hf).1
    have hc := fun (K : PV → Heap → Option (List PV)) => lemmas_call (σ := [.box p.c]) (v := .nils) (.inr (Acc.nil _ _ _)) (lemmas_ok X p hp hz [] (by unfold lim; simp; omega)) K
    simp only [Bool.not_true, condK_false, hc, if_true]
    have hp1 : pureL [encL 1 cStr (lem [] p), PV.int .i64 0] = true := by simp only [pureL, PV.pure, encL_pure (fun x _ => cStr_pure x), Bool.and_self]
    rw [finVs_pure hp1]
    simp only [p17, canonA, canon_sl]
    rfl
end Go.Proofs.YtkpbfldnickghaaDoor
set_option linter.unusedVariables false
set_option linter.unusedSimpArgs false
namespace Go.Proofs.YtkpbfldnickghaaDoor
open Go Go.PE
def addN (n : Str) (ks : List Str) : List Str := if n ∈ ks then ks else ks ++ [n]
mutual
def seenN (ks : List Str) : TProof → List Str
  | .mk rule name forms subst path args cert kids => seenNs (if rule = lemmaS then addN name ks else ks) kids
def seenNs (ks : List Str) : List TProof → List Str
  | [] => ks
  | p :: ps => seenNs (seenN ks p) ps
end
theorem seenN_eq (ks : List Str) (p : TProof) : seenN ks p = seenNs (if (bareOf p).rule = lemmaS then addN (bareOf p).name ks else ks) (kidsOf p) := by
  cases p
  rw [seenN]
  rfl
theorem seenNs_snoc : ∀ (ps : List TProof) (l : List Str) (p : TProof), seenNs l (ps ++ [p]) = seenN (seenNs l ps) p
  | [], l, p => by simp [seenNs]
  | q :: ps, l, p => by simp only [List.cons_append, seenNs, seenNs_snoc ps]
theorem addN_nodup {n : Str} {ks : List Str} (h : ks.Nodup) : (addN n ks).Nodup := by
  unfold addN
  split
  · exact h
  · rename_i hn
    rw [List.nodup_append]
    refine ⟨h, by simp, fun a ha b hb => ?_⟩
    rw [List.mem_singleton] at hb
    subst hb
    exact fun e => hn (e ▸ ha)
def entsB (ks : List Str) : List (PV × PV) := ks.map fun n => (.str n, .bool true)
theorem findB_none {n : Str} : ∀ {ks : List Str} (i0 : Nat), n ∉ ks → findP (.str n) (entsB ks) i0 = some none
  | [], _, _ => rfl
  | x :: ks, i0, h => by
    simp only [List.mem_cons, not_or] at h
    have : (n == x) = false := by simpa using h.1
    simp only [entsB, List.map_cons, findP, keyEq, this]
    exact findB_none (i0 + 1) h.2
theorem findB_some {n : Str} : ∀ {ks : List Str} (i0 : Nat), n ∈ ks → ∃ i, findP (.str n) (entsB ks) i0 = some (some (i0 + i, .bool true)) ∧ ks[i]? = some n
  | [], _, h => by cases h
  | x :: ks, i0, h => by
    by_cases hx : n = x
    · subst hx
      exact ⟨0, by simp [entsB, findP, keyEq], rfl⟩
    · have : (n == x) = false := by simpa using hx
      obtain ⟨i, h1, h2⟩ := findB_some (i0 + 1) ((List.mem_cons.1 h).resolve_left hx)
      refine ⟨i + 1, ?_, by simpa using h2⟩
      simp only [entsB, List.map_cons, findP, keyEq, this]
      have e : i0 + (i + 1) = i0 + 1 + i := by omega
      rw [e]
      exact h1
theorem mapup_add {σ : Heap} {m : Nat} {ks : List Str} (n : Str) (h : σ[m]? = some (.map (entsB ks))) : evPrim [] σ (.mapup .str (.cst (.mp m)) (.cst (.str n)) (.cst (.bool true))) = some (.tup [], σ.set m (.map (entsB (addN n ks)))) := by
  simp only [evPrim, Opd.ev, h, keyOK, if_true]
  unfold addN
  by_cases hn : n ∈ ks
  · obtain ⟨i, h1, h2⟩ := findB_some 0 hn
    rw [if_pos hn, h1]
    simp only [Option.map_some, Nat.zero_add]
    have hi := (List.getElem?_eq_some_iff.1 h2)
    have e : (entsB ks).set i (.str n, .bool true) = entsB ks := by
      apply List.ext_getElem?
      intro j
      by_cases hj : i = j
      · subst hj
        rw [List.getElem?_set_self (by simpa [entsB] using hi.1)]
        simp [entsB, h2]
      · rw [List.getElem?_set_ne hj]
    rw [e]
  · rw [if_neg hn, findB_none 0 hn]
    simp [entsB]
theorem collect_call {R : Type} {X : Ext} {p : TProof} {ib iw : Nat} {σ σ' : Heap} {rs : List PV} (h : (Hw C X).imp 36 [.agg p.c, .ptr ib 0, .ptr iw 0] σ = some (rs, σ')) (K : PV → Heap → Option R) :
    callK C (Hw C X) σ false (.fn 36 [.ptr ib 0, .ptr iw 0]) [.agg p.c] K = K (packP rs) σ' :=
  callK_imp C36 (by
    simp only [p36, List.cons_append, List.nil_append, keepArgs, coe_pure (show (PV.agg p.c).pure = true from TProof.pure _), coe_ptr, canonV, TProof.canon, List.map_cons, List.map_nil]) (by simp [pureL, PV.pure]) h
theorem collect_ok (X : Ext) {ib iw m : Nat} : ∀ (p : TProof), p.ok → p.sz < lim → ∀ (σ : Heap) (ks : List Str), σ[ib]? = some (.box [.mp m]) → σ[iw]? = some (.box [.fn 36 [.ptr ib 0, .ptr iw 0]]) → σ[m]? = some (.map (entsB ks)) → ks.Nodup →
    ∃ σ', (Hw C X).imp 36 [.agg p.c, .ptr ib 0, .ptr iw 0] σ = some ([], σ') ∧ σ'[m]? = some (.map (entsB (seenN ks p))) ∧ (seenN ks p).Nodup ∧ Stay (fun id => id = m) σ σ'
  | p, hp, hz, σ, ks, hb, hw, hm, hn => by
    obtain ⟨z1, z2, z3, z4⟩ := proof_parts hz
    have K := kids_ok_of hp
    have nm1 : ib ≠ m := fun e => by subst e; rw [hb] at hm; cases hm
    have nm2 : iw ≠ m := fun e => by subst e; rw [hw] at hm; cases hm
    have hpc : (σ ++ [PE.Obj.box p.c])[σ.length]? = some (.box p.c) := get_last _ _
    have nm3 : σ.length ≠ m := fun e => by have := id_lt hm; omega
    -- the kids
    have J : ∀ (ks' : List Str), ks'.Nodup → ∀ τ : Heap, τ[σ.length]? = some (.box p.c) → τ[m]? = some (.map (entsB ks')) → Stay (fun id => id = m) σ τ →
        ∃ σ', J36_2 X (.ptr iw 0) (.ptr σ.length 0) τ = some ([], σ') ∧ σ'[m]? = some (.map (entsB (seenNs ks' (kidsOf p)))) ∧ (seenNs ks' (kidsOf p)).Nodup ∧ Stay (fun id => id = m) σ σ' := by
      intro ks' hn' τ t1 t2 t3
      rw [J36_2_eq]
      simp only [faddrV_ptr, Nat.zero_add, load_box t1 (kid_cell p), Option.bind_some, len_enc]
      refine inv_loop (n := (kidsOf p).length) (Q := fun r => ∃ σ', r = some ([], σ') ∧ σ'[m]? = some (.map (entsB (seenNs ks' (kidsOf p)))) ∧ (seenNs ks' (kidsOf p)).Nodup ∧ Stay (fun id => id = m) σ σ')
        (L := fun i ρ => L36_1 X (.ptr iw 0) (encL 12 TProof.c (kidsOf p)) (.int .i64 ((kidsOf p).length : Nat)) (.int .i64 (i : Nat)) ρ)
        (I := fun i ρ => ρ[m]? = some (.map (entsB (seenNs ks' ((kidsOf p).take i)))) ∧ (seenNs ks' ((kidsOf p).take i)).Nodup ∧ Stay (fun id => id = m) σ ρ) ?_ ?_ ⟨by simpa [seenNs] using t2, by simpa [seenNs] using hn', t3⟩
      · rintro ρ ⟨r1, r2, r3⟩
        rw [List.take_length] at r1 r2
        refine ⟨ρ, ?_, r1, r2, r3⟩
        try simp only
        rw [L36_1_eq]
        simp only [bin_lss, Option.bind_some, Int.lt_irrefl, decide_false, condK_false]
        rfl
      · rintro i hi ρ ⟨r1, r2, r3⟩
        have hmem := List.getElem_mem hi
        have := kids_size hmem
        have e3 := r3.trans (Stay.push (fun id => id = m) ρ [.box (kidsOf p)[i].c])
        obtain ⟨ρ', c1, c2, c3, c4⟩ := collect_ok X (kidsOf p)[i] (K.2 _ hmem) (z4 _ hmem) (ρ ++ [.box (kidsOf p)[i].c]) _ (e3.get hb nm1) (e3.get hw nm2) (get_prev r1 _) r2
        have hcall := fun (K : PV → Heap → Option (List PV × Heap)) => collect_call c1 K
        refine ⟨ρ', ⟨by rw [List.take_succ_eq_append_getElem hi, seenNs_snoc]; exact c2, by rw [List.take_succ_eq_append_getElem hi, seenNs_snoc]; exact c3, ⟨Nat.le_trans e3.1 c4.1, fun id hid hne => by rw [c4.2 id (Nat.lt_of_lt_of_le hid e3.1) hne, e3.2 id hid hne]⟩⟩, ?_⟩
        have hi0 : decide ((i : Int) < ((kidsOf p).length : Int)) = true := decide_eq_true (by omega)
        try simp only
        rw [L36_1_eq]
        simp only [bin_lss, Option.bind_some, hi0, condK_true, iaddr_enc _ _ hi, loadV_cref, loadP_all (TProof.len _), storeV_last (sz := 12) (cs := [(.str []), (.str []), .nils, .nils, .nils, .nils, (.int .i64 0), .nils, .nils, .nils, .nils, .nils]) rfl (TProof.len _) (TProof.scal _), load_box (e3.get hw nm2) (show ([.fn 36 [.ptr ib 0, .ptr iw 0]] : List PV)[0]? = some _ from rfl), load_all (sz := 12) (get_last ρ (.box (kidsOf p)[i].c)) (TProof.len _), hcall, bin_add, wrap_succ (show i < 9223372036854775807 by unfold lim at z3; omega)]
    have st0 : Stay (fun id => id = m) σ (σ ++ [.box p.c]) := Stay.push _ _ _
    rw [F36, seenN_eq]
    simp only [boxV_agg, Option.bind_some, faddrV_ptr, Nat.zero_add, loadV_ptr hpc, List.drop_zero, pr0, bin_seql]
    by_cases hr : (bareOf p).rule = lemmaS
    · rw [if_pos hr]
      simp only [decide_eq_true hr, condK_true, load_box (get_prev hb [.box p.c]) (show ([.mp m] : List PV)[0]? = some _ from rfl), Option.bind_some, loadV_ptr hpc, pr1, mapup_add _ (get_prev hm [.box p.c])]
      exact J _ (addN_nodup hn) _ (get_other hpc (Ne.symm nm3) _) (get_set (get_prev hm [.box p.c]) _) ⟨by simp, fun id hid hne => by
        rw [List.getElem?_set_ne (Ne.symm hne)]
        exact st0.2 id hid hne⟩
    · rw [if_neg hr]
      simp only [decide_eq_false hr, condK_false]
      exact J _ hn _ hpc (get_prev hm _) st0
termination_by p => SizeOf.sizeOf p
end Go.Proofs.YtkpbfldnickghaaDoor
set_option linter.unusedVariables false
set_option linter.unusedSimpArgs false
namespace Go.Proofs.YtkpbfldnickghaaDoor
open Go Go.PE
mutual
def Named (x : Str) : TProof → Prop
  | .mk rule name forms subst path args cert kids => (rule = lemmaS ∧ x = name) ∨ Nameds x kids
def Nameds (x : Str) : List TProof → Prop
  | [] => False
  | p :: ps => Named x p ∨ Nameds x ps
end
theorem mem_addN {x n : Str} {ks : List Str} : x ∈ addN n ks ↔ x ∈ ks ∨ x = n := by
  unfold addN
  split
  · rename_i h
    constructor
    · exact .inl
    · rintro (h1 | rfl)
      · exact h1
      · exact h
  · simp
mutual
theorem mem_seenN (x : Str) : ∀ (p : TProof) (ks : List Str), x ∈ seenN ks p ↔ x ∈ ks ∨ Named x p
  | .mk rule name forms subst path args cert kids, ks => by
    rw [seenN, mem_seenNs x kids, Named]
    split
    · rename_i h
      rw [mem_addN]
      simp only [h, true_and, or_assoc]
    · rename_i h
      simp only [h, false_and, false_or]
theorem mem_seenNs (x : Str) : ∀ (ps : List TProof) (ks : List Str), x ∈ seenNs ks ps ↔ x ∈ ks ∨ Nameds x ps
  | [], ks => by simp [seenNs, Nameds]
  | p :: ps, ks => by
    rw [seenNs, mem_seenNs x ps, mem_seenN x p, Nameds, or_assoc]
end
mutual
theorem nodup_seenN : ∀ (p : TProof) (ks : List Str), ks.Nodup → (seenN ks p).Nodup
  | .mk rule name forms subst path args cert kids, ks, h => by
    rw [seenN]
    refine nodup_seenNs kids _ ?_
    split
    · exact addN_nodup h
    · exact h
theorem nodup_seenNs : ∀ (ps : List TProof) (ks : List Str), ks.Nodup → (seenNs ks ps).Nodup
  | [], ks, h => h
  | p :: ps, ks, h => by
    rw [seenNs]
    exact nodup_seenNs ps _ (nodup_seenN p ks h)
end
/-! ### Sorted lists -/
theorem insN_true (n : Str) : ∀ (l : List Str), insN n true l = l.filter fun x => decide (x ≠ n)
  | [] => by simp [insN]
  | x :: r => by
    rw [insN, if_neg (by simp), Bool.true_or, insN_true n r]
    by_cases h : x = n
    · simp [h]
    · simp [h]
theorem lt_of_not {a b : Str} (h : ¬ a < b) (hne : a ≠ b) : b < a := by
  have h1 : b ≤ a := List.not_lt.1 h
  refine Classical.byContradiction fun h2 => hne ?_
  exact List.le_antisymm (List.not_lt.1 h2) h1
theorem mem_insN {x n : Str} : ∀ (l : List Str), x ∈ insN n false l ↔ x ∈ l ∨ x = n
  | [] => by simp [insN]
  | y :: r => by
    rw [insN]
    by_cases h : y < n
    · have hb : Op.bytesLess y n = true := by rw [bytesLess_eq]; exact decide_eq_true h
      have hne : y ≠ n := fun e => by subst e; exact List.lt_irrefl _ h
      rw [if_neg (by rw [hb]; simp), if_neg hne, hb]
      have ih := mem_insN (x := x) (n := n) r
      simp only [Bool.not_true, Bool.or_false, List.nil_append, List.mem_append, List.mem_singleton, List.mem_cons, ih]
      simp [or_assoc]
    · have hb : Op.bytesLess y n = false := by rw [bytesLess_eq]; exact decide_eq_false h
      rw [if_pos ⟨rfl, hb⟩, hb]
      simp only [Bool.not_false, Bool.or_true, insN_true, List.mem_append, List.mem_singleton, List.mem_cons, List.mem_filter, decide_eq_true_eq]
      by_cases hy : y = n
      · subst hy
        simp only [if_true, List.not_mem_nil, false_or]
        by_cases hx : x = y
        · simp [hx]
        · simp [hx]
      · simp only [if_neg hy, List.mem_singleton]
        by_cases hx : x = n
        · simp [hx]
        · simp [hx]
theorem sorted_insN {n : Str} : ∀ (l : List Str), l.Pairwise (· < ·) → (insN n false l).Pairwise (· < ·)
  | [], _ => by simp [insN]
  | y :: r, h => by
    rw [List.pairwise_cons] at h
    obtain ⟨h1, h2⟩ := h
    rw [insN]
    by_cases hy : y < n
    · have hb : Op.bytesLess y n = true := by rw [bytesLess_eq]; exact decide_eq_true hy
      have hne : y ≠ n := fun e => by subst e; exact List.lt_irrefl _ hy
      rw [if_neg (by rw [hb]; simp), if_neg hne, hb]
      simp only [Bool.not_true, Bool.or_false, List.nil_append, List.singleton_append]
      rw [List.pairwise_cons]
      refine ⟨fun x hx => ?_, sorted_insN r h2⟩
      rcases (mem_insN r).1 hx with hx | rfl
      · exact h1 x hx
      · exact hy
    · have hb : Op.bytesLess y n = false := by rw [bytesLess_eq]; exact decide_eq_false hy
      rw [if_pos ⟨rfl, hb⟩, hb]
      simp only [Bool.not_false, Bool.or_true, insN_true, List.singleton_append]
      have hf : (r.filter fun x => decide (x ≠ n)).Pairwise (· < ·) := h2.filter _
      by_cases he : y = n
      · rw [if_pos he, List.nil_append, List.pairwise_cons]
        refine ⟨fun x hx => ?_, hf⟩
        rw [← he]
        exact h1 x (List.mem_filter.1 hx).1
      · have hlt := lt_of_not hy he
        rw [if_neg he, List.singleton_append, List.pairwise_cons, List.pairwise_cons]
        refine ⟨fun x hx => ?_, fun x hx => h1 x (List.mem_filter.1 hx).1, hf⟩
        rcases List.mem_cons.1 hx with rfl | hx
        · exact hlt
        · exact List.lt_trans hlt (h1 x (List.mem_filter.1 hx).1)
mutual
theorem mem_lem (x : Str) : ∀ (p : TProof) (l : List Str), x ∈ lem l p ↔ x ∈ l ∨ Named x p
  | .mk rule name forms subst path args cert kids, ks => by
    rw [lem, mem_lems x kids, Named]
    split
    · rename_i h
      rw [mem_insN]
      simp only [h, true_and, or_assoc]
    · rename_i h
      simp only [h, false_and, false_or]
theorem mem_lems (x : Str) : ∀ (ps : List TProof) (l : List Str), x ∈ lems l ps ↔ x ∈ l ∨ Nameds x ps
  | [], ks => by simp [lems, Nameds]
  | p :: ps, ks => by
    rw [lems, mem_lems x ps, mem_lem x p, Nameds, or_assoc]
end
mutual
theorem sorted_lem : ∀ (p : TProof) (l : List Str), l.Pairwise (· < ·) → (lem l p).Pairwise (· < ·)
  | .mk rule name forms subst path args cert kids, ks, h => by
    rw [lem]
    refine sorted_lems kids _ ?_
    split
    · exact sorted_insN _ h
    · exact h
theorem sorted_lems : ∀ (ps : List TProof) (l : List Str), l.Pairwise (· < ·) → (lems l ps).Pairwise (· < ·)
  | [], ks, h => h
  | p :: ps, ks, h => by
    rw [lems]
    exact sorted_lems ps _ (sorted_lem p ks h)
end
/-- The names that were collected, sorted. -/
theorem sorted_names (p : TProof) : (seenN [] p).mergeSort leB = lem [] p := by
  have hs := sorted_lem p [] List.Pairwise.nil
  have hn : (lem [] p).Nodup := hs.imp fun {a b} h e => by subst e; exact List.lt_irrefl _ h
  have hp : (seenN [] p).Perm (lem [] p) := (List.perm_ext_iff_of_nodup (nodup_seenN p [] List.nodup_nil) hn).2 fun x => by rw [mem_seenN, mem_lem]
  rw [mergeSort_of_perm hp]
  refine List.mergeSort_of_pairwise (hs.imp fun {a b} h => ?_)
  simp only [leB, decide_eq_true_eq]
  exact List.le_of_lt h
end Go.Proofs.YtkpbfldnickghaaDoor
set_option linter.unusedVariables false
set_option linter.unusedSimpArgs false
namespace Go.Proofs.YtkpbfldnickghaaDoor
open Go Go.PE
mutual
theorem named_len {x : Str} : ∀ (p : TProof), p.sz < lim → Named x p → x.length < lim
  | .mk rule name forms subst path args cert kids, hz, h => by
    have z := proof_parts hz
    rw [Named] at h
    rcases h with ⟨_, rfl⟩ | h
    · exact z.2.1
    · exact nameds_len kids (fun k hk => z.2.2.2 k hk) h
theorem nameds_len {x : Str} : ∀ (ps : List TProof), (∀ p ∈ ps, p.sz < lim) → Nameds x ps → x.length < lim
  | [], _, h => by rw [Nameds] at h; exact h.elim
  | p :: ps, hz, h => by
    rw [Nameds] at h
    rcases h with h | h
    · exact named_len p (hz p (by simp)) h
    · exact nameds_len ps (fun q hq => hz q (by simp [hq])) h
end
theorem addN_len (n : Str) (ks : List Str) : (addN n ks).length ≤ ks.length + 1 := by
  unfold addN
  split <;> simp
mutual
theorem seenN_len : ∀ (p : TProof) (ks : List Str), (seenN ks p).length ≤ ks.length + nodes p
  | .mk rule name forms subst path args cert kids, ks => by
    rw [seenN]
    simp only [nodes]
    have h := seenNs_len kids (if rule = lemmaS then addN name ks else ks)
    have h2 := addN_len name ks
    by_cases hr : rule = lemmaS
    · rw [if_pos hr] at h ⊢
      omega
    · rw [if_neg hr] at h ⊢
      omega
theorem seenNs_len : ∀ (ps : List TProof) (ks : List Str), (seenNs ks ps).length ≤ ks.length + nodess ps
  | [], ks => by simp [seenNs, nodess]
  | p :: ps, ks => by
    have h1 := seenN_len p ks
    have h2 := seenNs_len ps (seenN ks p)
    simp only [seenNs, nodess]
    omega
end
theorem keyStrs_entsB : ∀ (ks : List Str), keyStrs (entsB ks) = some ks
  | [] => rfl
  | k :: ks => by
    have := keyStrs_entsB ks
    simp only [entsB, List.map_cons, keyStrs] at this ⊢
    rw [this]
    rfl
theorem keys_at {σ : Heap} {ib m : Nat} {ks : List Str} (hb : σ[ib]? = some (.box [.mp m])) (hm : σ[m]? = some (.map (entsB ks))) (hn : ks.Nodup) (hl : ks.length ≤ 2000) (hs : ∀ n ∈ ks, n.length < lim) :
    evPrim [] σ (.keys 9 (.cst (.ptr ib 0)) (.cst .nils) (.cst (.tup []))) = some (keysV σ 9 ks) := by
  simp only [evPrim, Opd.ev, keysP, hb, hm, keyStrs_entsB]
  rw [if_pos ⟨hn, by omega, fun n hn' => by have := hs n hn'; unfold lim at this; omega⟩]
theorem keys_fin (σ : Heap) (ks : List Str) (n : Int) : finVs p16.keepr [(keysV σ 9 ks).1, .int .i64 n] (keysV σ 9 ks).2 = some [encL 1 cStr (ks.mergeSort leB), .int .i64 n] := by
  have hA : Acc (keysV σ 9 ks).2 (keysV σ 9 ks).1 9 1 ((ks.mergeSort leB).map cStr) := by
    unfold keysV
    by_cases h : ks = []
    · subst h
      rw [if_pos rfl]
      refine .inl ⟨?_, rfl⟩
      simp
    · rw [if_neg h]
      refine .inr ⟨σ.length, ?_, ?_⟩
      · simp
      · rw [List.getElem?_concat_length]
        rfl
  have e : finArgs (keysV σ 9 ks).2 p16.keepr [(keysV σ 9 ks).1, .int .i64 n] = [encL 1 cStr (ks.mergeSort leB), .int .i64 n] := by
    have h1 := hA.finV
    show [canonV [some 1] (finV (keysV σ 9 ks).2 (keysV σ 9 ks).1), _] = _
    rw [h1]
    rfl
  unfold finVs
  rw [e, if_pos]
  simp only [pureL, encL_pure (fun x _ => cStr_pure x), PV.pure, Bool.and_self]
theorem lemmas16_ok (X : Ext) (p : TProof) (hp : p.ok) (hz : p.sz < lim) : (Hw C X).pure 16 [.agg p.c] = some [encL 1 cStr (lemsOf p).1, .int .i64 (lemsOf p).2] := by
  have h0 : ([PE.Obj.box p.c] : Heap)[0]? = some (.box p.c) := rfl
  rw [F16]
  simp only [boxV_agg, List.nil_append, List.length_nil, Option.bind_some, load_all (sz := 12) h0 (TProof.len p), call22 X p hp, lemsOf, not_bool]
  cases hf : fits p 2000 60
  · simp only [Bool.not_false, condK_true]
    rfl
  · simp only [Bool.not_true, condK_false, if_true]
    have e1 : storeV (([PE.Obj.box p.c] ++ [PE.Obj.map []]) ++ [PE.Obj.box [.nilm]]) 1 (.ptr ([PE.Obj.box p.c] ++ [PE.Obj.map []]).length 0) (.mp [PE.Obj.box p.c].length) = some [PE.Obj.box p.c, .map [], .box [.mp 1]] := rfl
    have e2 : storeV ([PE.Obj.box p.c, .map [], .box [.mp 1]] ++ [.box [.nilf]]) 1 (.ptr [PE.Obj.box p.c, .map [], .box [.mp 1]].length 0) (.fn 36 [(.ptr ([PE.Obj.box p.c] ++ [PE.Obj.map []]).length 0), (.ptr [PE.Obj.box p.c, .map [], .box [.mp 1]].length 0)]) = some [PE.Obj.box p.c, .map [], .box [.mp 1], .box [.fn 36 [.ptr 2 0, .ptr 3 0]]] := rfl
    obtain ⟨σ', c1, c2, c3, c4⟩ := collect_ok X (ib := 2) (iw := 3) (m := 1) p hp hz [PE.Obj.box p.c, .map [], .box [.mp 1], .box [.fn 36 [.ptr 2 0, .ptr 3 0]]] [] rfl rfl rfl List.nodup_nil
    have g2 : σ'[2]? = some (.box [.mp 1]) := c4.get (show ([PE.Obj.box p.c, .map [], .box [.mp 1], .box [.fn 36 [.ptr 2 0, .ptr 3 0]]] : Heap)[2]? = _ from rfl) (by decide)
    have l1 : loadV [PE.Obj.box p.c, .map [], .box [.mp 1], .box [.fn 36 [.ptr 2 0, .ptr 3 0]]] false 1 (.ptr 3 0) = some (.fn 36 [.ptr 2 0, .ptr 3 0]) := rfl
    have l2 : loadV [PE.Obj.box p.c, .map [], .box [.mp 1], .box [.fn 36 [.ptr 2 0, .ptr 3 0]]] true 12 (.ptr 0 0) = some (.agg p.c) := load_all (sz := 12) rfl (TProof.len p)
    have hlen := seenN_len p []
    have hno := (fits_nodes hf).1
    have hk := keys_at g2 c2 c3 (by simp at hlen; omega) fun n hn => by
      rcases (mem_seenN n p []).1 hn with h | h
      · cases h
      · exact named_len p hz h
    simp only [e1, Option.bind_some, e2]
    simp only [show ([PE.Obj.box p.c, .map [], .box [.mp 1]] : Heap).length = 3 from rfl, show ([PE.Obj.box p.c] ++ [PE.Obj.map []] : Heap).length = 2 from rfl, l1, l2, Option.bind_some, collect_call c1, hk, keys_fin]
    rw [sorted_names]
theorem call16 {R : Type} (X : Ext) (p : TProof) (hp : p.ok) (hz : p.sz < lim) (σ : Heap) (pc : Bool) (k : PV → Heap → Option R) : callK C (Hw C X) σ pc (.fn 16 []) [.agg p.c] k = k (.tup [encL 1 cStr (lemsOf p).1, .int .i64 (lemsOf p).2]) σ :=
  callK_pure C16 rfl (by simp only [pureL, PV.pure, TProof.pure, Bool.and_self]) (by simp only [p16, canonA, canonV, TProof.canon]) (lemmas16_ok X p hp hz)
theorem call17 {R : Type} (X : Ext) (p : TProof) (hp : p.ok) (hz : p.sz < lim) (σ : Heap) (pc : Bool) (k : PV → Heap → Option R) : callK C (Hw C X) σ pc (.fn 17 []) [.agg p.c] k = k (.tup [encL 1 cStr (lemsOf p).1, .int .i64 (lemsOf p).2]) σ :=
  callK_pure C17 rfl (by simp only [pureL, PV.pure, TProof.pure, Bool.and_self]) (by simp only [p17, canonA, canonV, TProof.canon]) (lemmas17_ok X p hp hz)
theorem call6' {R : Type} (σ : Heap) (pc : Bool) (k : PV → Heap → Option R) : callK C (Hw C XI) σ pc (.fn 6 []) [] k = k (.bool true) σ :=
  callK_pure C6 rfl rfl rfl awake_ok
theorem fin5 (b : Bool) (σ : Heap) : finVs p5.keepr [.bool b] σ = some [.bool b] := rfl
/-- THE PLAIN LAW. -/
theorem lemmas_law (p : TProof) (hp : p.ok) (hz : p.sz < lim) : (Hw C XI).pure 5 [.agg p.c] = some [.bool true] := by
  obtain ⟨k1, c7⟩ := call7 (R := List PV) XI p hp
  have g0 : ([PE.Obj.box p.c] : Heap)[0]? = some (.box p.c) := rfl
  have hsm : Sm (lemsOf p).1 := by
    unfold lemsOf Sm
    split
    · rename_i hf
      have h1 := lem_len p []
      have h2 := (fits_nodes hf).1
      simp at h1 ⊢
      omega
    · simp
  have e : evBin .eql .int (.int .i64 (lemsOf p).2) (.int .i64 (lemsOf p).2) = some (.bool true) := by rw [bin_eql]; simp
  rw [F5]
  simp only [boxV_agg, List.nil_append, List.length_nil, Option.bind_some, call6', not_bool, Bool.not_true, condK_false, load_all (sz := 12) g0 (TProof.len p), c7, bin_gtr]
  by_cases h1 : k1 > 3000
  · simp only [decide_eq_true h1, condK_true, fin5]
  · simp only [decide_eq_false h1, condK_false, Option.bind_some, call16 XI p hp hz, call17 XI p hp hz, extV_zero, extV_succ, e, guardR_yes, call18 XI _ _ hsm, eqb_eq, nthV_zero, nthV_succ, pickV_true, fin5, load_all (sz := 12) g0 (TProof.len p)]
end Go.Proofs.YtkpbfldnickghaaDoor
