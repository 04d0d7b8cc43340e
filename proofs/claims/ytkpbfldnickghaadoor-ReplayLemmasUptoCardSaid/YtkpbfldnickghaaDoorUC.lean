/- U18, U19, U20, U21, U22 of the seat, in one text. -/
import Derived.Test.YtkpbfldnickghaaDoorUB
import Derived.Test.YtkpbfldnickghaaDoorW1
set_option linter.unusedVariables false
set_option linter.unusedSimpArgs false
namespace Go.Proofs.YtkpbfldnickghaaDoor
open Go Go.PE
/-- A node without kids. -/
def node (b : Bare) : TProof := .mk b.rule b.name b.forms b.subst b.path b.args b.cert []
theorem node_c (b : Bare) : (node b).c = [.str b.rule, .str b.name, encL 6 TNode.c b.forms, encL 13 TPair.c b.subst, encL 1 cInt b.path, encL 1 cStr b.args] ++ b.cert.c ++ [encL 12 TProof.c []] := TProof.c_eq _ _ _ _ _ _ _ _
theorem bareOf_node (b : Bare) : bareOf (node b) = b := rfl
theorem node_bare (p : TProof) : node (bareOf p) = .mk (bareOf p).rule (bareOf p).name (bareOf p).forms (bareOf p).subst (bareOf p).path (bareOf p).args (bareOf p).cert [] := rfl
theorem TStep.canon (s : TStep) : canonL [none, none, some 6, some 13, some 1, some 1, none, some 3, some 2, some 5, some 5, some 12, some 1] s.c = s.c := by
  obtain ⟨⟨rule, name, forms, subst, path, args, ⟨kind, nums, polys, squares, ckids⟩, kids⟩, ks⟩ := s
  simp [TStep.c, TProof.c_eq, TCert.c_eq, canonL, canon1_encL, canon1_none]
theorem TStep.scal (s : TStep) : s.c.all PV.scalar = true := by simp only [TStep.c, List.all_append, TProof.scal, List.all_cons, List.all_nil, scal_encL, Bool.and_self]
section
variable (s : TStep)
theorem ts0 : s.c[0]? = some (.str (bareOf s.what).rule) := by
  obtain ⟨p, ks⟩ := s; cases p; simp only [TStep.c, TProof.c_eq]; rfl
theorem ts1 : s.c[1]? = some (.str (bareOf s.what).name) := by
  obtain ⟨p, ks⟩ := s; cases p; simp only [TStep.c, TProof.c_eq]; rfl
theorem ts12 : s.c[12]? = some (encL 1 cInt s.kids) := by
  obtain ⟨⟨rule, name, forms, subst, path, args, ⟨kind, nums, polys, squares, ckids⟩, kids⟩, ks⟩ := s
  simp only [TStep.c, TProof.c_eq, TCert.c_eq]; rfl
theorem tsw : loadP true 12 s.c = some (.agg s.what.c) := by
  rw [TStep.c, loadP_agg 12 _ (by simp [TProof.len]), ← TProof.len s.what, List.take_left]
theorem ts12' : loadP false 1 (s.c.drop 12) = some (encL 1 cInt s.kids) := by
  rw [TStep.c, ← TProof.len s.what, List.drop_left]; rfl
end
/-- The key of a step. -/
def keyOf (s : TStep) : Str := (bareOf s.what).rule ++ [0] ++ (bareOf s.what).name ++ (s.kids.map fun k => (0 : UInt8) :: itoaF k).flatten
theorem digF_len : ∀ (k u : Nat), (digF k u).length ≤ k
  | 0, _ => by simp [digF]
  | k + 1, u => by
    rw [digF]
    split
    · simp
    · have := digF_len k (u / 10)
      simp; omega
theorem itoa_len (n : Int) : (itoaF n).length ≤ 21 := by
  unfold itoaF
  split
  · have := digF_len 20 n.natAbs; simp; omega
  · have := digF_len 20 n.toNat; omega
theorem bin_sadd (t : TyK) (a b : Str) (h : a.length + b.length < 9223372036854775807) : evBin .add t (.str a) (.str b) = some (.str (a ++ b)) := by
  simp only [evBin, strBin]
  rw [if_neg (by omega)]
theorem key_ok (s : TStep) (h1 : (bareOf s.what).rule.length < lim) (h2 : (bareOf s.what).name.length < lim) (h3 : s.kids.length < lim) (h4 : ∀ k ∈ s.kids, i64ok k) : (Hw C XI).pure 25 [.agg s.c] = some [.str (keyOf s)] := by
  have h0 : ([PE.Obj.box s.c] : Heap)[0]? = some (.box s.c) := rfl
  unfold lim at h1 h2 h3
  rw [F25]
  simp only [boxV_agg, Option.bind_some, List.nil_append, List.length_nil, faddrV_ptr, Nat.zero_add, load_box h0 (ts0 s), load_box h0 (ts1 s), load_box h0 (ts12 s), len_enc, bin_sadd _ (bareOf s.what).rule [0] (by simp; omega), bin_sadd _ ((bareOf s.what).rule ++ [0]) (bareOf s.what).name (by simp; omega)]
  have flen : ∀ i, (((s.kids.take i).map fun k => (0 : UInt8) :: itoaF k).flatten).length ≤ 22 * i := by
    intro i
    induction i with
    | zero => simp
    | succ i ih =>
      by_cases hi : i < s.kids.length
      · rw [take_map_succ _ _ hi, List.flatten_append, List.length_append]
        have := itoa_len s.kids[i]
        simp only [List.flatten_cons, List.flatten_nil, List.append_nil, List.length_cons]
        omega
      · rw [List.take_of_length_le (by omega)] at *
        omega
  refine inv_loop (n := s.kids.length) (R := List PV) (Q := fun r => r = some [.str (keyOf s)]) (L := fun i τ => L25_1 XI (.str ((bareOf s.what).rule ++ [0] ++ (bareOf s.what).name ++ ((s.kids.take i).map fun k => (0 : UInt8) :: itoaF k).flatten)) (encL 1 cInt s.kids) (.int .i64 (s.kids.length : Nat)) (.int .i64 (i : Nat)) τ) (I := fun i τ => τ = [.box s.c]) ?_ ?_ rfl |> (fun h => by simpa using h)
  · rintro τ rfl
    try simp only
    rw [L25_1_eq]
    simp only [bin_lss, Option.bind_some, Int.lt_irrefl, decide_false, condK_false, List.take_length]
    rfl
  · rintro i hi τ rfl
    refine ⟨_, rfl, ?_⟩
    have hc : XI.pure 44 [.int .i64 s.kids[i]] = some [.str (itoaF s.kids[i])] := by
      have := h4 s.kids[i] (List.getElem_mem hi)
      unfold i64ok at this
      simp only [XI]
      rw [if_pos this]
    have hcall := fun σ pc (K : PV → Heap → Option (List PV)) => callK_ext (R := List PV) (C := C) (X := XI) (f := 44) (pc := pc) (σ := σ) (k := K) rfl rfl hc
    have l1 := itoa_len s.kids[i]
    have l2 := flen i
    try simp only
    rw [L25_1_eq]
    simp only [bin_lss, iaddr_enc _ _ hi, Option.bind_some, loadV_cref, cInt, loadP_one, hcall, packP, bin_sadd _ [0] (itoaF s.kids[i]) (by simp; omega), bin_sadd _ ((bareOf s.what).rule ++ [0] ++ (bareOf s.what).name ++ ((s.kids.take i).map fun k => (0 : UInt8) :: itoaF k).flatten) ([0] ++ itoaF s.kids[i]) (by simp only [List.length_append, List.length_singleton]; omega), bin_add, wrap_succ (show i < 9223372036854775807 by omega), take_map_succ (fun k => (0 : UInt8) :: itoaF k) s.kids hi, List.flatten_append, List.flatten_cons, List.flatten_nil, List.append_nil]
    simp [hi]
/-! ### Records -/
noncomputable def idxOf (l : List TStep) (s : TStep) : Nat := l.findIdx fun x => eqb x s
mutual
/-- The record of a proof behind steps that are there, and its number. -/
noncomputable def rec1 (l : List TStep) : TProof → List TStep × Nat
  | .mk rule name forms subst path args cert kids =>
    let r := recs l kids
    let s : TStep := ⟨.mk rule name forms subst path args cert [], r.2.map fun i : Nat => (i : Int)⟩
    if idxOf r.1 s < r.1.length then (r.1, idxOf r.1 s) else (r.1 ++ [s], r.1.length)
noncomputable def recs (l : List TStep) : List TProof → List TStep × List Nat
  | [] => (l, [])
  | p :: ps => ((recs (rec1 l p).1 ps).1, (rec1 l p).2 :: (recs (rec1 l p).1 ps).2)
end
noncomputable def stepOf (p : TProof) (ks : List Nat) : TStep := ⟨node (bareOf p), ks.map fun i : Nat => (i : Int)⟩
theorem rec1_eq (l : List TStep) (p : TProof) : rec1 l p = if idxOf (recs l (kidsOf p)).1 (stepOf p (recs l (kidsOf p)).2) < (recs l (kidsOf p)).1.length then ((recs l (kidsOf p)).1, idxOf (recs l (kidsOf p)).1 (stepOf p (recs l (kidsOf p)).2)) else ((recs l (kidsOf p)).1 ++ [stepOf p (recs l (kidsOf p)).2], (recs l (kidsOf p)).1.length) := by
  cases p
  rw [rec1]
  rfl
theorem recs_snoc : ∀ (ps : List TProof) (l : List TStep) (p : TProof), recs l (ps ++ [p]) = ((rec1 (recs l ps).1 p).1, (recs l ps).2 ++ [(rec1 (recs l ps).1 p).2])
  | [], l, p => by simp [recs]
  | q :: ps, l, p => by
    simp only [List.cons_append, recs, recs_snoc ps]
theorem recs_take {l : List TStep} {ps : List TProof} {i : Nat} (h : i < ps.length) : recs l (ps.take (i + 1)) = ((rec1 (recs l (ps.take i)).1 ps[i]).1, (recs l (ps.take i)).2 ++ [(rec1 (recs l (ps.take i)).1 ps[i]).2]) := by
  rw [List.take_succ_eq_append_getElem h, recs_snoc]
mutual
theorem rec1_len : ∀ (p : TProof) (l : List TStep), (rec1 l p).1.length ≤ l.length + nodes p ∧ (rec1 l p).2 < (rec1 l p).1.length ∧ l.length ≤ (rec1 l p).1.length
  | .mk rule name forms subst path args cert kids, l => by
    obtain ⟨h1, _, h3⟩ := recs_len kids l
    rw [rec1]
    simp only [nodes]
    split
    · rename_i h
      exact ⟨by simp only; omega, h, h3⟩
    · simp only [List.length_append, List.length_singleton]
      omega
theorem recs_len : ∀ (ps : List TProof) (l : List TStep), (recs l ps).1.length ≤ l.length + nodess ps ∧ (∀ i ∈ (recs l ps).2, i < (recs l ps).1.length) ∧ l.length ≤ (recs l ps).1.length
  | [], l => by simp [recs, nodess]
  | p :: ps, l => by
    obtain ⟨a1, a2, a3⟩ := rec1_len p l
    obtain ⟨b1, b2, b3⟩ := recs_len ps (rec1 l p).1
    simp only [recs, nodess]
    refine ⟨by omega, fun i hi => ?_, by omega⟩
    rcases List.mem_cons.1 hi with rfl | hi
    · omega
    · exact b2 i hi
end
theorem recs_cnt : ∀ (ps : List TProof) (l : List TStep), (recs l ps).2.length = ps.length
  | [], l => rfl
  | p :: ps, l => by simp [recs, recs_cnt ps]

/-! ### The map -/
/-- The numbers of the steps with a key. -/
def idxs (out : List TStep) (k : Str) : List Nat := (List.range out.length).filter fun i => (out[i]?.map keyOf) == some k
theorem idxs_snoc (out : List TStep) (s : TStep) (k : Str) : idxs (out ++ [s]) k = if keyOf s = k then idxs out k ++ [out.length] else idxs out k := by
  unfold idxs
  rw [List.length_append, List.length_singleton, List.range_succ, List.filter_append]
  have e1 : (List.range out.length).filter (fun i => ((out ++ [s])[i]?.map keyOf) == some k) = (List.range out.length).filter fun i => (out[i]?.map keyOf) == some k := by
    refine List.filter_congr fun i hi => ?_
    rw [List.mem_range] at hi
    rw [List.getElem?_append_left hi]
  rw [e1]
  by_cases h : keyOf s = k
  · simp [h]
  · simp [h]
theorem mem_idxs {out : List TStep} {k : Str} {i : Nat} : i ∈ idxs out k ↔ ∃ h : i < out.length, keyOf out[i] = k := by
  unfold idxs
  rw [List.mem_filter, List.mem_range]
  constructor
  · rintro ⟨h1, h2⟩
    refine ⟨h1, ?_⟩
    simpa [h1] using h2
  · rintro ⟨h1, h2⟩
    exact ⟨h1, by simp [h1, h2]⟩
theorem idxs_sorted (out : List TStep) (k : Str) : (idxs out k).Pairwise (· < ·) := List.Pairwise.filter _ List.pairwise_lt_range
theorem idxs_len (out : List TStep) (k : Str) : (idxs out k).length ≤ out.length := by
  unfold idxs
  have := List.length_filter_le (fun i => (out[i]?.map keyOf) == some k) (List.range out.length)
  simpa using this
theorem find_none {g : Str × Nat → PV} {k : Str} : ∀ {ents : List (Str × Nat)} (i0 : Nat), k ∉ ents.map (·.1) → findP (.str k) (ents.map fun x => (.str x.1, g x)) i0 = some none
  | [], _, _ => rfl
  | x :: ents, i0, h => by
    simp only [List.map_cons, List.mem_cons, not_or] at h
    have : (k == x.1) = false := by simpa using h.1
    simp only [List.map_cons, findP, keyEq, this]
    exact find_none (i0 + 1) h.2
theorem find_some {g : Str × Nat → PV} : ∀ {ents : List (Str × Nat)} (i0 : Nat) {i : Nat} {x : Str × Nat}, ents[i]? = some x → (ents.map (·.1)).Nodup → findP (.str x.1) (ents.map fun x => (.str x.1, g x)) i0 = some (some (i0 + i, g x))
  | [], _, i, x, h, _ => by simp at h
  | y :: ents, i0, 0, x, h, _ => by
    simp at h
    subst h
    simp [findP, keyEq]
  | y :: ents, i0, i + 1, x, h, hn => by
    simp only [List.map_cons, List.nodup_cons] at hn
    have hx : ents[i]? = some x := by simpa using h
    have hne : x.1 ≠ y.1 := fun e => hn.1 (by rw [← e]; exact List.mem_map.2 ⟨x, List.mem_of_getElem? hx, rfl⟩)
    have : (x.1 == y.1) = false := by simpa using hne
    simp only [List.map_cons, findP, keyEq, this]
    rw [find_some (i0 + 1) hx hn.2]
    congr 3
    omega
end Go.Proofs.YtkpbfldnickghaaDoor
set_option linter.unusedVariables false
set_option linter.unusedSimpArgs false
namespace Go.Proofs.YtkpbfldnickghaaDoor
open Go Go.PE
theorem findIdx_at {l : List TStep} {s : TStep} {i : Nat} (h : i < l.length) (he : l[i] = s) (hm : ∀ (j : Nat) (hj : j < l.length), j < i → l[j] ≠ s) : idxOf l s = i := by
  unfold idxOf
  rw [List.findIdx_eq h]
  exact ⟨eqb_eq he, fun j hj => eqb_ne (hm j (by omega) hj)⟩
theorem findIdx_no {l : List TStep} {s : TStep} (hm : ∀ (j : Nat) (hj : j < l.length), l[j] ≠ s) : idxOf l s = l.length := by
  unfold idxOf
  rw [List.findIdx_eq_length]
  intro x hx
  obtain ⟨j, hj, rfl⟩ := List.mem_iff_getElem.1 hx
  exact eqb_ne (hm j hj)
/-- Of the steps with a key the first one that is s is the first of all. -/
theorem idx_hit {out : List TStep} {s : TStep} {j : Nat} (hj : j < (idxs out (keyOf s)).length) (hl : (idxs out (keyOf s))[j] < out.length) (he : out[(idxs out (keyOf s))[j]] = s) (hm : ∀ (j' : Nat) (h : j' < j) (hl : (idxs out (keyOf s))[j'] < out.length), out[(idxs out (keyOf s))[j']] ≠ s) : idxOf out s = (idxs out (keyOf s))[j] := by
  refine findIdx_at hl he fun i hi hlt e => ?_
  have hmem : i ∈ idxs out (keyOf s) := mem_idxs.2 ⟨hi, by rw [e]⟩
  obtain ⟨j', hj', rfl⟩ := List.mem_iff_getElem.1 hmem
  have hs := idxs_sorted out (keyOf s)
  rw [List.pairwise_iff_getElem] at hs
  rcases Nat.lt_trichotomy j' j with h | h | h
  · exact hm j' h hi e
  · subst h; omega
  · have := hs j j' hj hj' h; omega
theorem idx_miss {out : List TStep} {s : TStep} (hm : ∀ (j : Nat) (h : j < (idxs out (keyOf s)).length) (hl : (idxs out (keyOf s))[j] < out.length), out[(idxs out (keyOf s))[j]] ≠ s) : idxOf out s = out.length := by
  refine findIdx_no fun i hi e => ?_
  have hmem : i ∈ idxs out (keyOf s) := mem_idxs.2 ⟨hi, by rw [e]⟩
  obtain ⟨j', hj', he⟩ := List.mem_iff_getElem.1 hmem
  exact hm j' hj' (by rw [he]; exact hi) (by simp only [he]; exact e)
/-- The entries of the map. -/
def entsV (out : List TStep) (ents : List (Str × Nat)) : List (PV × PV) := ents.map fun x => (.str x.1, .own x.2 1 (idxs out x.1).length)
structure MapSt (σ : Heap) (m : Nat) (out : List TStep) (ents : List (Str × Nat)) : Prop where
  map : σ[m]? = some (.map (entsV out ents))
  keys : (ents.map (·.1)).Nodup
  logs : (ents.map (·.2)).Nodup
  log : ∀ x ∈ ents, σ[x.2]? = some (.log 3 1 ((idxs out x.1).map fun i : Nat => cInt i))
  all : ∀ k, idxs out k ≠ [] → k ∈ ents.map (·.1)
structure RecSt (σ : Heap) (iw ik io m : Nat) (out : List TStep) : Prop where
  w : σ[iw]? = some (.box [.fn 23 [.ptr iw 0, .ptr ik 0, .ptr io 0]])
  k : σ[ik]? = some (.box [.mp m])
  o : ∃ ov, σ[io]? = some (.box [ov]) ∧ Acc σ ov 61 13 (out.map TStep.c)
  map : ∃ ents, MapSt σ m out ents
  wo : iw ≠ io
  ko : ik ≠ io
  good : ∀ s ∈ out, s.what.ok ∧ kidsOf s.what = [] ∧ Sm s.kids
/-- The objects of the record. -/
def Mine (σ : Heap) (iw ik io m id : Nat) : Prop := id = iw ∨ id = ik ∨ id = io ∨ id = m ∨ (∃ ov, σ[io]? = some (.box [ov]) ∧ AccAt ov id) ∨ (∃ es, σ[m]? = some (.map es) ∧ ∃ x ∈ es, AccAt x.2 id)
theorem Mine.lt {σ : Heap} {iw ik io m : Nat} {out : List TStep} (h : RecSt σ iw ik io m out) {id : Nat} (hm : Mine σ iw ik io m id) : id < σ.length := by
  obtain ⟨ov, o1, o2⟩ := h.o
  obtain ⟨ents, hm'⟩ := h.map
  rcases hm with rfl | rfl | rfl | rfl | ⟨ov', h1, h2⟩ | ⟨es, h1, x, hx, h2⟩
  · exact id_lt h.w
  · exact id_lt h.k
  · exact id_lt o1
  · exact id_lt hm'.map
  · rw [o1] at h1
    cases h1
    exact id_lt (o2.lt h2)
  · rw [hm'.map] at h1
    cases h1
    obtain ⟨y, hy, rfl⟩ := List.mem_map.1 hx
    obtain ⟨_, _, h2⟩ := h2
    cases h2
    exact id_lt (hm'.log y hy)
theorem RecSt.keep {σ τ : Heap} {iw ik io m : Nat} {out : List TStep} (h : RecSt σ iw ik io m out) (hs : ∀ id, Mine σ iw ik io m id → τ[id]? = σ[id]?) : RecSt τ iw ik io m out ∧ ∀ id, Mine τ iw ik io m id → Mine σ iw ik io m id := by
  obtain ⟨ov, o1, o2⟩ := h.o
  obtain ⟨ents, hm⟩ := h.map
  have e1 : τ[io]? = σ[io]? := hs io (.inr (.inr (.inl rfl)))
  have e2 : τ[m]? = σ[m]? := hs m (.inr (.inr (.inr (.inl rfl))))
  refine ⟨⟨by rw [hs iw (.inl rfl)]; exact h.w, by rw [hs ik (.inr (.inl rfl))]; exact h.k, ⟨ov, by rw [e1]; exact o1, o2.keep fun L hL _ => hs L (.inr (.inr (.inr (.inr (.inl ⟨ov, o1, hL⟩)))))⟩, ⟨ents, by rw [e2]; exact hm.map, hm.keys, hm.logs, fun x hx => ?_, hm.all⟩, h.wo, h.ko, h.good⟩, fun id hid => ?_⟩
  · rw [hs x.2 (.inr (.inr (.inr (.inr (.inr ⟨_, hm.map, _, List.mem_map.2 ⟨x, hx, rfl⟩, ⟨_, _, rfl⟩⟩)))))]
    exact hm.log x hx
  · rcases hid with h | h | h | h | ⟨ov', h1, h2⟩ | ⟨es, h1, h2⟩
    · exact .inl h
    · exact .inr (.inl h)
    · exact .inr (.inr (.inl h))
    · exact .inr (.inr (.inr (.inl h)))
    · exact .inr (.inr (.inr (.inr (.inl ⟨ov', by rw [← e1]; exact h1, h2⟩))))
    · exact .inr (.inr (.inr (.inr (.inr ⟨es, by rw [← e2]; exact h1, h2⟩))))
theorem RecSt.stay {σ τ : Heap} {iw ik io m : Nat} {out : List TStep} (h : RecSt σ iw ik io m out) {S : Nat → Prop} (hs : Stay S σ τ) (hn : ∀ id, Mine σ iw ik io m id → ¬ S id) : RecSt τ iw ik io m out ∧ ∀ id, Mine τ iw ik io m id → Mine σ iw ik io m id :=
  h.keep fun id hid => hs.2 id (hid.lt h) (hn id hid)
/-- What is found under a key. -/
theorem RecSt.look {σ : Heap} {iw ik io m : Nat} {out : List TStep} (h : RecSt σ iw ik io m out) (k : Str) : ∃ u, Acc σ u 3 1 ((idxs out k).map fun i : Nat => cInt i) ∧ evPrim [] σ (.lookup .str .nils (.cst (.mp m)) (.cst (.str k)) false) = some (u, σ) ∧
    ∀ L, AccAt u L → ∃ es, σ[m]? = some (.map es) ∧ ∃ x ∈ es, AccAt x.2 L := by
  obtain ⟨ents, hm⟩ := h.map
  by_cases hk : k ∈ ents.map (·.1)
  · obtain ⟨x, hx, rfl⟩ := List.mem_map.1 hk
    obtain ⟨i, hi, he⟩ := List.mem_iff_getElem.1 hx
    have hxi : ents[i]? = some x := by rw [List.getElem?_eq_getElem hi, he]
    refine ⟨.own x.2 1 (idxs out x.1).length, .inr ⟨x.2, by simp, hm.log x hx⟩, ?_, fun L hL => ⟨_, hm.map, _, List.mem_map.2 ⟨x, hx, rfl⟩, hL⟩⟩
    simp only [evPrim, Opd.ev, keyOK, if_true, mapOf, hm.map, Option.bind_some, entsV, find_some (g := fun x => .own x.2 1 (idxs out x.1).length) 0 hxi hm.keys, Option.map_some]
    rfl
  · have hn : idxs out k = [] := by
      by_cases h0 : idxs out k = []
      · exact h0
      · exact absurd (hm.all k h0) hk
    refine ⟨.nils, by rw [hn]; exact Acc.nil _ _ _, ?_, fun L ⟨_, _, h⟩ => by cases h⟩
    simp only [evPrim, Opd.ev, keyOK, if_true, mapOf, hm.map, Option.bind_some, entsV, find_none (g := fun x => .own x.2 1 (idxs out x.1).length) 0 hk, Option.map_some]
    rfl
theorem nodup_at {α : Type} {l : List α} (hn : l.Nodup) {i j : Nat} {a : α} (h1 : l[i]? = some a) (h2 : l[j]? = some a) : i = j :=
  (List.getElem?_inj (List.getElem?_eq_some_iff.1 h1).1 hn).1 (h1.trans h2.symm)
theorem set_entsV {out : List TStep} {s : TStep} {ents : List (Str × Nat)} {i l : Nat} (hi : ents[i]? = some (keyOf s, l)) (hn : (ents.map (·.1)).Nodup) : (entsV out ents).set i (.str (keyOf s), .own l 1 ((idxs out (keyOf s)).length + 1)) = entsV (out ++ [s]) ents := by
  unfold entsV
  refine List.ext_getElem? fun j => ?_
  have hlt := (List.getElem?_eq_some_iff.1 hi).1
  by_cases hj : i = j
  · subst hj
    rw [List.getElem?_set_self (by simpa using hlt), List.getElem?_map, hi, Option.map_some, idxs_snoc, if_pos rfl]
    simp
  · rw [List.getElem?_set_ne hj, List.getElem?_map, List.getElem?_map]
    cases hx : ents[j]? with
    | none => rfl
    | some x =>
      have hne : keyOf s ≠ x.1 := fun e => by
        have h1 : (ents.map (·.1))[i]? = some (keyOf s) := by rw [List.getElem?_map, hi]; rfl
        have h2 : (ents.map (·.1))[j]? = some (keyOf s) := by rw [List.getElem?_map, hx, e]; rfl
        exact hj (nodup_at hn h1 h2)
      simp only [Option.map_some]
      rw [idxs_snoc, if_neg hne]
theorem new_entsV {out : List TStep} {s : TStep} {ents : List (Str × Nat)} {l : Nat} (hk : keyOf s ∉ ents.map (·.1)) (h0 : idxs out (keyOf s) = []) : entsV out ents ++ [(.str (keyOf s), .own l 1 1)] = entsV (out ++ [s]) (ents ++ [(keyOf s, l)]) := by
  unfold entsV
  rw [List.map_append]
  congr 1
  · refine List.map_congr_left fun x hx => ?_
    have hne : keyOf s ≠ x.1 := fun e => hk (by rw [e]; exact List.mem_map.2 ⟨x, hx, rfl⟩)
    rw [idxs_snoc, if_neg hne]
  · simp [idxs_snoc, h0]
/-- A step comes to the record. -/
theorem RecSt.add {σ : Heap} {iw ik io m : Nat} {out : List TStep} (h : RecSt σ iw ik io m out) {s : TStep} (hg : s.what.ok ∧ kidsOf s.what = [] ∧ Sm s.kids) (hl : out.length < 2000) :
    ∃ u ov u' ov' τ1 es τ3, evPrim [] σ (.lookup .str .nils (.cst (.mp m)) (.cst (.str (keyOf s))) false) = some (u, σ) ∧ σ[io]? = some (.box [ov]) ∧ Acc σ ov 61 13 (out.map TStep.c) ∧
      (∀ x, rowsOf σ 1 x = some [cInt (out.length : Nat)] → appendP 3 1 8 σ u x = some (u', τ1)) ∧ evPrim [] τ1 (.mapup .str (.cst (.mp m)) (.cst (.str (keyOf s))) (.cst u')) = some (.tup [], τ1.set m (.map es)) ∧
      (τ1.set m (.map es))[io]? = some (.box [ov]) ∧ (∀ x, rowsOf (τ1.set m (.map es)) 13 x = some [s.c] → appendP 61 13 280 (τ1.set m (.map es)) ov x = some (ov', τ3)) ∧ τ3[io]? = some (.box [ov]) ∧ ov'.scalar = true ∧
      Stay (Mine σ iw ik io m) σ (τ1.set m (.map es)) ∧ Acc (τ3.set io (.box [ov'])) ov' 61 13 ((out ++ [s]).map TStep.c) ∧
      RecSt (τ3.set io (.box [ov'])) iw ik io m (out ++ [s]) ∧ Stay (Mine σ iw ik io m) σ (τ3.set io (.box [ov'])) ∧ ∀ id, id < σ.length → Mine (τ3.set io (.box [ov'])) iw ik io m id → Mine σ iw ik io m id := by
  obtain ⟨ov, o1, o2⟩ := h.o
  obtain ⟨ents, hm⟩ := h.map
  obtain ⟨u, u1, u2, u3⟩ := h.look (keyOf s)
  have hil := idxs_len out (keyOf s)
  obtain ⟨u', τ1, a1, a2, a3, a4⟩ := u1.append (bytes := 8) (row := cInt (out.length : Nat)) (cInt_pure _) rfl rfl (by simp; omega)
  have mu : ∀ L, AccAt u L → Mine σ iw ik io m L := fun L hL => .inr (.inr (.inr (.inr (.inr (u3 L hL)))))
  have nbox : ∀ {id : Nat} {cs : List PV}, σ[id]? = some (.box cs) → ¬ AccAt u id := fun h => u1.notBox h
  have nm : ¬ AccAt u m := fun hL => by have := u1.lt hL; rw [hm.map] at this; cases this
  have t1m : τ1[m]? = some (.map (entsV out ents)) := a3.get hm.map nm
  have t1io : τ1[io]? = some (.box [ov]) := a3.get o1 (nbox o1)
  have mio : m ≠ io := fun e => by have := hm.map; rw [e, o1] at this; cases this
  -- the new entries
  obtain ⟨es, ents', e1, e2, e3, e4, e5, e6, e7⟩ : ∃ es ents', evPrim [] τ1 (.mapup .str (.cst (.mp m)) (.cst (.str (keyOf s))) (.cst u')) = some (.tup [], τ1.set m (.map es)) ∧ es = entsV (out ++ [s]) ents' ∧ (ents'.map (·.1)).Nodup ∧ (ents'.map (·.2)).Nodup ∧
      (∀ x ∈ ents', τ1[x.2]? = some (.log 3 1 ((idxs (out ++ [s]) x.1).map fun i : Nat => cInt i))) ∧ (∀ k, idxs (out ++ [s]) k ≠ [] → k ∈ ents'.map (·.1)) ∧ ∀ x ∈ ents', x ∈ ents ∨ σ.length ≤ x.2 := by
    by_cases hk : keyOf s ∈ ents.map (·.1)
    · obtain ⟨x, hx, hxk⟩ := List.mem_map.1 hk
      obtain ⟨i, hi, he⟩ := List.mem_iff_getElem.1 hx
      have hxi : ents[i]? = some x := by rw [List.getElem?_eq_getElem hi, he]
      obtain ⟨xk, l⟩ := x
      simp only at hxk
      subst hxk
      have hu : u = .own l 1 (idxs out (keyOf s)).length := by
        have : evPrim [] σ (.lookup .str .nils (.cst (.mp m)) (.cst (.str (keyOf s))) false) = some (.own l 1 (idxs out (keyOf s)).length, σ) := by
          simp only [evPrim, Opd.ev, keyOK, if_true, mapOf, hm.map, Option.bind_some, entsV, find_some (g := fun x => .own x.2 1 (idxs out x.1).length) 0 hxi hm.keys, Option.map_some]
          rfl
        rw [this] at u2
        cases u2; rfl
      have hu' : u' = .own l 1 ((idxs out (keyOf s)).length + 1) := by
        rcases a4 with ⟨L, ⟨_, _, hL⟩, h⟩ | ⟨h, _⟩
        · rw [hu] at hL; cases hL; simpa using h
        · rw [hu] at h; cases h
      refine ⟨entsV (out ++ [s]) ents, ents, ?_, rfl, hm.keys, hm.logs, fun y hy => ?_, fun k hk' => ?_, fun y hy => .inl hy⟩
      · have hf := find_some (g := fun x => .own x.2 1 (idxs out x.1).length) 0 hxi hm.keys
        have hf' : findP (.str (keyOf s)) (entsV out ents) 0 = some (some (0 + i, .own l 1 (idxs out (keyOf s)).length)) := hf
        simp only [evPrim, Opd.ev, t1m, keyOK, if_true, hf', Option.map_some, Nat.zero_add]
        rw [hu', ← set_entsV hxi hm.keys]
      · by_cases hyl : y.2 = l
        · have : y = (keyOf s, l) := by
            obtain ⟨j, hj, hje⟩ := List.mem_iff_getElem.1 hy
            have h1 : (ents.map (·.2))[i]? = some l := by rw [List.getElem?_map, hxi]; rfl
            have h2 : (ents.map (·.2))[j]? = some l := by rw [List.getElem?_map, List.getElem?_eq_getElem hj, hje, Option.map_some, hyl]
            have : i = j := nodup_at hm.logs h1 h2
            subst this
            rw [← hje, he]
          subst this
          have hA := a2.lt (L := l) ⟨1, _, hu'⟩
          simp only
          rw [hA, idxs_snoc, if_pos rfl, List.map_append]
          rfl
        · have hne : keyOf s ≠ y.1 := fun e => hyl (by
            obtain ⟨j, hj, hje⟩ := List.mem_iff_getElem.1 hy
            have h1 : (ents.map (·.1))[i]? = some (keyOf s) := by rw [List.getElem?_map, hxi]; rfl
            have h2 : (ents.map (·.1))[j]? = some (keyOf s) := by rw [List.getElem?_map, List.getElem?_eq_getElem hj, hje, Option.map_some, e]
            have : i = j := nodup_at hm.keys h1 h2
            subst this
            rw [← hje, he])
          rw [a3.2 y.2 (id_lt (hm.log y hy)) (fun ⟨_, _, hL⟩ => by rw [hu] at hL; cases hL; exact hyl rfl), hm.log y hy, idxs_snoc, if_neg hne]
      · by_cases hks : keyOf s = k
        · rw [← hks]; exact hk
        · rw [idxs_snoc, if_neg hks] at hk'
          exact hm.all k hk'
    · have hn : idxs out (keyOf s) = [] := by
        by_cases h0 : idxs out (keyOf s) = []
        · exact h0
        · exact absurd (hm.all _ h0) hk
      have hu : u = .nils := by
        have : evPrim [] σ (.lookup .str .nils (.cst (.mp m)) (.cst (.str (keyOf s))) false) = some (.nils, σ) := by
          simp only [evPrim, Opd.ev, keyOK, if_true, mapOf, hm.map, Option.bind_some, entsV, find_none (g := fun x => .own x.2 1 (idxs out x.1).length) 0 hk, Option.map_some]
          rfl
        rw [this] at u2
        cases u2; rfl
      have hu' : u' = .own σ.length 1 1 := by
        rcases a4 with ⟨L, ⟨_, _, hL⟩, h⟩ | ⟨_, h⟩
        · rw [hu] at hL; cases hL
        · rw [h, hn]; rfl
      have hfresh : ∀ x ∈ ents, x.2 < σ.length := fun x hx => id_lt (hm.log x hx)
      refine ⟨entsV (out ++ [s]) (ents ++ [(keyOf s, σ.length)]), ents ++ [(keyOf s, σ.length)], ?_, rfl, ?_, ?_, fun y hy => ?_, fun k hk' => ?_, fun y hy => ?_⟩
      · have hf := find_none (g := fun x => .own x.2 1 (idxs out x.1).length) 0 hk
        have hf' : findP (.str (keyOf s)) (entsV out ents) 0 = some none := hf
        simp only [evPrim, Opd.ev, t1m, keyOK, if_true, hf', Option.map_some]
        rw [hu', ← new_entsV hk hn]
      · rw [List.map_append, List.nodup_append]
        exact ⟨hm.keys, by simp, fun a ha b hb e => by simp at hb; subst hb; subst e; exact hk ha⟩
      · rw [List.map_append, List.nodup_append]
        refine ⟨hm.logs, by simp, fun a ha b hb e => ?_⟩
        obtain ⟨x, hx, rfl⟩ := List.mem_map.1 ha
        have := hfresh x hx
        simp at hb
        omega
      · rcases List.mem_append.1 hy with hy | hy
        · have hne : keyOf s ≠ y.1 := fun e => hk (by rw [e]; exact List.mem_map.2 ⟨y, hy, rfl⟩)
          rw [a3.2 y.2 (hfresh y hy) (fun ⟨_, _, hL⟩ => by rw [hu] at hL; cases hL), hm.log y hy, idxs_snoc, if_neg hne]
        · simp at hy
          subst hy
          have hA := a2.lt (L := σ.length) ⟨1, _, hu'⟩
          simp only
          rw [hA, idxs_snoc, if_pos rfl, List.map_append]
          rfl
      · rw [List.map_append, List.mem_append]
        by_cases hks : keyOf s = k
        · right; simp [hks]
        · left
          rw [idxs_snoc, if_neg hks] at hk'
          exact hm.all k hk'
      · rcases List.mem_append.1 hy with hy | hy
        · exact .inl hy
        · simp at hy; subst hy; exact .inr (Nat.le_refl _)
  -- the steps
  have ovn : ∀ L, AccAt ov L → ¬ AccAt u L := fun L h1 h2 => by
    have b1 := o2.lt h1
    rw [u1.lt h2] at b1
    cases b1
  have om : ¬ AccAt ov m := fun hL => by have := o2.lt hL; rw [hm.map] at this; cases this
  have c1 : Acc τ1 ov 61 13 (out.map TStep.c) := o2.keep fun L hL hlt => a3.2 L hlt (ovn L hL)
  have c2 : Acc (τ1.set m (.map es)) ov 61 13 (out.map TStep.c) := c1.keep fun L hL hlt => List.getElem?_set_ne fun e => om (by rw [e]; exact hL)
  have t2io : (τ1.set m (.map es))[io]? = some (.box [ov]) := get_other t1io mio _
  obtain ⟨ov', τ3, d1, d2, d3, d4⟩ := c2.append (bytes := 280) (TStep.pure s) (TStep.len s) (TStep.scal s) (by simp; omega)
  have t3io : τ3[io]? = some (.box [ov]) := d3.get t2io (c2.notBox t2io)
  have d5 : Acc (τ3.set io (.box [ov'])) ov' 61 13 ((out ++ [s]).map TStep.c) := by
    rw [List.map_append]
    exact d2.keep fun L hL hlt => List.getElem?_set_ne fun e => d2.notBox t3io (by rw [e]; exact hL)
  have smap : Stay (Mine σ iw ik io m) σ τ1 := a3.mono fun id _ h => mu id h
  have s2 : Stay (Mine σ iw ik io m) σ (τ1.set m (.map es)) := smap.trans (Stay.set (.inr (.inr (.inr (.inl rfl)))) _)
  have s3 : Stay (Mine σ iw ik io m) σ τ3 := by
    refine ⟨Nat.le_trans s2.1 d3.1, fun id hid hn => ?_⟩
    rw [d3.2 id (Nat.lt_of_lt_of_le hid s2.1) (fun h => hn (.inr (.inr (.inr (.inr (.inl ⟨ov, o1, h⟩)))))), s2.2 id hid hn]
  have s4 : Stay (Mine σ iw ik io m) σ (τ3.set io (.box [ov'])) := s3.trans (Stay.set (.inr (.inr (.inl rfl))) _)
  -- what isn't a log of the map's or the steps
  have old : ∀ {id : Nat} {o : PE.Obj}, σ[id]? = some o → id ≠ m → id ≠ io → (∀ ty st rows, o ≠ .log ty st rows) → (τ3.set io (.box [ov']))[id]? = some o := fun {id o} ho h1 h2 hno => by
    have n1 : ¬ AccAt u id := fun hL => hno _ _ _ (Option.some.inj ((ho.symm).trans (u1.lt hL)))
    have n2 : ¬ AccAt ov id := fun hL => hno _ _ _ (Option.some.inj ((ho.symm).trans (o2.lt hL)))
    exact get_other (d3.get (get_other (a3.get ho n1) (Ne.symm h1) _) n2) (Ne.symm h2) _
  have ne_m : ∀ {id : Nat} {cs : List PV}, σ[id]? = some (.box cs) → id ≠ m := fun ho e => by rw [e, hm.map] at ho; cases ho
  have t4m : (τ3.set io (.box [ov']))[m]? = some (.map es) := get_other (d3.get (get_set t1m _) om) (Ne.symm mio) _
  refine ⟨u, ov, u', ov', τ1, es, τ3, u2, o1, o2, a1, e1, t2io, d1, t3io, d2.scal, s2, d5, ⟨old h.w (ne_m h.w) h.wo (fun _ _ _ h => by cases h), old h.k (ne_m h.k) h.ko (fun _ _ _ h => by cases h), ⟨ov', get_set t3io _, d5⟩, ⟨ents', by rw [t4m, e2], e3, e4, fun x hx => ?_, e6⟩, h.wo, h.ko, fun t ht => ?_⟩, s4, fun id hid hmine => ?_⟩
  · have hx1 := e5 x hx
    have n1 : x.2 ≠ m := fun e => by rw [e, t1m] at hx1; cases hx1
    have n2 : x.2 ≠ io := fun e => by rw [e, t1io] at hx1; cases hx1
    have n3 : ¬ AccAt ov x.2 := fun hL => by have := c1.lt hL; rw [hx1] at this; cases this
    exact get_other (d3.get (get_other hx1 (Ne.symm n1) _) n3) (Ne.symm n2) _
  · rcases List.mem_append.1 ht with ht | ht
    · exact h.good t ht
    · simp at ht; subst ht; exact hg
  · rcases hmine with h | h | h | h | ⟨ov2, h1, h2⟩ | ⟨es2, h1, x, hx, h2⟩
    · exact .inl h
    · exact .inr (.inl h)
    · exact .inr (.inr (.inl h))
    · exact .inr (.inr (.inr (.inl h)))
    · rw [get_set t3io] at h1
      cases h1
      rcases d4 with ⟨L, hL, rfl⟩ | ⟨_, rfl⟩
      · obtain ⟨_, _, h2⟩ := h2
        cases h2
        exact .inr (.inr (.inr (.inr (.inl ⟨ov, o1, hL⟩))))
      · obtain ⟨_, _, h2⟩ := h2
        cases h2
        have := s2.1
        omega
    · rw [t4m] at h1
      cases h1
      rw [e2] at hx
      obtain ⟨y, hy, rfl⟩ := List.mem_map.1 hx
      obtain ⟨_, _, h2⟩ := h2
      cases h2
      rcases e7 y hy with hy' | hy'
      · exact .inr (.inr (.inr (.inr (.inr ⟨_, hm.map, _, List.mem_map.2 ⟨y, hy', rfl⟩, ⟨_, _, rfl⟩⟩))))
      · omega
end Go.Proofs.YtkpbfldnickghaaDoor
set_option linter.unusedVariables false
set_option linter.unusedSimpArgs false
namespace Go.Proofs.YtkpbfldnickghaaDoor
open Go Go.PE
theorem cert5 (c : TCert) : c.c.length = 5 := TCert.len c
theorem bareC_len (b : Bare) : (bareC b).length = 12 := by simp [bareC, TCert.len]
theorem bareC_pure (b : Bare) : pureL (bareC b) = true := by
  simp only [bareC, pureL_app, pureL, PV.pure, encL_pure (fun x _ => TNode.pure x), encL_pure (fun x _ => TPair.pure x), encL_pure (fun x _ => cInt_pure x), encL_pure (fun x _ => cStr_pure x), TCert.pure, Bool.and_self]
theorem bareC_scal (b : Bare) : (bareC b).all PV.scalar = true := by
  simp only [bareC, List.all_append, TCert.scal, List.all_cons, List.all_nil, scal_encL, Bool.and_true]
  rfl
theorem bareC_canon (b : Bare) : canonL [none, none, some 6, some 13, some 1, some 1, none, some 3, some 2, some 5, some 5, some 12] (bareC b) = (node b).c := by
  obtain ⟨rule, name, forms, subst, path, args, ⟨kind, nums, polys, squares, kids⟩⟩ := b
  simp [bareC, node_c, TCert.c_eq, canonL, canon1_encL, canon1_none]
  rfl
theorem coe1_pure {σ : Heap} {p : PV} (h : p.pure = true) : coe1 σ p = p := by cases p <;> first | rfl | (simp [PV.pure] at h)
theorem coeL_pure {σ : Heap} : ∀ {l : List PV}, pureL l = true → l.map (coe1 σ) = l
  | [], _ => rfl
  | v :: l, h => by
    simp only [pureL, Bool.and_eq_true] at h
    simp only [List.map_cons, coe1_pure h.1, coeL_pure h.2]
theorem canonL_app {ss ts : List (Option Nat)} {a b : List PV} (h : ss.length = a.length) : canonL (ss ++ ts) (a ++ b) = canonL ss a ++ canonL ts b := by
  induction ss generalizing a with
  | nil => cases a with
    | nil => rfl
    | cons _ _ => simp at h
  | cons s ss ih => cases a with
    | nil => simp at h
    | cons v a => simp only [List.cons_append, canonL, ih (by simpa using h)]
/-- The step that is under way, as a value. -/
theorem step_coe {τ : Heap} {b : Bare} {v : PV} {ks : List Nat} (h : Acc τ v 3 1 (ks.map fun i : Nat => cInt i)) : canonV [none, none, some 6, some 13, some 1, some 1, none, some 3, some 2, some 5, some 5, some 12, some 1] (coeV τ (.agg (bareC b ++ [v]))) = .agg (TStep.mk (node b) (ks.map fun i : Nat => (i : Int))).c := by
  simp only [coeV, List.map_append, List.map_cons, List.map_nil, coeL_pure (bareC_pure b), canonV]
  rw [show ([none, none, some 6, some 13, some 1, some 1, none, some 3, some 2, some 5, some 5, some 12, some 1] : List (Option Nat)) = [none, none, some 6, some 13, some 1, some 1, none, some 3, some 2, some 5, some 5, some 12] ++ [some 1] from rfl, canonL_app (by rw [bareC_len]; rfl), bareC_canon]
  simp only [canonL, h.coe, TStep.c, encL, List.map_map]
  rfl
theorem step_set (b : Bare) (v w : PV) : (bareC b ++ [v]).set 12 w = bareC b ++ [w] := by
  rw [List.set_append_right _ _ (by rw [bareC_len]; omega), bareC_len]
  rfl
theorem step_get (b : Bare) (v : PV) : (bareC b ++ [v])[12]? = some v := by
  rw [List.getElem?_append_right (by rw [bareC_len]; omega), bareC_len]
  rfl
theorem step_what (b : Bare) (v : PV) : loadP true 12 (bareC b ++ [v]) = some (.agg (bareC b)) := by
  rw [loadP_agg 12 _ (by simp [bareC_len]), ← bareC_len b, List.take_left]
theorem node_ok {p : TProof} (h : p.ok) : (node (bareOf p)).ok := by
  cases p
  obtain ⟨h1, h2, h3, h4, h5, _, _⟩ := h
  exact ⟨h1, h2, h3, h4, h5, by simp [Sm], trivial⟩
theorem ints_map (ks : List Nat) : encL 1 cInt (ks.map fun i : Nat => (i : Int)) = .sl 1 false (ks.map fun i : Nat => cInt i) := by simp only [encL, List.map_map]; rfl
theorem proof_parts {p : TProof} (h : p.sz < lim) : (bareOf p).rule.length < lim ∧ (bareOf p).name.length < lim ∧ (kidsOf p).length < lim ∧ ∀ k ∈ kidsOf p, k.sz < lim := by
  cases p
  simp only [TProof.sz, TProof.szs_sum, bareOf, kidsOf] at h ⊢
  rename_i kids
  have := len_sum proof_pos kids
  refine ⟨by omega, by omega, by omega, fun k hk => ?_⟩
  have := sum_mem_le (f := TProof.sz) hk
  omega
theorem p23k : (p23.keepr.all fun k => !k.1) = true := rfl
/-- The kids' length in cells of a proof. -/
theorem kid_cell (p : TProof) : p.c[11]? = some (encL 12 TProof.c (kidsOf p)) := by
  obtain ⟨rule, name, forms, subst, path, args, ⟨kind, nums, polys, squares, ckids⟩, kids⟩ := p
  rw [TProof.c_eq]
  simp only [kidsOf, TCert.c_eq]
  rfl
theorem walk_end {iw ik io m : Nat} {out : List TStep} {σ τ : Heap} {p : TProof} {ks : List Nat} {v : PV} {st : Nat} (hp : p.ok) (hz : p.sz < lim) (hw : (∀ i, i ∈ ks → i < 2000) ∧ ks.length < lim) (h : RecSt τ iw ik io m out) (hl : out.length < 2000)
    (hst : τ[st]? = some (.box (bareC (bareOf p) ++ [v]))) (hv : Acc τ v 3 1 (ks.map fun i : Nat => cInt i)) (n1 : ¬ Mine τ iw ik io m st) (n2 : ∀ L, AccAt v L → ¬ Mine τ iw ik io m L) :
    ∃ σ', J23_4 XI (.ptr ik 0) (.ptr io 0) (.ptr st 0) τ = some ([.int .i64 ((if idxOf out (stepOf p ks) < out.length then idxOf out (stepOf p ks) else out.length : Nat) : Int)], σ') ∧
      RecSt σ' iw ik io m (if idxOf out (stepOf p ks) < out.length then out else out ++ [stepOf p ks]) ∧ Stay (Mine τ iw ik io m) τ σ' ∧ ∀ id, id < τ.length → Mine σ' iw ik io m id → Mine τ iw ik io m id := by
  obtain ⟨z1, z2, z3, z4⟩ := proof_parts hz
  have hs : (stepOf p ks).what = node (bareOf p) := rfl
  have hsk : (stepOf p ks).kids = ks.map fun i : Nat => (i : Int) := rfl
  have hk : (Hw C XI).pure 25 [.agg (stepOf p ks).c] = some [.str (keyOf (stepOf p ks))] := key_ok _ z1 z2 (by rw [hsk]; simpa using hw.2) (fun k hk => by
    rw [hsk] at hk
    obtain ⟨i, hi, rfl⟩ := List.mem_map.1 hk
    have := hw.1 i hi
    unfold i64ok
    omega)
  have hcall := fun (K : PV → Heap → Option (List PV × Heap)) => callK_val (pc := false) (args := [.agg (bareC (bareOf p) ++ [v])]) (args' := [.agg (stepOf p ks).c]) (k := K) C25 (σ := τ) rfl (by
    simp only [p25, keepArgs, step_coe hv, List.map_nil]; rfl) (by simp only [pureL, PV.pure, TStep.pure, Bool.and_self]) hk
  obtain ⟨u, u1, u2, u3⟩ := h.look (keyOf (stepOf p ks))
  have mu : ∀ L, AccAt u L → Mine τ iw ik io m L := fun L hL => .inr (.inr (.inr (.inr (.inr (u3 L hL)))))
  have hil := idxs_len out (keyOf (stepOf p ks))
  obtain ⟨ov, o1, o2⟩ := h.o
  rw [J23_4_eq]
  have hlen13 : (bareC (bareOf p) ++ [v]).length = 13 := by simp [bareC_len]
  simp only [load_all (sz := 13) hst hlen13, Option.bind_some, hcall, packP, load_box h.k (show ([PV.mp m] : List PV)[0]? = some (.mp m) from rfl), u2, u1.len, List.length_map]
  refine inv_loop2 (n := (idxs out (keyOf (stepOf p ks))).length) (Q := fun r => ∃ σ', r = some ([.int .i64 ((if idxOf out (stepOf p ks) < out.length then idxOf out (stepOf p ks) else out.length : Nat) : Int)], σ') ∧
      RecSt σ' iw ik io m (if idxOf out (stepOf p ks) < out.length then out else out ++ [stepOf p ks]) ∧ Stay (Mine τ iw ik io m) τ σ' ∧ ∀ id, id < τ.length → Mine σ' iw ik io m id → Mine τ iw ik io m id)
    (L := fun j ρ => L23_1 XI (.ptr ik 0) (.ptr io 0) (.ptr st 0) (.str (keyOf (stepOf p ks))) u (.int .i64 ((idxs out (keyOf (stepOf p ks))).length : Nat)) (.int .i64 (j : Nat)) ρ)
    (I := fun j ρ => ρ = τ ∧ ∀ (j' : Nat) (hj : j' < (idxs out (keyOf (stepOf p ks))).length) (hl : (idxs out (keyOf (stepOf p ks)))[j'] < out.length), j' < j → out[(idxs out (keyOf (stepOf p ks)))[j']] ≠ stepOf p ks) ?_ ?_ ⟨rfl, fun _ _ _ h => by omega⟩
  · -- none of them is it
    rintro ρ ⟨rfl, hno⟩
    have hmiss : idxOf out (stepOf p ks) = out.length := idx_miss fun j hj hl => hno j hj hl hj
    have hnlt : ¬ idxOf out (stepOf p ks) < out.length := by omega
    have hgood : (stepOf p ks).what.ok ∧ kidsOf (stepOf p ks).what = [] ∧ Sm (stepOf p ks).kids := ⟨node_ok hp, rfl, by rw [hsk]; unfold Sm; have := hw.2; unfold lim at this; simp; omega⟩
    obtain ⟨u0, ov0, u', ov', τ1, es, τ3, r1, r2, r3, r4, r5, r6, r7, r8, r9, r10, r11, r12, r13, r14⟩ := h.add hgood hl
    have st2 : (τ1.set m (.map es))[st]? = some (.box (bareC (bareOf p) ++ [v])) := r10.get hst n1
    have v2 : Acc (τ1.set m (.map es)) v 3 1 (ks.map fun i : Nat => cInt i) := hv.keep fun L hL hlt => r10.2 L hlt (n2 L hL)
    rw [if_neg hnlt, if_neg hnlt]
    refine ⟨τ3.set io (.box [ov']), ?_, r12, r13, r14⟩
    try simp only
    rw [L23_1_eq]
    simp only [bin_lss, Option.bind_some, Int.lt_irrefl, decide_false, condK_false]
    rw [J23_2_eq]
    have hk1 : (((out.length + 1 : Nat) : Int) - 1) = ((out.length : Nat) : Int) := by omega
    simp only [load_box h.k (show ([PV.mp m] : List PV)[0]? = some (.mp m) from rfl), Option.bind_some, r1, load_box r2 (show ([ov0] : List PV)[0]? = some ov0 from rfl), r3.len, List.length_map, bslice_int, r4 _ (rowsOf_sl _ _ _ _), r5, load_box r6 (show ([ov0] : List PV)[0]? = some ov0 from rfl), load_all (sz := 13) st2 hlen13, bslice_one (show (canonV [none, none, some 6, some 13, some 1, some 1, none, some 3, some 2, some 5, some 5, some 12, some 1] (coeV (τ1.set m (.map es)) (.agg (bareC (bareOf p) ++ [v])))).cells? = some (stepOf p ks).c by rw [step_coe v2]; rfl) (TStep.len _) (TStep.pure _), r7 _ (rowsOf_sl _ _ _ _), storeV_one r8 (show 0 < ([ov0] : List PV).length by simp) r9]
    have hset : ([ov0] : List PV).set 0 ov' = [ov'] := rfl
    simp only [hset, load_box (get_set r8 (.box [ov'])) (show ([ov'] : List PV)[0]? = some ov' from rfl), Option.bind_some, r11.len, List.length_map, List.length_append, List.length_singleton, bin_sub, hk1, wrap_nat (show out.length < 9223372036854775808 by omega), keepArgs_pure _ _ _ p23k (show pureL [PV.int .i64 ((out.length : Nat) : Int)] = true from rfl)]
    rfl
  · rintro j hj ρ ⟨rfl, hno⟩
    have hi : (idxs out (keyOf (stepOf p ks)))[j] < out.length := (mem_idxs.1 (List.getElem_mem hj)).1
    have hgood := h.good out[(idxs out (keyOf (stepOf p ks)))[j]] (List.getElem_mem hi)
    have hrow : ((idxs out (keyOf (stepOf p ks))).map fun i : Nat => cInt i)[j]'(by simpa using hj) = cInt ((idxs out (keyOf (stepOf p ks)))[j] : Nat) := by simp
    have hia : iaddrV ρ 1 u (.int .i64 (j : Nat)) = some (.cref (cInt ((idxs out (keyOf (stepOf p ks)))[j] : Nat))) := by rw [u1.iaddr .i64 (by simpa using hj), hrow]
    have hio : iaddrV ρ 13 ov (.int .i64 ((idxs out (keyOf (stepOf p ks)))[j] : Nat)) = some (.cref out[(idxs out (keyOf (stepOf p ks)))[j]].c) := by
      rw [o2.iaddr .i64 (by simpa using hi)]
      simp
    -- the two comparisons
    have c26 := fun (K : PV → Heap → Option (List PV × Heap)) => callK_val (pc := false) (args := [.agg out[(idxs out (keyOf (stepOf p ks)))[j]].what.c, .agg (bareC (bareOf p))]) (args' := [.agg out[(idxs out (keyOf (stepOf p ks)))[j]].what.c, .agg (node (bareOf p)).c]) (k := K) C26 (σ := ρ) rfl (by
      rw [keepArgs_pure ρ p26.keep _ rfl (by simp only [pureL, PV.pure, TProof.pure, bareC_pure, Bool.and_self])]
      simp only [p26, canonA, canonV, TProof.canon, bareC_canon]) (by simp only [pureL, PV.pure, TProof.pure, Bool.and_self]) (bare_ok XI _ _ hgood.1 (node_ok hp))
    have c27 := fun (K : PV → Heap → Option (List PV × Heap)) => callK_val (pc := false) (args := [encL 1 cInt out[(idxs out (keyOf (stepOf p ks)))[j]].kids, v]) (args' := [encL 1 cInt out[(idxs out (keyOf (stepOf p ks)))[j]].kids, encL 1 cInt (ks.map fun i : Nat => (i : Int))]) (k := K) C27 (σ := ρ) rfl (by
      simp only [p27, keepArgs, coe_pure (encL_pure (fun x _ => cInt_pure x)), canon_sl]
      have : canonV [some 1] (coeV ρ v) = encL 1 cInt (ks.map fun i : Nat => (i : Int)) := by
        rw [ints_map, ← hv.coe]
        rcases hv with ⟨_, e⟩ | ⟨L, e, e'⟩ <;> rw [e]
        · rfl
        · simp only [coeV, coe1, e']
          simp [canonV]
      rw [this]
      rfl) (by simp only [pureL, encL_pure (fun x _ => cInt_pure x), Bool.and_self]) (ints_ok XI _ _ hgood.2.2)
    have heq : out[(idxs out (keyOf (stepOf p ks)))[j]] = stepOf p ks ↔ bareOf out[(idxs out (keyOf (stepOf p ks)))[j]].what = bareOf (node (bareOf p)) ∧ out[(idxs out (keyOf (stepOf p ks)))[j]].kids = ks.map fun i : Nat => (i : Int) := by
      have hkid := hgood.2.1
      generalize out[(idxs out (keyOf (stepOf p ks)))[j]] = t at hkid ⊢
      obtain ⟨tw, tk⟩ := t
      simp only [stepOf, TStep.mk.injEq]
      rw [proof_eq]
      simp only at hkid
      constructor
      · rintro ⟨⟨h1, h2⟩, h3⟩; exact ⟨h1, h3⟩
      · rintro ⟨h1, h3⟩; exact ⟨⟨h1, by rw [hkid]; rfl⟩, h3⟩
    have hsw : loadV ρ true 12 (.ptr st 0) = some (.agg (bareC (bareOf p))) := by rw [loadV_ptr hst, List.drop_zero]; exact step_what _ _
    have hsv : loadV ρ false 1 (.ptr st 12) = some v := load_box hst (step_get _ _)
    by_cases h1 : bareOf out[(idxs out (keyOf (stepOf p ks)))[j]].what = bareOf (node (bareOf p))
    · by_cases h2 : out[(idxs out (keyOf (stepOf p ks)))[j]].kids = ks.map fun i : Nat => (i : Int)
      · -- it is there
        left
        have hhit : idxOf out (stepOf p ks) = (idxs out (keyOf (stepOf p ks)))[j] := idx_hit hj hi (heq.2 ⟨h1, h2⟩) fun j' hj' hl' => hno j' (by omega) hl' hj'
        have hlt : idxOf out (stepOf p ks) < out.length := by rw [hhit]; exact hi
        rw [if_pos hlt, if_pos hlt]
        refine ⟨ρ, ?_, h, Stay.refl _ _, fun id _ hid => hid⟩
        try simp only
        rw [L23_1_eq]
        simp only [bin_lss, Option.bind_some, hia, loadV_cref, cInt, loadP_one, load_box o1 (show ([ov] : List PV)[0]? = some ov from rfl), hio, faddrV_cref, List.drop_zero, tsw, faddrV_ptr, Nat.zero_add, hsw, c26, packP, eqb_eq h1, guardR_yes, ts12', hsv, c27, eqb_eq h2, nthV_zero, nthV_succ, pickV_true, condK_true, hhit, keepArgs_pure _ _ _ p23k (show pureL [PV.int .i64 (((idxs out (keyOf (stepOf p ks)))[j] : Nat) : Int)] = true from rfl)]
        simp [hj]
        rfl
      · right
        refine ⟨ρ, ⟨rfl, fun j' hj' hl' hlt => ?_⟩, ?_⟩
        · rcases Nat.lt_or_ge j' j with h | h
          · exact hno j' hj' hl' h
          · obtain rfl : j' = j := by omega
            exact fun e => h2 (heq.1 e).2
        · try simp only
          rw [L23_1_eq]
          simp only [bin_lss, Option.bind_some, hia, loadV_cref, cInt, loadP_one, load_box o1 (show ([ov] : List PV)[0]? = some ov from rfl), hio, faddrV_cref, List.drop_zero, tsw, faddrV_ptr, Nat.zero_add, hsw, c26, packP, eqb_eq h1, guardR_yes, ts12', hsv, c27, eqb_ne h2, nthV_zero, nthV_succ, pickV_true, condK_false, bin_add, wrap_succ (show j < 9223372036854775807 by omega)]
          simp [hj]
    · right
      refine ⟨ρ, ⟨rfl, fun j' hj' hl' hlt => ?_⟩, ?_⟩
      · rcases Nat.lt_or_ge j' j with h | h
        · exact hno j' hj' hl' h
        · obtain rfl : j' = j := by omega
          exact fun e => h1 (heq.1 e).1
      · try simp only
        rw [L23_1_eq]
        simp only [bin_lss, Option.bind_some, hia, loadV_cref, cInt, loadP_one, load_box o1 (show ([ov] : List PV)[0]? = some ov from rfl), hio, faddrV_cref, List.drop_zero, tsw, faddrV_ptr, Nat.zero_add, hsw, c26, packP, eqb_ne h1, guardR_ft, nthV_zero, nthV_succ, pickV_false, condK_false, bin_add, wrap_succ (show j < 9223372036854775807 by omega)]
        simp [hj]
end Go.Proofs.YtkpbfldnickghaaDoor
set_option linter.unusedVariables false
set_option linter.unusedSimpArgs false
namespace Go.Proofs.YtkpbfldnickghaaDoor
open Go Go.PE
theorem call23w {R : Type} {iw ik io : Nat} {p : TProof} {σ σ' : Heap} {rs : List PV} (h : (Hw C XI).imp 23 [.agg p.c, .ptr iw 0, .ptr ik 0, .ptr io 0] σ = some (rs, σ')) (K : PV → Heap → Option R) :
    callK C (Hw C XI) σ false (.fn 23 [.ptr iw 0, .ptr ik 0, .ptr io 0]) [.agg p.c] K = K (packP rs) σ' :=
  callK_imp C23 (by
    simp only [p23, List.cons_append, List.nil_append, keepArgs, coe_pure (show (PV.agg p.c).pure = true from TProof.pure _), coe_ptr, canonV, TProof.canon, List.map_cons, List.map_nil]) (by simp [pureL, PV.pure]) h
theorem walk_ok {iw ik io m : Nat} : ∀ (p : TProof), p.ok → p.sz < lim → ∀ (σ : Heap) (out : List TStep), RecSt σ iw ik io m out → out.length + nodes p ≤ 2000 →
    ∃ σ', (Hw C XI).imp 23 [.agg p.c, .ptr iw 0, .ptr ik 0, .ptr io 0] σ = some ([.int .i64 ((rec1 out p).2 : Nat)], σ') ∧ RecSt σ' iw ik io m (rec1 out p).1 ∧ Stay (Mine σ iw ik io m) σ σ' ∧ ∀ id, id < σ.length → Mine σ' iw ik io m id → Mine σ iw ik io m id
  | p, hp, hz, σ, out, h, hn => by
    obtain ⟨z1, z2, z3, z4⟩ := proof_parts hz
    have K := kids_ok_of hp
    have np := nodes_eq p
    -- the heap ahead of the loop
    have s1 : (σ ++ [PE.Obj.box p.c])[σ.length]? = some (.box p.c) := get_last _ _
    have hbuild : ∀ τ, evPrim [] τ (.build [(.str []), (.str []), .nils, .nils, .nils, .nils, (.int .i64 0), .nils, .nils, .nils, .nils, .nils, .nils] [(0, 12, (.cst (.agg (bareC (bareOf p)))))]) = some (.agg (bareC (bareOf p) ++ [.nils]), τ) := fun τ => by
      simp [evPrim, fillP, Opd.ev, cells_agg, bareC_len]
    have hlen : (bareC (bareOf p) ++ [PV.nils]).length = 13 := by simp [bareC_len]
    have hsc : (bareC (bareOf p) ++ [PV.nils]).all PV.scalar = true := by simp only [List.all_append, bareC_scal, Bool.true_and]; rfl
    have hsto : storeV (σ ++ [PE.Obj.box p.c] ++ [.box [(.str []), (.str []), .nils, .nils, .nils, .nils, (.int .i64 0), .nils, .nils, .nils, .nils, .nils, .nils]]) 13 (.ptr (σ ++ [PE.Obj.box p.c]).length 0) (.agg (bareC (bareOf p) ++ [.nils])) = some (σ ++ [PE.Obj.box p.c] ++ [.box (bareC (bareOf p) ++ [.nils])]) := storeV_last rfl hlen hsc
    have hpc : (σ ++ [PE.Obj.box p.c] ++ [.box (bareC (bareOf p) ++ [.nils])])[σ.length]? = some (.box p.c) := get_prev s1 _
    rw [F23]
    simp only [boxV_agg, Option.bind_some, load_all (sz := 12) s1 (TProof.len p), call24 XI p hz, hbuild, hsto, faddrV_ptr, Nat.zero_add, load_box hpc (kid_cell p), len_enc]
    have hst0 : Stay (fun _ => False) σ (σ ++ [PE.Obj.box p.c] ++ [.box (bareC (bareOf p) ++ [.nils])]) := (Stay.push _ _ _).trans (Stay.push _ _ _)
    obtain ⟨R0, M0⟩ := h.stay hst0 fun _ _ h => h
    have hstid : (σ ++ [PE.Obj.box p.c]).length = σ.length + 1 := by simp
    rw [hstid]
    refine inv_loop (n := (kidsOf p).length) (Q := fun r => ∃ σ', r = some ([.int .i64 ((rec1 out p).2 : Nat)], σ') ∧ RecSt σ' iw ik io m (rec1 out p).1 ∧ Stay (Mine σ iw ik io m) σ σ' ∧ ∀ id, id < σ.length → Mine σ' iw ik io m id → Mine σ iw ik io m id)
      (L := fun i τ => L23_3 XI (.ptr iw 0) (.ptr ik 0) (.ptr io 0) (.ptr (σ.length + 1) 0) (encL 12 TProof.c (kidsOf p)) (.int .i64 ((kidsOf p).length : Nat)) (.int .i64 (i : Nat)) τ)
      (I := fun i τ => RecSt τ iw ik io m (recs out ((kidsOf p).take i)).1 ∧ (∃ v, τ[σ.length + 1]? = some (.box (bareC (bareOf p) ++ [v])) ∧ Acc τ v 3 1 ((recs out ((kidsOf p).take i)).2.map fun i : Nat => cInt i) ∧ ∀ L, AccAt v L → ¬ Mine τ iw ik io m L ∧ σ.length ≤ L) ∧ ¬ Mine τ iw ik io m (σ.length + 1) ∧
        Stay (Mine σ iw ik io m) σ τ ∧ ∀ id, id < σ.length → Mine τ iw ik io m id → Mine σ iw ik io m id) ?_ ?_ ?_
    · -- behind the loop
      rintro τ ⟨k1, ⟨v, k2, k3, k4⟩, k5, k6, k7⟩
      rw [List.take_length] at k1 k3
      obtain ⟨l1, l2, l3⟩ := recs_len (kidsOf p) out
      have lc := recs_cnt (kidsOf p) out
      obtain ⟨σ', e1, e2, e3, e4⟩ := walk_end (σ := σ) (ks := (recs out (kidsOf p)).2) hp hz ⟨fun i hi => by have := l2 i hi; omega, by omega⟩ k1 (by omega) k2 k3 k5 (fun L hL => (k4 L hL).1)
      have hlt : σ.length ≤ τ.length := k6.1
      refine ⟨σ', ?_, ?_, ?_, fun id hid hm => k7 id hid (e4 id (Nat.lt_of_lt_of_le hid hlt) hm)⟩
      · try simp only
        rw [L23_3_eq]
        simp only [bin_lss, Option.bind_some, Int.lt_irrefl, decide_false, condK_false]
        rw [e1, rec1_eq]
        split <;> rfl
      · rw [rec1_eq]
        split at e2
        · rename_i hlt'; rw [if_pos hlt']; exact e2
        · rename_i hlt'; rw [if_neg hlt']; exact e2
      · exact ⟨Nat.le_trans hlt e3.1, fun id hid hn' => by rw [e3.2 id (Nat.lt_of_lt_of_le hid hlt) (fun hm => hn' (k7 id hid hm)), k6.2 id hid hn']⟩
    · -- a round
      rintro i hi τ ⟨k1, ⟨v, k2, k3, k4⟩, k5, k6, k7⟩
      have hmem := List.getElem_mem hi
      have hks := kids_size hmem
      have hpush : Stay (fun _ => False) τ (τ ++ [PE.Obj.box (kidsOf p)[i].c]) := Stay.push _ _ _
      obtain ⟨k1', M1⟩ := k1.stay hpush fun _ _ h => h
      obtain ⟨l1, l2, l3⟩ := recs_len ((kidsOf p).take i) out
      obtain ⟨m1, m2, m3⟩ := recs_len ((kidsOf p).take (i + 1)) out
      have nt := nodess_take hi
      have nl := nodess_take_le (kidsOf p) (i + 1)
      obtain ⟨τ', e1, e2, e3, e4⟩ := walk_ok (kidsOf p)[i] (K.2 _ hmem) (z4 _ hmem) (τ ++ [.box (kidsOf p)[i].c]) _ k1' (by omega)
      have hcall := fun (K : PV → Heap → Option (List PV × Heap)) => call23w e1 K
      have hr := recs_take (l := out) hi
      have hw : (τ ++ [PE.Obj.box (kidsOf p)[i].c])[iw]? = some (.box [.fn 23 [.ptr iw 0, .ptr ik 0, .ptr io 0]]) := k1'.w
      -- the step stays
      have n5 : ¬ Mine (τ ++ [PE.Obj.box (kidsOf p)[i].c]) iw ik io m (σ.length + 1) := fun hm => k5 (M1 _ hm)
      have g2 : τ'[σ.length + 1]? = some (.box (bareC (bareOf p) ++ [v])) := e3.get (get_prev k2 _) n5
      have k3' : Acc τ' v 3 1 ((recs out ((kidsOf p).take i)).2.map fun i : Nat => cInt i) := (k3.keep fun L _ hlt => hpush.2 L hlt (fun h => h)).keep fun L hL hlt => e3.2 L hlt fun hm => (k4 L hL).1 (M1 _ hm)
      have n4 : ∀ L, AccAt v L → ¬ Mine τ' iw ik io m L := fun L hL hm => by
        have := id_lt (k3.lt hL)
        exact (k4 L hL).1 (M1 _ (e4 L (by simp; omega) hm))
      have n5' : ¬ Mine τ' iw ik io m (σ.length + 1) := fun hm => n5 (e4 _ (by have := id_lt k2; simp; omega) hm)
      have lc := recs_cnt ((kidsOf p).take i) out
      obtain ⟨v', τ2, a1, a2, a3, a4⟩ := k3'.append (bytes := 8) (row := cInt ((rec1 (recs out ((kidsOf p).take i)).1 (kidsOf p)[i]).2 : Nat)) (cInt_pure _) rfl rfl (by
        rw [List.length_map, lc, List.length_take]
        unfold lim at z3
        omega)
      have g2' : τ2[σ.length + 1]? = some (.box (bareC (bareOf p) ++ [v])) := a3.get g2 (k3'.notBox g2)
      have sAll : Stay (fun id => id = σ.length + 1 ∨ AccAt v id) τ' (τ2.set (σ.length + 1) (.box (bareC (bareOf p) ++ [v']))) := (a3.mono fun _ _ h => .inr h).trans (Stay.set (.inl rfl) _)
      obtain ⟨R2, M2⟩ := e2.stay sAll fun id hm hor => by
        rcases hor with rfl | hL
        · exact n5' hm
        · exact n4 id hL hm
      have lt1 : σ.length ≤ τ.length := k6.1
      have lt2 : τ.length ≤ τ'.length := Nat.le_trans hpush.1 e3.1
      refine ⟨τ2.set (σ.length + 1) (.box (bareC (bareOf p) ++ [v'])), ⟨by rw [hr]; exact R2, ⟨v', get_set g2' _, ?_, fun L hL => ⟨fun hm => ?_, ?_⟩⟩, fun hm => n5' (M2 _ hm), ⟨Nat.le_trans lt1 (Nat.le_trans lt2 sAll.1), fun id hid hn' => ?_⟩, fun id hid hm => k7 id hid (M1 _ (e4 id (by simp; omega) (M2 _ hm)))⟩, ?_⟩
      · rw [hr, List.map_append]
        exact a2.keep fun L hL hlt => List.getElem?_set_ne fun e => a2.notBox g2' (by rw [e]; exact hL)
      · have hm' := M2 _ hm
        rcases a4 with ⟨L1, h1, rfl⟩ | ⟨_, rfl⟩
        · obtain ⟨_, _, hL⟩ := hL
          cases hL
          exact n4 _ h1 hm'
        · obtain ⟨_, _, hL⟩ := hL
          cases hL
          have := hm'.lt e2
          omega
      · rcases a4 with ⟨L1, h1, rfl⟩ | ⟨_, rfl⟩
        · obtain ⟨_, _, hL⟩ := hL
          cases hL
          exact (k4 _ h1).2
        · obtain ⟨_, _, hL⟩ := hL
          cases hL
          exact Nat.le_trans lt1 lt2
      · have hno1 : ¬ Mine τ' iw ik io m id := fun hm => hn' (k7 id hid (M1 _ (e4 id (by simp; omega) hm)))
        have hvn : ¬ (id = σ.length + 1 ∨ AccAt v id) := by
          rintro (h1 | h1)
          · omega
          · have := (k4 id h1).2
            omega
        rw [sAll.2 id (by omega) hvn, e3.2 id (by simp; omega) (fun hm => hn' (k7 id hid (M1 _ hm))), hpush.2 id (by omega) (fun h => h), k6.2 id hid hn']
      · try simp only
        rw [L23_3_eq]
        have hsto2 := storeV_one g2' (show 12 < (bareC (bareOf p) ++ [v]).length by simp [bareC_len]) a2.scal
        rw [step_set] at hsto2
        simp only [bin_lss, iaddr_enc _ _ hi, Option.bind_some, loadV_cref, loadP_all (TProof.len _), storeV_last (sz := 12) (cs := [(.str []), (.str []), .nils, .nils, .nils, .nils, (.int .i64 0), .nils, .nils, .nils, .nils, .nils]) rfl (TProof.len _) (TProof.scal _), load_box hw (show ([PV.fn 23 [.ptr iw 0, .ptr ik 0, .ptr io 0]] : List PV)[0]? = some (.fn 23 [.ptr iw 0, .ptr ik 0, .ptr io 0]) from rfl), loadV_last, List.drop_zero, hcall, packP, faddrV_ptr, Nat.zero_add, load_box g2 (step_get _ _), bslice_int, a1 _ (rowsOf_sl _ _ _ _), hsto2, bin_add, wrap_succ (show i < 9223372036854775807 by unfold lim at z3; omega)]
        simp [hi]
    · refine ⟨by simpa [recs] using R0, ⟨.nils, by rw [← hstid]; exact get_last _ _, by simpa [recs] using Acc.nil _ _ _, fun L ⟨_, _, h⟩ => by cases h⟩, fun hm => ?_, hst0.mono fun _ _ h => h.elim, fun id _ hm => M0 _ hm⟩
      have := (M0 _ hm).lt h
      omega
termination_by p => SizeOf.sizeOf p
end Go.Proofs.YtkpbfldnickghaaDoor
set_option linter.unusedVariables false
set_option linter.unusedSimpArgs false
namespace Go.Proofs.YtkpbfldnickghaaDoor
open Go Go.PE
theorem sameInts22_ok (X : Ext) (xs ys : List Int) (hb : Sm xs) : (Hw C X).pure 30 [encL 1 cInt xs, encL 1 cInt ys] = some [.bool (eqb xs ys)] := by
  unfold Sm at hb
  rw [F30]
  by_cases hl : xs.length = ys.length
  · have hL : L30_1 X (encL 1 cInt xs) (encL 1 cInt ys) (.int .i64 (0 : Nat)) [] = some [.bool (eqb xs ys)] := by
      refine all_loop_bool (I := fun σ => True) (L := fun i σ => L30_1 X (encL 1 cInt xs) (encL 1 cInt ys) (.int .i64 (i : Nat)) σ) hl ?_ ?_ ?_ trivial
      · intro σ _
        try simp only
        rw [L30_1_eq]
        simp
        rfl
      · intro i hi hi' σ _ hc
        refine ⟨σ, trivial, ?_⟩
        try simp only
        rw [L30_1_eq]
        simp [hi, hi', iaddr_enc, cInt, hc, wrap_succ (show i < 9223372036854775807 by omega)]
      · intro i hi hi' σ _ hc
        try simp only
        rw [L30_1_eq]
        simp [hi, hi', iaddr_enc, cInt, hc]
        rfl
    simp [hl]
    simpa [hl] using hL
  · have hne : xs ≠ ys := fun e => hl (by rw [e])
    simp [hl, eqb_ne hne]
    rfl
theorem call30 {R : Type} (X : Ext) (a b : List Int) (hb : Sm a) (σ : Heap) (pc : Bool) (k : PV → Heap → Option R) : callK C (Hw C X) σ pc (.fn 30 []) [encL 1 cInt a, encL 1 cInt b] k = k (.bool (eqb a b)) σ :=
  callK_pure C30 rfl (by simp only [pureL, encL_pure (fun x _ => cInt_pure x), Bool.and_self]) (by simp only [p30, canonA, canon_sl]) (sameInts22_ok X a b hb)
theorem set_bare (p : TProof) : p.c.set 11 .nils = bareC (bareOf p) := by
  obtain ⟨rule, name, forms, subst, path, args, ⟨kind, nums, polys, squares, ckids⟩, kids⟩ := p
  rw [TProof.c_eq]
  simp only [bareC, bareOf, TCert.c_eq]
  rfl
theorem rec_call {R : Type} {X : Ext} {p : TProof} {v : PV} {σ σ' : Heap} {rs : List PV} (h : (Hw C X).imp 29 [v, .agg p.c] σ = some (rs, σ')) (K : PV → Heap → Option R) :
    callK C (Hw C X) σ false (.fn 29 []) [v, .agg p.c] K = K (packP rs) σ' :=
  callK_impA C29 (by
    simp only [p29, List.append_nil, keepArgs, coe_pure (show (PV.agg p.c).pure = true from TProof.pure _), canonV, TProof.canon, List.map_nil]) rfl h
theorem keep29 {σ : Heap} (v : PV) (n : Int) : keepArgs σ p29.keepr [v, .int .i64 n] = [v, .int .i64 n] := rfl
theorem recordEnd (X : Ext) {out : List TStep} {σ : Heap} {p : TProof} {ks : List Nat} {v0 v6 : PV} {b : Nat} (hp : p.ok) (hw : ks.length < lim) (hg : ∀ s ∈ out, s.what.ok ∧ kidsOf s.what = [] ∧ Sm s.kids) (hl : out.length < 2000)
    (h0 : Acc σ v0 61 13 (out.map TStep.c)) (h6 : Acc σ v6 3 1 (ks.map fun i : Nat => cInt i)) (hb : σ[b]? = some (.box (bareC (bareOf p)))) :
    ∃ v' σ', L29_1 X v0 (.ptr b 0) v6 (.int .i64 (0 : Nat)) σ = some ([v', .int .i64 ((if idxOf out (stepOf p ks) < out.length then idxOf out (stepOf p ks) else out.length : Nat) : Int)], σ') ∧
      Acc σ' v' 61 13 ((if idxOf out (stepOf p ks) < out.length then out else out ++ [stepOf p ks]).map TStep.c) ∧ Stay (AccAt v0) σ σ' ∧ ∀ L, AccAt v' L → AccAt v0 L ∨ σ.length ≤ L := by
  refine inv_loop2 (n := out.length) (Q := fun r => ∃ v' σ', r = some ([v', .int .i64 ((if idxOf out (stepOf p ks) < out.length then idxOf out (stepOf p ks) else out.length : Nat) : Int)], σ') ∧
      Acc σ' v' 61 13 ((if idxOf out (stepOf p ks) < out.length then out else out ++ [stepOf p ks]).map TStep.c) ∧ Stay (AccAt v0) σ σ' ∧ ∀ L, AccAt v' L → AccAt v0 L ∨ σ.length ≤ L)
    (L := fun i τ => L29_1 X v0 (.ptr b 0) v6 (.int .i64 (i : Nat)) τ) (I := fun i τ => τ = σ ∧ ∀ (j : Nat) (hj : j < out.length), j < i → out[j] ≠ stepOf p ks) ?_ ?_ ⟨rfl, fun _ _ h => by omega⟩
  · rintro τ ⟨rfl, hno⟩
    have hmiss : idxOf out (stepOf p ks) = out.length := findIdx_no fun j hj => hno j hj hj
    have hnlt : ¬ idxOf out (stepOf p ks) < out.length := by omega
    rw [if_neg hnlt, if_neg hnlt]
    have hbuild : ∀ ρ : Heap, evPrim [] ρ (.build [(.str []), (.str []), .nils, .nils, .nils, .nils, (.int .i64 0), .nils, .nils, .nils, .nils, .nils, .nils] [(0, 12, (.cst (.agg (bareC (bareOf p))))), (12, 1, (.cst v6))]) = some (.agg (bareC (bareOf p) ++ [v6]), ρ) := fun ρ => by
      have e1 : (bareC (bareOf p) ++ List.drop 12 [PV.str [], PV.str [], .nils, .nils, .nils, .nils, .int .i64 0, .nils, .nils, .nils, .nils, .nils, .nils]).take 12 = bareC (bareOf p) := by rw [← bareC_len (bareOf p), List.take_left]
      have e2 : (bareC (bareOf p) ++ List.drop 12 [PV.str [], PV.str [], .nils, .nils, .nils, .nils, .int .i64 0, .nils, .nils, .nils, .nils, .nils, .nils]).length = 13 := by simp [bareC_len]
      simp only [evPrim, fillP, Opd.ev, cells_agg, cells_scal h6.scal, bareC_len]
      simp [bareC_len, e1, e2]
    obtain ⟨v', τ', a1, a2, a3, a4⟩ := h0.append (bytes := 280) (TStep.pure (stepOf p ks)) (TStep.len _) (TStep.scal _) (by simp; omega)
    -- the old value's length
    have hlen : lenP τ' .slice v0 = some out.length := by
      rcases h0 with ⟨e1, e⟩ | ⟨L, e, e'⟩
      · rw [e]
        have : out = [] := by simpa using e1
        subst this; rfl
      · rw [e]
        simp [lenP]
    refine ⟨v', τ', ?_, by rw [List.map_append]; exact a2, a3, fun L hL => ?_⟩
    · try simp only
      rw [L29_1_eq]
      simp only [h0.len, Option.bind_some, List.length_map, bin_lss, Int.lt_irrefl, decide_false, condK_false]
      rw [J29_2_eq]
      simp only [load_all (sz := 12) hb (bareC_len _), Option.bind_some, hbuild, bslice_one (show (canonV [none, none, some 6, some 13, some 1, some 1, none, some 3, some 2, some 5, some 5, some 12, some 1] (coeV τ (.agg (bareC (bareOf p) ++ [v6])))).cells? = some (stepOf p ks).c by rw [step_coe h6]; rfl) (TStep.len _) (TStep.pure _), a1 _ (rowsOf_sl _ _ _ _), hlen, keep29]
    · rcases a4 with ⟨L1, h1, rfl⟩ | ⟨_, rfl⟩
      · obtain ⟨_, _, hL⟩ := hL
        cases hL
        exact .inl h1
      · obtain ⟨_, _, hL⟩ := hL
        cases hL
        exact .inr (Nat.le_refl _)
  · rintro i hi τ ⟨rfl, hno⟩
    have hgood := hg _ (List.getElem_mem hi)
    have hia : iaddrV τ 13 v0 (.int .i64 (i : Nat)) = some (.cref out[i].c) := by
      rw [h0.iaddr .i64 (by simpa using hi)]
      simp
    have c35 := fun (K : PV → Heap → Option (List PV × Heap)) => callK_val (pc := false) (args := [.agg out[i].what.c, .agg (bareC (bareOf p))]) (args' := [.agg out[i].what.c, .agg (node (bareOf p)).c]) (k := K) C35 (σ := τ) rfl (by
      rw [keepArgs_pure τ p35.keep _ rfl (by simp only [pureL, PV.pure, TProof.pure, bareC_pure, Bool.and_self])]
      simp only [p35, canonA, canonV, TProof.canon, bareC_canon]) (by simp only [pureL, PV.pure, TProof.pure, Bool.and_self]) (sameNode_ok X _ _ hgood.1 (node_ok hp))
    have c30 := fun (K : PV → Heap → Option (List PV × Heap)) => callK_val (pc := false) (args := [encL 1 cInt out[i].kids, v6]) (args' := [encL 1 cInt out[i].kids, encL 1 cInt (ks.map fun i : Nat => (i : Int))]) (k := K) C30 (σ := τ) rfl (by
      simp only [p30, keepArgs, coe_pure (encL_pure (fun x _ => cInt_pure x)), canon_sl, h6.coeV, ints_map]
      rfl) (by simp only [pureL, encL_pure (fun x _ => cInt_pure x), Bool.and_self]) (sameInts22_ok X _ _ hgood.2.2)
    have heq : out[i] = stepOf p ks ↔ bareOf out[i].what = bareOf (node (bareOf p)) ∧ out[i].kids = ks.map fun i : Nat => (i : Int) := by
      have hkid := hgood.2.1
      generalize out[i] = t at hkid ⊢
      obtain ⟨tw, tk⟩ := t
      simp only [stepOf, TStep.mk.injEq]
      rw [proof_eq]
      simp only at hkid
      constructor
      · rintro ⟨⟨h1, h2⟩, h3⟩; exact ⟨h1, h3⟩
      · rintro ⟨h1, h3⟩; exact ⟨⟨h1, by rw [hkid]; rfl⟩, h3⟩
    have hld : loadV τ true 12 (.ptr b 0) = some (.agg (bareC (bareOf p))) := load_all (sz := 12) hb (bareC_len _)
    by_cases h1 : bareOf out[i].what = bareOf (node (bareOf p))
    · by_cases h2 : out[i].kids = ks.map fun i : Nat => (i : Int)
      · left
        have hhit : idxOf out (stepOf p ks) = i := findIdx_at hi (heq.2 ⟨h1, h2⟩) fun j hj hlt => hno j hj hlt
        have hlt : idxOf out (stepOf p ks) < out.length := by rw [hhit]; exact hi
        rw [if_pos hlt, if_pos hlt]
        refine ⟨v0, τ, ?_, h0, Stay.refl _ _, fun L hL => .inl hL⟩
        try simp only
        rw [L29_1_eq]
        simp only [h0.len, Option.bind_some, List.length_map, bin_lss, hia, faddrV_cref, List.drop_zero, loadV_cref, tsw, hld, c35, packP, eqb_eq h1, guardR_yes, ts12', c30, eqb_eq h2, nthV_zero, nthV_succ, pickV_true, condK_true, hhit, keep29]
        simp [hi]
      · right
        refine ⟨τ, ⟨rfl, fun j hj hlt => ?_⟩, ?_⟩
        · rcases Nat.lt_or_ge j i with h | h
          · exact hno j hj h
          · obtain rfl : j = i := by omega
            exact fun e => h2 (heq.1 e).2
        · try simp only
          rw [L29_1_eq]
          simp only [h0.len, Option.bind_some, List.length_map, bin_lss, hia, faddrV_cref, List.drop_zero, loadV_cref, tsw, hld, c35, packP, eqb_eq h1, guardR_yes, ts12', c30, eqb_ne h2, nthV_zero, nthV_succ, pickV_true, condK_false, bin_add, wrap_succ (show i < 9223372036854775807 by omega)]
          simp [hi]
    · right
      refine ⟨τ, ⟨rfl, fun j hj hlt => ?_⟩, ?_⟩
      · rcases Nat.lt_or_ge j i with h | h
        · exact hno j hj h
        · obtain rfl : j = i := by omega
          exact fun e => h1 (heq.1 e).1
      · try simp only
        rw [L29_1_eq]
        simp only [h0.len, Option.bind_some, List.length_map, bin_lss, hia, faddrV_cref, List.drop_zero, loadV_cref, tsw, hld, c35, packP, eqb_ne h1, guardR_ft, nthV_zero, nthV_succ, pickV_false, condK_false, bin_add, wrap_succ (show i < 9223372036854775807 by omega)]
        simp [hi]
theorem inv_loopG {S R : Type} {n : Nat} {L : Nat → S → Option R} {Q : Option R → Prop} {I : Nat → S → Prop} (hend : ∀ s, I n s → Q (L n s)) (hstep : ∀ i, i < n → ∀ s, I i s → ∃ s', I (i + 1) s' ∧ L i s = L (i + 1) s') {s : S} (hI : I 0 s) : Q (L 0 s) := by
  have key : ∀ (d i : Nat), i + d = n → ∀ s, I i s → Q (L i s) := by
    intro d
    induction d with
    | zero => intro i hi s hI; obtain rfl : i = n := by omega
              exact hend s hI
    | succ d ih =>
      intro i hi s hI
      obtain ⟨s', hI', e⟩ := hstep i (by omega) s hI
      rw [e]
      exact ih (i + 1) (by omega) s' hI'
  exact key n 0 (by omega) s hI
/-- What all known steps are. -/
def Good (out : List TStep) : Prop := ∀ s ∈ out, s.what.ok ∧ kidsOf s.what = [] ∧ Sm s.kids
theorem acc_apart {σ : Heap} {v w : PV} {t t' st st' : Nat} {r r' : List (List PV)} (h : Acc σ v t st r) (k : Acc σ w t' st' r') (hne : t ≠ t') {L : Nat} (h1 : AccAt v L) (h2 : AccAt w L) : False := by
  have a := h.lt h1
  have b := k.lt h2
  rw [a] at b
  cases b
  exact hne rfl
theorem record_ok (X : Ext) : ∀ (p : TProof), p.ok → p.sz < lim → ∀ (σ : Heap) (out : List TStep) (v0 : PV), Acc σ v0 61 13 (out.map TStep.c) → Good out → out.length + nodes p ≤ 2000 →
    ∃ v' σ', (Hw C X).imp 29 [v0, .agg p.c] σ = some ([v', .int .i64 ((rec1 out p).2 : Nat)], σ') ∧ Acc σ' v' 61 13 ((rec1 out p).1.map TStep.c) ∧ Stay (AccAt v0) σ σ' ∧ (∀ L, AccAt v' L → AccAt v0 L ∨ σ.length ≤ L) ∧ Good (rec1 out p).1
  | p, hp, hz, σ, out, v0, h0, hg, hn => by
    obtain ⟨z1, z2, z3, z4⟩ := proof_parts hz
    have K := kids_ok_of hp
    have np := nodes_eq p
    have hst0 : Stay (AccAt v0) σ (σ ++ [PE.Obj.box p.c]) := Stay.push _ _ _
    rw [F29]
    simp only [boxV_agg, Option.bind_some]
    refine inv_loopG (s := ((v0, PV.nils, σ ++ [PE.Obj.box p.c]) : PV × PV × Heap)) (n := (kidsOf p).length) (Q := fun r => ∃ v' σ', r = some ([v', .int .i64 ((rec1 out p).2 : Nat)], σ') ∧ Acc σ' v' 61 13 ((rec1 out p).1.map TStep.c) ∧ Stay (AccAt v0) σ σ' ∧ (∀ L, AccAt v' L → AccAt v0 L ∨ σ.length ≤ L) ∧ Good (rec1 out p).1)
      (L := fun i s => L29_3 X s.1 (.ptr σ.length 0) s.2.1 (.int .i64 (i : Nat)) s.2.2)
      (I := fun i s => Acc s.2.2 s.1 61 13 ((recs out ((kidsOf p).take i)).1.map TStep.c) ∧ Acc s.2.2 s.2.1 3 1 ((recs out ((kidsOf p).take i)).2.map fun i : Nat => cInt i) ∧ s.2.2[σ.length]? = some (.box p.c) ∧ Stay (AccAt v0) σ s.2.2 ∧
        (∀ L, AccAt s.1 L → AccAt v0 L ∨ σ.length ≤ L) ∧ (∀ L, AccAt s.2.1 L → σ.length ≤ L) ∧ Good (recs out ((kidsOf p).take i)).1) ?_ ?_ ?_
    · -- behind the loop
      rintro ⟨v, v6, τ⟩ ⟨k1, k2, k3, k4, k5, k6, k7⟩
      rw [List.take_length] at k1 k2 k7
      simp only at k1 k2 k3 k4 k5 k6 k7
      obtain ⟨l1, l2, l3⟩ := recs_len (kidsOf p) out
      have lc := recs_cnt (kidsOf p) out
      have n1 : ¬ AccAt v σ.length := k1.notBox k3
      have n2 : ¬ AccAt v6 σ.length := k2.notBox k3
      have sset : Stay (fun id => id = σ.length) τ (τ.set σ.length (.box (bareC (bareOf p)))) := Stay.set (S := fun id => id = σ.length) rfl _
      have k1' : Acc (τ.set σ.length (.box (bareC (bareOf p)))) v 61 13 ((recs out (kidsOf p)).1.map TStep.c) := k1.keep fun L hL hlt => sset.2 L hlt fun e => n1 (by rw [← e]; exact hL)
      have k2' : Acc (τ.set σ.length (.box (bareC (bareOf p)))) v6 3 1 ((recs out (kidsOf p)).2.map fun i : Nat => cInt i) := k2.keep fun L hL hlt => sset.2 L hlt fun e => n2 (by rw [← e]; exact hL)
      obtain ⟨v', σ', e1, e2, e3, e4⟩ := recordEnd X (p := p) (ks := (recs out (kidsOf p)).2) hp (by omega) k7 (by omega) k1' k2' (get_set k3 _)
      have hlt : σ.length ≤ τ.length := k4.1
      have hsm : Sm ((recs out (kidsOf p)).2.map fun i : Nat => (i : Int)) := by
        unfold Sm
        rw [List.length_map, lc]
        unfold lim at z3
        omega
      refine ⟨v', σ', ?_, ?_, ?_, fun L hL => ?_, ?_⟩
      · try simp only
        rw [L29_3_eq]
        have hsto := storeV_one (off := 11) (y := .nils) k3 (by rw [TProof.len]; omega) rfl
        rw [set_bare] at hsto
        simp only [faddrV_ptr, Nat.zero_add, Option.bind_some, load_box k3 (kid_cell p), len_enc, bin_lss, Int.lt_irrefl, decide_false, condK_false]
        rw [J29_4_eq]
        simp only [faddrV_ptr, Nat.zero_add, Option.bind_some, hsto]
        refine e1.trans ?_
        rw [rec1_eq]
        split <;> rfl
      · rw [rec1_eq]
        split at e2
        · rename_i hlt'; rw [if_pos hlt']; exact e2
        · rename_i hlt'; rw [if_neg hlt']; exact e2
      · refine ⟨Nat.le_trans hlt (Nat.le_trans sset.1 e3.1), fun id hid hn' => ?_⟩
        have hnv : ¬ AccAt v id := fun h => by
          rcases k5 id h with h | h
          · exact hn' h
          · omega
        rw [e3.2 id (Nat.lt_of_lt_of_le (Nat.lt_of_lt_of_le hid hlt) sset.1) hnv, sset.2 id (by omega) (by omega), k4.2 id hid hn']
      · rcases e4 L hL with h | h
        · exact k5 L h
        · have := sset.1; omega
      · rw [rec1_eq]
        split
        · exact k7
        · intro s hs
          rw [List.mem_append, List.mem_singleton] at hs
          rcases hs with hs | rfl
          · exact k7 s hs
          · exact ⟨node_ok hp, rfl, hsm⟩
    · -- a round
      rintro i hi ⟨v, v6, τ⟩ ⟨k1, k2, k3, k4, k5, k6, k7⟩
      simp only at k1 k2 k3 k4 k5 k6 k7
      have hmem := List.getElem_mem hi
      have hks := kids_size hmem
      obtain ⟨l1, l2, l3⟩ := recs_len ((kidsOf p).take i) out
      have nt := nodess_take hi
      have nl := nodess_take_le (kidsOf p) (i + 1)
      obtain ⟨v', τ', e1, e2, e3, e4, e5⟩ := record_ok X (kidsOf p)[i] (K.2 _ hmem) (z4 _ hmem) τ _ v k1 k7 (by omega)
      have hcall := fun (K : PV → Heap → Option (List PV × Heap)) => rec_call e1 K
      have hr := recs_take (l := out) hi
      have g1 : τ'[σ.length]? = some (.box p.c) := e3.get k3 (k1.notBox k3)
      have k2' : Acc τ' v6 3 1 ((recs out ((kidsOf p).take i)).2.map fun i : Nat => cInt i) := k2.keep fun L hL hlt => e3.2 L hlt fun h => acc_apart k1 k2 (by decide) h hL
      have lc := recs_cnt ((kidsOf p).take i) out
      obtain ⟨w, τ2, a1, a2, a3, a4⟩ := k2'.append (bytes := 8) (row := cInt ((rec1 (recs out ((kidsOf p).take i)).1 (kidsOf p)[i]).2 : Nat)) (cInt_pure _) rfl rfl (by
        rw [List.length_map, lc, List.length_take]
        unfold lim at z3
        omega)
      have lt1 : σ.length ≤ τ.length := k4.1
      have lt2 : τ.length ≤ τ'.length := e3.1
      refine ⟨(v', w, τ2), ⟨?_, ?_, a3.get g1 (k2'.notBox g1), ⟨Nat.le_trans lt1 (Nat.le_trans lt2 a3.1), fun id hid hn' => ?_⟩, fun L hL => ?_, fun L hL => ?_, by rw [hr]; exact e5⟩, ?_⟩
      · rw [hr]
        exact e2.keep fun L hL hlt => a3.2 L hlt fun h => acc_apart e2 k2' (by decide) hL h
      · rw [hr, List.map_append]
        exact a2
      · have hnv : ¬ AccAt v id := fun h => by
          rcases k5 id h with h | h
          · exact hn' h
          · omega
        rw [a3.2 id (by omega) (fun h => by have := k6 id h; omega), e3.2 id (by omega) hnv, k4.2 id hid hn']
      · rcases e4 L hL with h | h
        · exact k5 L h
        · exact .inr (by omega)
      · rcases a4 with ⟨L1, h1, rfl⟩ | ⟨_, rfl⟩
        · obtain ⟨_, _, hL⟩ := hL
          cases hL
          exact k6 _ h1
        · obtain ⟨_, _, hL⟩ := hL
          cases hL
          omega
      · try simp only
        rw [L29_3_eq]
        simp only [faddrV_ptr, Nat.zero_add, Option.bind_some, load_box k3 (kid_cell p), len_enc, bin_lss, iaddr_enc _ _ hi, loadV_cref, loadP_all (TProof.len _), hcall, packP, extV_zero, extV_succ, bslice_int, a1 _ (rowsOf_sl _ _ _ _), bin_add, wrap_succ (show i < 9223372036854775807 by unfold lim at z3; omega)]
        simp [hi]
    · refine ⟨?_, by simpa [recs] using Acc.nil _ _ _, get_last _ _, hst0, fun L hL => .inl hL, (fun L ⟨_, _, h⟩ => by cases h), by simpa [recs] using hg⟩
      simpa [recs] using h0.keep fun L _ hlt => (Stay.push (fun _ => False) σ [PE.Obj.box p.c]).2 L hlt fun h => h
termination_by p => SizeOf.sizeOf p
theorem call29 {R : Type} (X : Ext) (p : TProof) (hp : p.ok) (hz : p.sz < lim) (hn : nodes p ≤ 2000) (σ : Heap) : ∃ v' σ', Acc σ' v' 61 13 ((rec1 [] p).1.map TStep.c) ∧ Good (rec1 [] p).1 ∧ ∀ (K : PV → Heap → Option R), callK C (Hw C X) σ false (.fn 29 []) [.nils, .agg p.c] K = K (.tup [v', .int .i64 ((rec1 [] p).2 : Nat)]) σ' := by
  obtain ⟨v', σ', e1, e2, _, _, e5⟩ := record_ok X p hp hz σ [] .nils (Acc.nil _ _ _) (fun _ h => by cases h) (by simpa using hn)
  exact ⟨v', σ', e2, e5, fun K => rec_call e1 K⟩
theorem fin_two {σ : Heap} {v : PV} {n : Int} {out : List TStep} (h : Acc σ v 61 13 (out.map TStep.c)) : finVs p10.keepr [v, .int .i64 n] σ = some [encL 13 TStep.c out, .int .i64 n] := by
  have e : finArgs σ p10.keepr [v, .int .i64 n] = [encL 13 TStep.c out, .int .i64 n] := by
    simp only [p10, finArgs, h.finV, encL]
    rfl
  unfold finVs
  rw [e, if_pos]
  simp only [pureL, encL_pure (fun x _ => TStep.pure x), PV.pure, Bool.and_self]
/-- The record of a proof, or why there is none. -/
noncomputable def recordOf (p : TProof) : List TStep × Int := if fits p 2000 60 = true then ((rec1 [] p).1, 0) else ([], 2)
theorem fits_nodes {p : TProof} (h : fits p 2000 60 = true) : nodes p ≤ 2000 ∧ levels p ≤ 60 := by
  simp only [fits, decide_eq_true_eq] at h
  omega
theorem record10_ok (X : Ext) (p : TProof) (hp : p.ok) (hz : p.sz < lim) : (Hw C X).pure 10 [.agg p.c] = some [encL 13 TStep.c (recordOf p).1, .int .i64 (recordOf p).2] := by
  have h0 : ([PE.Obj.box p.c] : Heap)[0]? = some (.box p.c) := rfl
  rw [F10]
  simp only [boxV_agg, Option.bind_some, List.nil_append, List.length_nil, load_all (sz := 12) h0 (TProof.len p), call28 X p hp hz, recordOf]
  cases hf : fits p 2000 60
  · simp only [Bool.not_false, condK_true]
    rfl
  · simp only [Bool.not_true, condK_false, if_true]
    obtain ⟨v', σ', e1, e2, e3⟩ := call29 (R := List PV) X p hp hz (fits_nodes hf).1 [.box p.c]
    simp only [e3, extV_zero, extV_succ, Option.bind_some, fin_two e1]
theorem good_record (p : TProof) (hp : p.ok) (hz : p.sz < lim) : Good (recordOf p).1 := by
  unfold recordOf
  split
  · rename_i hf
    obtain ⟨v', σ', e1, e2, e3⟩ := call29 (R := List PV) XI p hp hz (fits_nodes hf).1 []
    exact e2
  · exact fun _ h => by cases h
end Go.Proofs.YtkpbfldnickghaaDoor
