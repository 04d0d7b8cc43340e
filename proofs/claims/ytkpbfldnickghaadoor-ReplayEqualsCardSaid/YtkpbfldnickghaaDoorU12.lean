/- Contracts: the weight of a proof answers. -/
import Derived.Test.YtkpbfldnickghaaDoorU11
set_option linter.unusedVariables false
set_option linter.unusedSimpArgs false
namespace Go.Proofs.YtkpbfldnickghaaDoor
open Go Go.PE
/-- It answers some number. -/
def AnsI (r : Option (List PV)) : Prop := ∃ k : Int, r = some [.int .i64 k]
theorem sum_loop {R : Type} {n : Nat} {L : Nat → Int → Heap → Option R} {Q : Option R → Prop} {I : Heap → Prop} (hend : ∀ m τ, I τ → Q (L n m τ)) (hstep : ∀ i, i < n → ∀ m τ, I τ → ∃ m' τ', I τ' ∧ L i m τ = L (i + 1) m' τ') (m : Int) (τ : Heap) (hI : I τ) : Q (L 0 m τ) := by
  have key : ∀ (d i : Nat), i + d = n → ∀ m τ, I τ → Q (L i m τ) := by
    intro d
    induction d with
    | zero => intro i hi m τ hI; obtain rfl : i = n := by omega
              exact hend m τ hI
    | succ d ih =>
      intro i hi m τ hI
      obtain ⟨m', τ', hI', e⟩ := hstep i (by omega) m τ hI
      rw [e]
      exact ih (i + 1) (by omega) m' τ' hI'
  exact key n 0 (by omega) m τ hI
theorem nd5 (n : TNode) : ∃ ks, n.c.drop 5 = [encL 6 TNode.c ks] ∧ (∀ k ∈ ks, SizeOf.sizeOf k < SizeOf.sizeOf n) ∧ (n.ok → Sm ks ∧ ∀ k ∈ ks, k.ok) := by
  obtain ⟨op, name, num, kids⟩ := n
  refine ⟨kids, by rw [TNode.c_eq]; rfl, fun k hk => ?_, fun h => ?_⟩
  · have := List.sizeOf_lt_of_mem hk
    simp only [TNode.mk.sizeOf_spec]
    omega
  · obtain ⟨_, h1, h2⟩ := h
    exact ⟨h1, TNode.oks_iff.1 h2⟩
theorem callI {R : Type} {X : Ext} {f : Nat} {pf : PFunc} (hf : C f = some pf) {args : List PV} (h0 : (pf.keep.all (fun k => !k.1) && !pf.keepr.any (·.1)) = true) (h1 : pureL args = true) (h2 : canonA pf.keep args = args) (h : AnsI ((Hw C X).pure f args)) :
    ∃ k : Int, ∀ (σ : Heap) (pc : Bool) (K : PV → Heap → Option R), callK C (Hw C X) σ pc (.fn f []) args K = K (.int .i64 k) σ := by
  obtain ⟨k, hk⟩ := h
  exact ⟨k, fun σ pc K => callK_pure hf h0 h1 h2 hk⟩
theorem size8_ok (X : Ext) : ∀ (n : TNode), n.ok → AnsI ((Hw C X).pure 20 [.agg n.c])
  | n, hn => by
    obtain ⟨ks, e5, hs, ho⟩ := nd5 n
    obtain ⟨hb, hk⟩ := ho hn
    unfold Sm at hb
    rw [F20]
    simp only [boxV_agg, Option.bind_some, List.nil_append, List.length_nil]
    refine sum_loop (n := ks.length) (Q := AnsI) (I := fun σ => σ = [.box n.c]) (L := fun i m σ => L20_1 X (.ptr 0 0) (.int .i64 m) (.int .i64 (i : Nat)) σ) ?_ ?_ 1 _ rfl
    · rintro m τ rfl
      try simp only
      rw [L20_1_eq]
      simp [e5]
      exact ⟨m, rfl⟩
    · rintro i hi m τ rfl
      obtain ⟨k, hc⟩ := callI (R := List PV) (args := [.agg ks[i].c]) C20 rfl (by simp only [pureL, PV.pure, TNode.pure, Bool.and_self]) (by simp only [p20, canonA, canonV, TNode.canon]) (by
        have := hs ks[i] (List.getElem_mem hi)
        exact size8_ok X ks[i] (hk _ (List.getElem_mem hi)))
      refine ⟨IntKind.i64.wrap (m + k), _, rfl, ?_⟩
      try simp only
      rw [L20_1_eq]
      simp [e5, hi, iaddr_enc, loadP_all (TNode.len _), hc, wrap_succ (show i < 9223372036854775807 by omega)]
termination_by n => SizeOf.sizeOf n
theorem call20 {R : Type} (X : Ext) (n : TNode) (h : n.ok) : ∃ k : Int, ∀ (σ : Heap) (pc : Bool) (K : PV → Heap → Option R), callK C (Hw C X) σ pc (.fn 20 []) [.agg n.c] K = K (.int .i64 k) σ :=
  callI C20 rfl (by simp only [pureL, PV.pure, TNode.pure, Bool.and_self]) (by simp only [p20, canonA, canonV, TNode.canon]) (size8_ok X n h)
theorem mx_two (σ : Heap) (a b : Int) : evPrim [] σ (.mx [(.cst (.int .i64 a)), (.cst (.int .i64 b))]) = some (.int .i64 (maxL a [b]), σ) := by
  simp [evPrim, Opd.ev, intsOf]
theorem mn_two (σ : Heap) (a b : Int) : evPrim [] σ (.mn [(.cst (.int .i64 a)), (.cst (.int .i64 b))]) = some (.int .i64 (minL a [b]), σ) := by
  simp [evPrim, Opd.ev, intsOf]
theorem terms_ok (X : Ext) (p : TPoly) (hp : p.ok) : AnsI ((Hw C X).pure 39 [.agg p.c]) := by
  have hb := hp.1
  unfold Sm at hb
  rw [F39]
  simp only [boxV_agg, Option.bind_some, List.nil_append, List.length_nil]
  have d1 : List.drop 1 p.c = [encL 4 TMono.c p.terms] := rfl
  have e0 : ∀ m : TMono, loadP false 1 m.c = some (encL 1 cInt m.exps) := fun _ => rfl
  have e2 : ∀ m : TMono, loadP false 1 (m.c.drop 2) = some (encL 1 cU32 m.coef.num) := fun _ => rfl
  have e3 : ∀ m : TMono, loadP false 1 (m.c.drop 3) = some (encL 1 cU32 m.coef.den) := fun _ => rfl
  refine sum_loop (n := p.terms.length) (Q := AnsI) (I := fun σ => σ = [.box p.c]) (L := fun i m σ => L39_1 X (.ptr 0 0) (.int .i64 m) (.int .i64 (i : Nat)) σ) ?_ ?_ 0 _ rfl
  · rintro m τ rfl
    try simp only
    rw [L39_1_eq]
    simp [d1]
    exact ⟨m, rfl⟩
  · rintro i hi m τ rfl
    have hm := hp.2 p.terms[i] (by simp)
    have hb2 := hm.1
    unfold Sm at hb2
    have inner : ∀ (m0 : Int), ∃ m' : Int, L39_2 X (.ptr 0 0) (.int .i64 m0) (.int .i64 (i : Nat)) (.int .i64 (0 : Nat)) [.box p.c] = L39_1 X (.ptr 0 0) (.int .i64 m') (.int .i64 ((i + 1 : Nat) : Int)) [.box p.c] := by
      intro m0
      refine sum_loop (n := p.terms[i].exps.length) (Q := fun r => ∃ m' : Int, r = L39_1 X (.ptr 0 0) (.int .i64 m') (.int .i64 ((i + 1 : Nat) : Int)) [.box p.c]) (I := fun σ => σ = [.box p.c]) (L := fun j m σ => L39_2 X (.ptr 0 0) (.int .i64 m) (.int .i64 (i : Nat)) (.int .i64 (j : Nat)) σ) ?_ ?_ m0 _ rfl
      · rintro m τ rfl
        refine ⟨m, ?_⟩
        try simp only
        rw [L39_2_eq]
        simp [d1, hi, iaddr_enc, e0, wrap_succ (show i < 9223372036854775807 by omega)]
      · rintro j hj m τ rfl
        refine ⟨IntKind.i64.wrap (m + IntKind.i64.wrap (4 * minL 100 [maxL 0 [p.terms[i].exps[j]]])), _, rfl, ?_⟩
        try simp only
        rw [L39_2_eq]
        simp [d1, hi, hj, iaddr_enc, e0, cInt, mx_two, mn_two, wrap_succ (show j < 9223372036854775807 by omega)]
    obtain ⟨m', h'⟩ := inner (IntKind.i64.wrap (m + IntKind.i64.wrap (40 + IntKind.i64.wrap (10 * IntKind.i64.wrap (((p.terms[i].coef.num.length : Nat) : Int) + ((p.terms[i].coef.den.length : Nat) : Int))))))
    refine ⟨m', _, rfl, ?_⟩
    try simp only
    rw [← h', L39_1_eq]
    simp [d1, hi, iaddr_enc, e2, e3]
theorem call39 {R : Type} (X : Ext) (p : TPoly) (h : p.ok) : ∃ k : Int, ∀ (σ : Heap) (pc : Bool) (K : PV → Heap → Option R), callK C (Hw C X) σ pc (.fn 39 []) [.agg p.c] K = K (.int .i64 k) σ :=
  callI C39 rfl (by simp only [pureL, PV.pure, TPoly.pure, Bool.and_self]) (by simp only [p39, canonA, canonV, TPoly.canon]) (terms_ok X p h)
theorem cweight_ok (X : Ext) : ∀ (c : TCert), c.ok → AnsI ((Hw C X).pure 19 [.agg c.c])
  | .mk kind nums polys squares kids, hc => by
    obtain ⟨⟨a1, a1'⟩, ⟨a2, a2'⟩, ⟨a3, a3'⟩, a4, a4'⟩ := hc
    rw [TCert.oks_iff] at a4'
    unfold Sm at a1 a2 a3 a4
    rw [F19, cc_eq]
    simp only [boxV_agg, Option.bind_some, List.nil_append, List.length_nil]
    have r1 : ∀ r : TRat, loadP false 1 (r.c.drop 1) = some (encL 1 cU32 r.num) := fun _ => rfl
    have r1' : ∀ r : TRat, loadP false 1 (r.c.tail) = some (encL 1 cU32 r.num) := fun _ => rfl
    have r2 : ∀ r : TRat, loadP false 1 (r.c.drop 2) = some (encL 1 cU32 r.den) := fun _ => rfl
    have s1 : ∀ r : TSquare, loadP false 1 (r.c.drop 1) = some (encL 1 cU32 r.weight.num) := fun _ => rfl
    have s1' : ∀ r : TSquare, loadP false 1 (r.c.tail) = some (encL 1 cU32 r.weight.num) := fun _ => rfl
    have s2 : ∀ r : TSquare, loadP false 1 (r.c.drop 2) = some (encL 1 cU32 r.weight.den) := fun _ => rfl
    have H1 : ∀ m : Int, AnsI (J19_3 X (.ptr 0 0) (.int .i64 m) [.box (cc kind nums polys squares kids)]) := fun m => by
      rw [J19_3_eq]
      refine sum_loop (n := kids.length) (Q := AnsI) (I := fun σ => σ = [.box (cc kind nums polys squares kids)]) (L := fun i m σ => L19_1 X (.ptr 0 0) (.int .i64 m) (.int .i64 (i : Nat)) σ) ?_ ?_ m _ rfl
      · rintro m τ rfl
        try simp only
        rw [L19_1_eq]
        simp [cc]
        exact ⟨m, rfl⟩
      · rintro i hi m τ rfl
        obtain ⟨k, hc⟩ := callI (R := List PV) (args := [.agg kids[i].c]) C19 rfl (by simp only [pureL, PV.pure, TCert.pure, Bool.and_self]) (by simp only [p19, canonA, canonV, TCert.canon]) (by
          have := List.sizeOf_lt_of_mem (List.getElem_mem hi)
          exact cweight_ok X kids[i] (a4' _ (List.getElem_mem hi)))
        refine ⟨IntKind.i64.wrap (m + IntKind.i64.wrap (1 + k)), _, rfl, ?_⟩
        try simp only
        rw [L19_1_eq]
        simp [cc, hi, iaddr_enc, loadP_all (TCert.len _), hc, wrap_succ (show i < 9223372036854775807 by omega)]
    have H2 : ∀ m : Int, AnsI (J19_5 X (.ptr 0 0) (.int .i64 m) [.box (cc kind nums polys squares kids)]) := fun m => by
      rw [J19_5_eq]
      refine sum_loop (n := squares.length) (Q := AnsI) (I := fun σ => σ = [.box (cc kind nums polys squares kids)]) (L := fun i m σ => L19_2 X (.ptr 0 0) (.int .i64 m) (.int .i64 (i : Nat)) σ) ?_ ?_ m _ rfl
      · rintro m τ rfl
        try simp only
        rw [L19_2_eq]
        simpa [cc] using H1 m
      · rintro i hi m τ rfl
        obtain ⟨k, hc⟩ := call39 (R := List PV) X squares[i].poly (a3' _ (List.getElem_mem hi)).2
        refine ⟨IntKind.i64.wrap (m + IntKind.i64.wrap (IntKind.i64.wrap (1 + IntKind.i64.wrap (4 * IntKind.i64.wrap (((squares[i].weight.num.length : Nat) : Int) + ((squares[i].weight.den.length : Nat) : Int)))) + k)), _, rfl, ?_⟩
        try simp only
        rw [L19_2_eq]
        simp [cc, hi, iaddr_enc, s1', s2, sq3, hc, wrap_succ (show i < 9223372036854775807 by omega)]
    have H3 : ∀ m : Int, AnsI (J19_7 X (.ptr 0 0) (.int .i64 m) [.box (cc kind nums polys squares kids)]) := fun m => by
      rw [J19_7_eq]
      refine sum_loop (n := polys.length) (Q := AnsI) (I := fun σ => σ = [.box (cc kind nums polys squares kids)]) (L := fun i m σ => L19_4 X (.ptr 0 0) (.int .i64 m) (.int .i64 (i : Nat)) σ) ?_ ?_ m _ rfl
      · rintro m τ rfl
        try simp only
        rw [L19_4_eq]
        simpa [cc] using H2 m
      · rintro i hi m τ rfl
        obtain ⟨k, hc⟩ := call39 (R := List PV) X polys[i] (a2' _ (List.getElem_mem hi))
        refine ⟨IntKind.i64.wrap (m + IntKind.i64.wrap (1 + k)), _, rfl, ?_⟩
        try simp only
        rw [L19_4_eq]
        simp [cc, hi, iaddr_enc, loadP_all (TPoly.len _), hc, wrap_succ (show i < 9223372036854775807 by omega)]
    refine sum_loop (n := nums.length) (Q := AnsI) (I := fun σ => σ = [.box (cc kind nums polys squares kids)]) (L := fun i m σ => L19_6 X (.ptr 0 0) (.int .i64 m) (.int .i64 (i : Nat)) σ) ?_ ?_ 0 _ rfl
    · rintro m τ rfl
      try simp only
      rw [L19_6_eq]
      simpa [cc] using H3 m
    · rintro i hi m τ rfl
      refine ⟨IntKind.i64.wrap (m + IntKind.i64.wrap (1 + IntKind.i64.wrap (4 * IntKind.i64.wrap (((nums[i].num.length : Nat) : Int) + ((nums[i].den.length : Nat) : Int))))), _, rfl, ?_⟩
      try simp only
      rw [L19_6_eq]
      simp [cc, hi, iaddr_enc, r1', r2, wrap_succ (show i < 9223372036854775807 by omega)]
termination_by c => SizeOf.sizeOf c
theorem call19 {R : Type} (X : Ext) (c : TCert) (h : c.ok) : ∃ k : Int, ∀ (σ : Heap) (pc : Bool) (K : PV → Heap → Option R), callK C (Hw C X) σ pc (.fn 19 []) [.agg c.c] K = K (.int .i64 k) σ :=
  callI C19 rfl (by simp only [pureL, PV.pure, TCert.pure, Bool.and_self]) (by simp only [p19, canonA, canonV, TCert.canon]) (cweight_ok X c h)
theorem weight_ok (X : Ext) : ∀ (p : TProof), p.ok → AnsI ((Hw C X).pure 7 [.agg p.c])
  | p, hp => by
    have A := bare_ok_of hp
    have K := kids_ok_of hp
    have b1 := A.forms.1
    have b2 := A.subst.1
    have b3 := K.1
    unfold Sm at b1 b2 b3
    obtain ⟨kc, hcc⟩ := call19 (R := List PV) X (bareOf p).cert A.cert
    rw [F7]
    simp only [boxV_agg, Option.bind_some, List.nil_append, List.length_nil, faddrV_ptr, Nat.zero_add, loadV_ptr0, pr4, pr5, pr6, len_enc, hcc, bin_add]
    have H1 : ∀ m : Int, AnsI (J7_4 X (.ptr 0 0) (.int .i64 m) [.box p.c]) := fun m => by
      rw [J7_4_eq]
      refine sum_loop (n := (kidsOf p).length) (Q := AnsI) (I := fun σ => σ = [.box p.c]) (L := fun i m σ => L7_1 X (.ptr 0 0) (.int .i64 m) (.int .i64 (i : Nat)) σ) ?_ ?_ m _ rfl
      · rintro m τ rfl
        try simp only
        rw [L7_1_eq]
        simp [pr11]
        exact ⟨m, rfl⟩
      · rintro i hi m τ rfl
        obtain ⟨k, hc⟩ := callI (R := List PV) (args := [.agg (kidsOf p)[i].c]) C7 rfl (by simp only [pureL, PV.pure, TProof.pure, Bool.and_self]) (by simp only [p7, canonA, canonV, TProof.canon]) (by
          have := kids_size (List.getElem_mem hi)
          exact weight_ok X (kidsOf p)[i] (K.2 _ (List.getElem_mem hi)))
        refine ⟨IntKind.i64.wrap (m + k), _, rfl, ?_⟩
        try simp only
        rw [L7_1_eq]
        simp [pr11, hi, iaddr_enc, loadP_all (TProof.len _), hc, wrap_succ (show i < 9223372036854775807 by omega)]
    have H2 : ∀ m : Int, AnsI (J7_6 X (.ptr 0 0) (.int .i64 m) [.box p.c]) := fun m => by
      rw [J7_6_eq]
      refine sum_loop (n := (bareOf p).subst.length) (Q := AnsI) (I := fun σ => σ = [.box p.c]) (L := fun i m σ => L7_2 X (.ptr 0 0) (.int .i64 m) (.int .i64 (i : Nat)) σ) ?_ ?_ m _ rfl
      · rintro m τ rfl
        try simp only
        rw [L7_2_eq]
        simpa [pr3] using H1 m
      · rintro i hi m τ rfl
        obtain ⟨q1, q2, q3⟩ := A.subst.2 _ (List.getElem_mem hi)
        have q3b := q3.1
        unfold Sm at q3b
        obtain ⟨k1, hc1⟩ := call20 (R := List PV) X _ q1
        obtain ⟨k2, hc2⟩ := call20 (R := List PV) X _ q2
        have inner : ∀ (m0 : Int), ∃ m' : Int, L7_3 X (.ptr 0 0) (.int .i64 m0) (.int .i64 (i : Nat)) (.int .i64 (0 : Nat)) [.box p.c] = L7_2 X (.ptr 0 0) (.int .i64 m') (.int .i64 ((i + 1 : Nat) : Int)) [.box p.c] := by
          intro m0
          refine sum_loop (n := (bareOf p).subst[i].rates.length) (Q := fun r => ∃ m' : Int, r = L7_2 X (.ptr 0 0) (.int .i64 m') (.int .i64 ((i + 1 : Nat) : Int)) [.box p.c]) (I := fun σ => σ = [.box p.c]) (L := fun j m σ => L7_3 X (.ptr 0 0) (.int .i64 m) (.int .i64 (i : Nat)) (.int .i64 (j : Nat)) σ) ?_ ?_ m0 _ rfl
          · rintro m τ rfl
            refine ⟨m, ?_⟩
            try simp only
            rw [L7_3_eq]
            simp [pr3, hi, iaddr_enc, pa12, wrap_succ (show i < 9223372036854775807 by omega)]
          · rintro j hj m τ rfl
            obtain ⟨k3, hc3⟩ := call20 (R := List PV) X _ (q3.2 _ (List.getElem_mem hj))
            refine ⟨IntKind.i64.wrap (m + k3), _, rfl, ?_⟩
            try simp only
            rw [L7_3_eq]
            simp [pr3, hi, hj, iaddr_enc, pa12, loadP_all (TNode.len _), hc3, wrap_succ (show j < 9223372036854775807 by omega)]
        obtain ⟨m', h'⟩ := inner (IntKind.i64.wrap (m + IntKind.i64.wrap (k1 + k2)))
        refine ⟨m', _, rfl, ?_⟩
        try simp only
        rw [← h', L7_2_eq]
        simp [pr3, hi, iaddr_enc, pa0, pa6, hc1, hc2]
    refine sum_loop (n := (bareOf p).forms.length) (Q := AnsI) (I := fun σ => σ = [.box p.c]) (L := fun i m σ => L7_5 X (.ptr 0 0) (.int .i64 m) (.int .i64 (i : Nat)) σ) ?_ ?_ _ _ rfl
    · rintro m τ rfl
      try simp only
      rw [L7_5_eq]
      simpa [pr2] using H2 m
    · rintro i hi m τ rfl
      obtain ⟨k, hc⟩ := call20 (R := List PV) X _ (A.forms.2 _ (List.getElem_mem hi))
      refine ⟨IntKind.i64.wrap (m + k), _, rfl, ?_⟩
      try simp only
      rw [L7_5_eq]
      simp [pr2, hi, iaddr_enc, loadP_all (TNode.len _), hc, wrap_succ (show i < 9223372036854775807 by omega)]
termination_by p => SizeOf.sizeOf p
theorem call7 {R : Type} (X : Ext) (p : TProof) (h : p.ok) : ∃ k : Int, ∀ (σ : Heap) (pc : Bool) (K : PV → Heap → Option R), callK C (Hw C X) σ pc (.fn 7 []) [.agg p.c] K = K (.int .i64 k) σ :=
  callI C7 rfl (by simp only [pureL, PV.pure, TProof.pure, Bool.and_self]) (by simp only [p7, canonA, canonV, TProof.canon]) (weight_ok X p h)
end Go.Proofs.YtkpbfldnickghaaDoor
