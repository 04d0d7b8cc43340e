/- Arguments of the program's data types, read as data: polynomials, certificates, proofs. -/
import Derived.Test.YtkpbfldnickghaaDoorPEq
set_option linter.unusedVariables false
set_option linter.unusedSimpArgs false
namespace Go.PE
section
variable {H : Type} {enc : TypeId × Value → H} {P : Program} {w : World} {sp : Nat → Bool} {hd : Bool} {B : DataW H → Nat}
/-- The program's types. -/
structure Tys where
  (tbool twords trat tu32 tint tstr tnode tnodes tints tmono tmonos tpoly tpolys tsquare tsquares trats tcert tcerts tpair tpairs tstrs tproof tproofs tstep tsteps : TypeId)
structure TyProof (P : Program) (t : Tys) : Prop extends TyNode P t.tbool t.twords t.trat t.tu32 t.tint t.tstr t.tnode t.tnodes where
  ints : P.underlying t.tints = some (.slice t.tint)
  cints : P.cellsOf t.tints = 1
  mono : St P t.tmono [(t.tints, 0), (t.trat, 1)]
  cmono : P.cellsOf t.tmono = 4
  monos : P.underlying t.tmonos = some (.slice t.tmono)
  cmonos : P.cellsOf t.tmonos = 1
  poly : St P t.tpoly [(t.tint, 0), (t.tmonos, 1)]
  cpoly : P.cellsOf t.tpoly = 2
  polys : P.underlying t.tpolys = some (.slice t.tpoly)
  cpolys : P.cellsOf t.tpolys = 1
  square : St P t.tsquare [(t.trat, 0), (t.tpoly, 3)]
  csquare : P.cellsOf t.tsquare = 5
  squares : P.underlying t.tsquares = some (.slice t.tsquare)
  csquares : P.cellsOf t.tsquares = 1
  rats : P.underlying t.trats = some (.slice t.trat)
  crats : P.cellsOf t.trats = 1
  cert : St P t.tcert [(t.tint, 0), (t.trats, 1), (t.tpolys, 2), (t.tsquares, 3), (t.tcerts, 4)]
  ccert : P.cellsOf t.tcert = 5
  certs : P.underlying t.tcerts = some (.slice t.tcert)
  ccerts : P.cellsOf t.tcerts = 1
  pair : St P t.tpair [(t.tnode, 0), (t.tnode, 6), (t.tnodes, 12)]
  cpair : P.cellsOf t.tpair = 13
  pairs : P.underlying t.tpairs = some (.slice t.tpair)
  cpairs : P.cellsOf t.tpairs = 1
  strs : P.underlying t.tstrs = some (.slice t.tstr)
  cstrs : P.cellsOf t.tstrs = 1
  proof : St P t.tproof [(t.tstr, 0), (t.tstr, 1), (t.tnodes, 2), (t.tpairs, 3), (t.tints, 4), (t.tstrs, 5), (t.tcert, 6), (t.tproofs, 11)]
  cproof : P.cellsOf t.tproof = 12
  proofs : P.underlying t.tproofs = some (.slice t.tproof)
  cproofs : P.cellsOf t.tproofs = 1
structure TyStep (P : Program) (t : Tys) : Prop extends TyProof P t where
  step : St P t.tstep [(t.tproof, 0), (t.tints, 12)]
  cstep : P.cellsOf t.tstep = 13
  steps : P.underlying t.tsteps = some (.slice t.tstep)
  csteps : P.cellsOf t.tsteps = 1
variable {t : Tys}
theorem rd_ints (T : TyProof P t) (hB : Bk B) (fuel : Nat) : Rd enc P w sp hd t.tints (fun ys => [encL 1 cInt ys]) (RdOks B (fun _ : Int => True) i64ok szOne) fuel :=
  rd_slice T.ints T.cint (fun _ => rfl) (rdOks_nil hB) (fun es sp ys => rdOks_mk hB es sp ys) fuel fun n _ => rd_i64 T.int hB n
theorem rd_strs (T : TyProof P t) (hB : Bk B) (fuel : Nat) : Rd enc P w sp hd t.tstrs (fun ys => [encL 1 cStr ys]) (RdOks B (fun _ : Str => True) strOk (fun s => s.length + 1)) fuel :=
  rd_slice T.strs T.cstr (fun _ => rfl) (rdOks_nil hB) (fun es sp ys => rdOks_mk hB es sp ys) fuel fun n _ => rd_str T.str hB n
theorem rd_rats (T : TyProof P t) (hB : Bk B) (fuel : Nat) : Rd enc P w sp hd t.trats (fun ys => [encL 3 TRat.c ys]) (RdOks B TRat.ok TRat.wf TRat.sz) fuel :=
  rd_slice T.rats T.crat TRat.len (rdOks_nil hB) (fun es sp ys => rdOks_mk hB es sp ys) fuel fun n _ => rd_rat T.toTyRat hB n
theorem rd_mono (T : TyProof P t) (hB : Bk B) (fuel : Nat) : Rd enc P w sp hd t.tmono TMono.c (RdOk B TMono.ok TMono.wf TMono.sz) fuel := by
  intro cs x h
  obtain ⟨n, xs, rfl, e2, e3, e4, e5⟩ := st_fields T.mono h
  rw [T.cmono] at e3
  obtain ⟨y0, x0, h0⟩ := e5 0 _ _ rfl
  obtain ⟨y1, x1, h1⟩ := e5 1 _ _ rfl
  rw [T.cints] at h0
  rw [T.crat] at h1
  obtain ⟨q0, ⟨⟨s0, _⟩, w0, z0⟩, r0⟩ := rd_ints T hB n _ _ h0
  obtain ⟨q1, ⟨k1, w1, z1⟩, r1⟩ := rd_rat T.toTyRat hB n _ _ h1
  have hs := sum3 hB e2
  have ex : xs = [y0, y1] := by
    match xs, e4, x0, x1 with
    | [a0, a1], _, x0, x1 => simp at x0 x1; simp [x0, x1]
  rw [ex] at hs
  simp only [List.map_cons, List.map_nil, List.sum_cons, List.sum_nil] at hs
  try simp only [sum_one] at z0
  try simp only [sum_one] at z1
  refine ⟨⟨q0, q1⟩, ⟨⟨s0, k1⟩, ⟨w0, w1⟩, ?_⟩, ?_⟩
  · simp only [TMono.sz]
    omega
  · show RepL _ _ _ _ _
    exact rep_step 0 1 1 rfl r0 (rep_step 1 3 4 rfl r1 (rep_end 4 e3))
theorem rd_monos (T : TyProof P t) (hB : Bk B) (fuel : Nat) : Rd enc P w sp hd t.tmonos (fun ys => [encL 4 TMono.c ys]) (RdOks B TMono.ok TMono.wf TMono.sz) fuel :=
  rd_slice T.monos T.cmono TMono.len (rdOks_nil hB) (fun es sp ys => rdOks_mk hB es sp ys) fuel fun n _ => rd_mono T hB n
theorem rd_poly (T : TyProof P t) (hB : Bk B) (fuel : Nat) : Rd enc P w sp hd t.tpoly TPoly.c (RdOk B TPoly.ok TPoly.wf TPoly.sz) fuel := by
  intro cs x h
  obtain ⟨n, xs, rfl, e2, e3, e4, e5⟩ := st_fields T.poly h
  rw [T.cpoly] at e3
  obtain ⟨y0, x0, h0⟩ := e5 0 _ _ rfl
  obtain ⟨y1, x1, h1⟩ := e5 1 _ _ rfl
  rw [T.cint] at h0
  rw [T.cmonos] at h1
  obtain ⟨q0, ⟨_, w0, z0⟩, r0⟩ := rd_i64 T.int hB n _ _ h0
  obtain ⟨q1, ⟨⟨s1, k1⟩, w1, z1⟩, r1⟩ := rd_monos T hB n _ _ h1
  have hs := sum3 hB e2
  have ex : xs = [y0, y1] := by
    match xs, e4, x0, x1 with
    | [a0, a1], _, x0, x1 => simp at x0 x1; simp [x0, x1]
  rw [ex] at hs
  simp only [List.map_cons, List.map_nil, List.sum_cons, List.sum_nil] at hs
  try simp only [sum_one] at z0
  try simp only [sum_one] at z1
  refine ⟨⟨q0, q1⟩, ⟨⟨s1, k1⟩, ⟨w0, w1⟩, ?_⟩, ?_⟩
  · simp only [TPoly.sz]
    omega
  · show RepL _ _ _ _ _
    exact rep_step 0 1 1 rfl r0 (rep_step 1 1 2 rfl r1 (rep_end 2 e3))
theorem rd_polys (T : TyProof P t) (hB : Bk B) (fuel : Nat) : Rd enc P w sp hd t.tpolys (fun ys => [encL 2 TPoly.c ys]) (RdOks B TPoly.ok TPoly.wf TPoly.sz) fuel :=
  rd_slice T.polys T.cpoly TPoly.len (rdOks_nil hB) (fun es sp ys => rdOks_mk hB es sp ys) fuel fun n _ => rd_poly T hB n
theorem rd_square (T : TyProof P t) (hB : Bk B) (fuel : Nat) : Rd enc P w sp hd t.tsquare TSquare.c (RdOk B TSquare.ok TSquare.wf TSquare.sz) fuel := by
  intro cs x h
  obtain ⟨n, xs, rfl, e2, e3, e4, e5⟩ := st_fields T.square h
  rw [T.csquare] at e3
  obtain ⟨y0, x0, h0⟩ := e5 0 _ _ rfl
  obtain ⟨y1, x1, h1⟩ := e5 1 _ _ rfl
  rw [T.crat] at h0
  rw [T.cpoly] at h1
  obtain ⟨q0, ⟨k0, w0, z0⟩, r0⟩ := rd_rat T.toTyRat hB n _ _ h0
  obtain ⟨q1, ⟨k1, w1, z1⟩, r1⟩ := rd_poly T hB n _ _ h1
  have hs := sum3 hB e2
  have ex : xs = [y0, y1] := by
    match xs, e4, x0, x1 with
    | [a0, a1], _, x0, x1 => simp at x0 x1; simp [x0, x1]
  rw [ex] at hs
  simp only [List.map_cons, List.map_nil, List.sum_cons, List.sum_nil] at hs
  try simp only [sum_one] at z0
  try simp only [sum_one] at z1
  refine ⟨⟨q0, q1⟩, ⟨⟨k0, k1⟩, ⟨w0, w1⟩, ?_⟩, ?_⟩
  · simp only [TSquare.sz]
    omega
  · show RepL _ _ _ _ _
    exact rep_step 0 3 3 rfl r0 (rep_step 3 2 5 rfl r1 (rep_end 5 e3))
theorem rd_squares (T : TyProof P t) (hB : Bk B) (fuel : Nat) : Rd enc P w sp hd t.tsquares (fun ys => [encL 5 TSquare.c ys]) (RdOks B TSquare.ok TSquare.wf TSquare.sz) fuel :=
  rd_slice T.squares T.csquare TSquare.len (rdOks_nil hB) (fun es sp ys => rdOks_mk hB es sp ys) fuel fun n _ => rd_square T hB n
theorem rd_pair (T : TyProof P t) (hB : Bk B) (fuel : Nat) : Rd enc P w sp hd t.tpair TPair.c (RdOk B TPair.ok TPair.wf TPair.sz) fuel := by
  intro cs x h
  obtain ⟨n, xs, rfl, e2, e3, e4, e5⟩ := st_fields T.pair h
  rw [T.cpair] at e3
  obtain ⟨y0, x0, h0⟩ := e5 0 _ _ rfl
  obtain ⟨y1, x1, h1⟩ := e5 1 _ _ rfl
  obtain ⟨y2, x2, h2⟩ := e5 2 _ _ rfl
  rw [T.cnode] at h0
  rw [T.cnode] at h1
  rw [T.cnodes] at h2
  obtain ⟨q0, ⟨k0, w0, z0⟩, r0⟩ := (rd_node T.toTyNode hB n).1 _ _ h0
  obtain ⟨q1, ⟨k1, w1, z1⟩, r1⟩ := (rd_node T.toTyNode hB n).1 _ _ h1
  obtain ⟨q2, ⟨⟨s2, k2⟩, w2, z2⟩, r2⟩ := (rd_node T.toTyNode hB n).2 _ _ h2
  have hs := sum3 hB e2
  have ex : xs = [y0, y1, y2] := by
    match xs, e4, x0, x1, x2 with
    | [a0, a1, a2], _, x0, x1, x2 => simp at x0 x1 x2; simp [x0, x1, x2]
  rw [ex] at hs
  simp only [List.map_cons, List.map_nil, List.sum_cons, List.sum_nil] at hs
  try simp only [sum_one] at z0
  try simp only [sum_one] at z1
  try simp only [sum_one] at z2
  refine ⟨⟨q0, q1, q2⟩, ⟨⟨k0, k1, s2, k2⟩, ⟨w0, w1, w2⟩, ?_⟩, ?_⟩
  · simp only [TPair.sz]
    omega
  · rw [show TPair.c ⟨q0, q1, q2⟩ = q0.c ++ (q1.c ++ ([encL 6 TNode.c q2] ++ [])) by simp [TPair.c]]
    exact rep_step 0 6 6 rfl r0 (rep_step 6 6 12 rfl r1 (rep_step 12 1 13 rfl r2 (rep_end 13 e3)))
theorem rd_pairs (T : TyProof P t) (hB : Bk B) (fuel : Nat) : Rd enc P w sp hd t.tpairs (fun ys => [encL 13 TPair.c ys]) (RdOks B TPair.ok TPair.wf TPair.sz) fuel :=
  rd_slice T.pairs T.cpair TPair.len (rdOks_nil hB) (fun es sp ys => rdOks_mk hB es sp ys) fuel fun n _ => rd_pair T hB n
theorem rd_cert (T : TyProof P t) (hB : Bk B) : ∀ (fuel : Nat), Rd enc P w sp hd t.tcert TCert.c (RdOk B TCert.ok TCert.wf TCert.sz) fuel ∧ Rd enc P w sp hd t.tcerts (fun ys => [encL 5 TCert.c ys]) (RdOks B TCert.ok TCert.wf TCert.sz) fuel
  | 0 => ⟨fun cs x h => by simp [DataW.trod] at h, fun cs x h => by simp [DataW.trod] at h⟩
  | fuel + 1 => by
    obtain ⟨i1, i2⟩ := rd_cert T hB fuel
    constructor
    · intro cs x h
      obtain ⟨n, xs, hn, e2, e3, e4, e5⟩ := st_fields T.cert h
      obtain rfl : n = fuel := by omega
      rw [T.ccert] at e3
      obtain ⟨y0, x0, h0⟩ := e5 0 _ _ rfl
      obtain ⟨y1, x1, h1⟩ := e5 1 _ _ rfl
      obtain ⟨y2, x2, h2⟩ := e5 2 _ _ rfl
      obtain ⟨y3, x3, h3⟩ := e5 3 _ _ rfl
      obtain ⟨y4, x4, h4⟩ := e5 4 _ _ rfl
      rw [T.cint] at h0
      rw [T.crats] at h1
      rw [T.cpolys] at h2
      rw [T.csquares] at h3
      rw [T.ccerts] at h4
      obtain ⟨q0, ⟨_, w0, z0⟩, r0⟩ := rd_i64 T.int hB n _ _ h0
      obtain ⟨q1, ⟨⟨s1, k1⟩, w1, z1⟩, r1⟩ := rd_rats T hB n _ _ h1
      obtain ⟨q2, ⟨⟨s2, k2⟩, w2, z2⟩, r2⟩ := rd_polys T hB n _ _ h2
      obtain ⟨q3, ⟨⟨s3, k3⟩, w3, z3⟩, r3⟩ := rd_squares T hB n _ _ h3
      obtain ⟨q4, ⟨⟨s4, k4⟩, w4, z4⟩, r4⟩ := i2 _ _ h4
      have hs := sum3 hB e2
      have ex : xs = [y0, y1, y2, y3, y4] := by
        match xs, e4, x0, x1, x2, x3, x4 with
        | [a0, a1, a2, a3, a4], _, x0, x1, x2, x3, x4 => simp at x0 x1 x2 x3 x4; simp [x0, x1, x2, x3, x4]
      rw [ex] at hs
      simp only [List.map_cons, List.map_nil, List.sum_cons, List.sum_nil] at hs
      try simp only [sum_one] at z0
      try simp only [sum_one] at z1
      try simp only [sum_one] at z2
      try simp only [sum_one] at z3
      try simp only [sum_one] at z4
      refine ⟨.mk q0 q1 q2 q3 q4, ⟨⟨⟨s1, k1⟩, ⟨s2, k2⟩, ⟨s3, k3⟩, s4, TCert.oks_iff.2 k4⟩, ⟨w0, w1, w2, w3, TCert.wfs_iff.2 w4⟩, ?_⟩, ?_⟩
      · simp only [TCert.sz, TCert.szs_sum]
        omega
      · rw [TCert.c_eq]
        exact rep_step 0 1 1 rfl r0 (rep_step 1 1 2 rfl r1 (rep_step 2 1 3 rfl r2 (rep_step 3 1 4 rfl r3 (rep_step 4 1 5 rfl r4 (rep_end 5 e3)))))
    · exact rd_slice T.certs T.ccert TCert.len (rdOks_nil hB) (fun es sp ys => rdOks_mk hB es sp ys) (fuel + 1) fun n hn => by
        obtain rfl : n = fuel := by omega
        exact i1
theorem rd_proof (T : TyProof P t) (hB : Bk B) : ∀ (fuel : Nat), Rd enc P w sp hd t.tproof TProof.c (RdOk B TProof.ok TProof.wf TProof.sz) fuel ∧ Rd enc P w sp hd t.tproofs (fun ys => [encL 12 TProof.c ys]) (RdOks B TProof.ok TProof.wf TProof.sz) fuel
  | 0 => ⟨fun cs x h => by simp [DataW.trod] at h, fun cs x h => by simp [DataW.trod] at h⟩
  | fuel + 1 => by
    obtain ⟨i1, i2⟩ := rd_proof T hB fuel
    constructor
    · intro cs x h
      obtain ⟨n, xs, hn, e2, e3, e4, e5⟩ := st_fields T.proof h
      obtain rfl : n = fuel := by omega
      rw [T.cproof] at e3
      obtain ⟨y0, x0, h0⟩ := e5 0 _ _ rfl
      obtain ⟨y1, x1, h1⟩ := e5 1 _ _ rfl
      obtain ⟨y2, x2, h2⟩ := e5 2 _ _ rfl
      obtain ⟨y3, x3, h3⟩ := e5 3 _ _ rfl
      obtain ⟨y4, x4, h4⟩ := e5 4 _ _ rfl
      obtain ⟨y5, x5, h5⟩ := e5 5 _ _ rfl
      obtain ⟨y6, x6, h6⟩ := e5 6 _ _ rfl
      obtain ⟨y7, x7, h7⟩ := e5 7 _ _ rfl
      rw [T.cstr] at h0
      rw [T.cstr] at h1
      rw [T.cnodes] at h2
      rw [T.cpairs] at h3
      rw [T.cints] at h4
      rw [T.cstrs] at h5
      rw [T.ccert] at h6
      rw [T.cproofs] at h7
      obtain ⟨q0, ⟨_, w0, z0⟩, r0⟩ := rd_str T.str hB n _ _ h0
      obtain ⟨q1, ⟨_, w1, z1⟩, r1⟩ := rd_str T.str hB n _ _ h1
      obtain ⟨q2, ⟨⟨s2, k2⟩, w2, z2⟩, r2⟩ := (rd_node T.toTyNode hB n).2 _ _ h2
      obtain ⟨q3, ⟨⟨s3, k3⟩, w3, z3⟩, r3⟩ := rd_pairs T hB n _ _ h3
      obtain ⟨q4, ⟨⟨s4, _⟩, w4, z4⟩, r4⟩ := rd_ints T hB n _ _ h4
      obtain ⟨q5, ⟨⟨s5, _⟩, w5, z5⟩, r5⟩ := rd_strs T hB n _ _ h5
      obtain ⟨q6, ⟨k6, w6, z6⟩, r6⟩ := (rd_cert T hB n).1 _ _ h6
      obtain ⟨q7, ⟨⟨s7, k7⟩, w7, z7⟩, r7⟩ := i2 _ _ h7
      have hs := sum3 hB e2
      have ex : xs = [y0, y1, y2, y3, y4, y5, y6, y7] := by
        match xs, e4, x0, x1, x2, x3, x4, x5, x6, x7 with
        | [a0, a1, a2, a3, a4, a5, a6, a7], _, x0, x1, x2, x3, x4, x5, x6, x7 => simp at x0 x1 x2 x3 x4 x5 x6 x7; simp [x0, x1, x2, x3, x4, x5, x6, x7]
      rw [ex] at hs
      simp only [List.map_cons, List.map_nil, List.sum_cons, List.sum_nil] at hs
      try simp only [sum_one] at z0
      try simp only [sum_one] at z1
      try simp only [sum_one] at z2
      try simp only [sum_one] at z3
      try simp only [sum_one] at z4
      try simp only [sum_one] at z5
      try simp only [sum_one] at z6
      try simp only [sum_one] at z7
      refine ⟨.mk q0 q1 q2 q3 q4 q5 q6 q7, ⟨⟨⟨s2, k2⟩, ⟨s3, k3⟩, s4, s5, k6, s7, TProof.oks_iff.2 k7⟩, ⟨w0, w1, w2, w3, w4, w5, w6, TProof.wfs_iff.2 w7⟩, ?_⟩, ?_⟩
      · simp only [TProof.sz, TProof.szs_sum]
        omega
      · rw [TProof.c_eq, show ([PV.str q0, PV.str q1, encL 6 TNode.c q2, encL 13 TPair.c q3, encL 1 cInt q4, encL 1 cStr q5] ++ q6.c ++ [encL 12 TProof.c q7]) = [PV.str q0] ++ ([PV.str q1] ++ ([encL 6 TNode.c q2] ++ ([encL 13 TPair.c q3] ++ ([encL 1 cInt q4] ++ ([encL 1 cStr q5] ++ (q6.c ++ ([encL 12 TProof.c q7] ++ []))))))) by simp]
        exact rep_step 0 1 1 rfl r0 (rep_step 1 1 2 rfl r1 (rep_step 2 1 3 rfl r2 (rep_step 3 1 4 rfl r3 (rep_step 4 1 5 rfl r4 (rep_step 5 1 6 rfl r5 (rep_step 6 5 11 rfl r6 (rep_step 11 1 12 rfl r7 (rep_end 12 e3))))))))
    · exact rd_slice T.proofs T.cproof TProof.len (rdOks_nil hB) (fun es sp ys => rdOks_mk hB es sp ys) (fuel + 1) fun n hn => by
        obtain rfl : n = fuel := by omega
        exact i1
theorem rd_step (T : TyStep P t) (hB : Bk B) (fuel : Nat) : Rd enc P w sp hd t.tstep TStep.c (RdOk B TStep.ok TStep.wf TStep.sz) fuel := by
  intro cs x h
  obtain ⟨n, xs, rfl, e2, e3, e4, e5⟩ := st_fields T.step h
  rw [T.cstep] at e3
  obtain ⟨y0, x0, h0⟩ := e5 0 _ _ rfl
  obtain ⟨y1, x1, h1⟩ := e5 1 _ _ rfl
  rw [T.cproof] at h0
  rw [T.cints] at h1
  obtain ⟨q0, ⟨k0, w0, z0⟩, r0⟩ := (rd_proof T.toTyProof hB n).1 _ _ h0
  obtain ⟨q1, ⟨⟨s1, _⟩, w1, z1⟩, r1⟩ := rd_ints T.toTyProof hB n _ _ h1
  have hs := sum3 hB e2
  have ex : xs = [y0, y1] := by
    match xs, e4, x0, x1 with
    | [a0, a1], _, x0, x1 => simp at x0 x1; simp [x0, x1]
  rw [ex] at hs
  simp only [List.map_cons, List.map_nil, List.sum_cons, List.sum_nil] at hs
  try simp only [sum_one] at z0
  try simp only [sum_one] at z1
  refine ⟨⟨q0, q1⟩, ⟨⟨k0, s1⟩, ⟨w0, w1⟩, ?_⟩, ?_⟩
  · simp only [TStep.sz]
    omega
  · rw [show TStep.c ⟨q0, q1⟩ = q0.c ++ ([encL 1 cInt q1] ++ []) by simp [TStep.c]]
    exact rep_step 0 12 12 rfl r0 (rep_step 12 1 13 rfl r1 (rep_end 13 e3))
theorem rd_steps (T : TyStep P t) (hB : Bk B) (fuel : Nat) : Rd enc P w sp hd t.tsteps (fun ys => [encL 13 TStep.c ys]) (RdOks B TStep.ok TStep.wf TStep.sz) fuel :=
  rd_slice T.steps T.cstep TStep.len (rdOks_nil hB) (fun es sp ys => rdOks_mk hB es sp ys) fuel fun n _ => rd_step T hB n
end
end Go.PE
