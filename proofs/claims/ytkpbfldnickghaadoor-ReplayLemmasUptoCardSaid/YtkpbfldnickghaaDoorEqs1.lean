/- What each piece of the functions comes to, printed by a program of this session; each equation held by the kernel. -/
import Derived.Test.YtkpbfldnickghaaDoorFns
import Derived.Test.YtkpbfldnickghaaDoorPEm
import Derived.KernelRfl
set_option maxRecDepth 100000
set_option linter.unusedVariables false
namespace Go.Proofs.YtkpbfldnickghaaDoor
open Go Go.PE
/-! isochroneref22.Form -/
noncomputable def k33_1 (X : Ext) : Out → EnvF 51 → Heap → Option (List PV) := finK p33
noncomputable def k33_2 (X : Ext) : Out → EnvF 51 → Heap → Option (List PV) := seqK (fun E σ => evCK C (Hw C X) (.seq (.ops p33_18) .ret) E σ (k33_1 X)) (k33_1 X)
noncomputable def k33_3 (X : Ext) : Out → EnvF 51 → Heap → Option (List PV) := blockK 0 (k33_2 X)
noncomputable def L33_1 (X : Ext) (v0 v3 : PV) (σ : Heap) : Option (List PV) := loopK (Hw C X) cL33_1 (envOf 51 [(0, v0), (3, v3)]) σ (k33_3 X)
noncomputable def k33_4 (X : Ext) : Out → EnvF 51 → Heap → Option (List PV) := roundK C X cL33_1 (k33_3 X)
noncomputable def k33_5 (X : Ext) : Out → EnvF 51 → Heap → Option (List PV) := seqK (fun E σ => evCK C (Hw C X) (.ops p33_16) E σ (k33_4 X)) (k33_4 X)
noncomputable def k33_6 (X : Ext) : Out → EnvF 51 → Heap → Option (List PV) := blockK 1 (k33_5 X)
noncomputable def k33_7 (X : Ext) : Out → EnvF 51 → Heap → Option (List PV) := blockK 2 (k33_6 X)
noncomputable def L33_2 (X : Ext) (v0 v3 v4 : PV) (σ : Heap) : Option (List PV) := loopK (Hw C X) cL33_2 (envOf 51 [(0, v0), (3, v3), (4, v4)]) σ (k33_7 X)
theorem F33 (X : Ext) (v0 : PV) : (Hw C X).pure 33 [v0] =
  ((lenP ([] : Heap) .slice v0).bind fun x1 =>
  (evBin .gtr .int (.int .i64 (x1 : Nat)) (.int .i64 2000)).bind fun x2 =>
  condK x2
    (fun _ => finVs p33.keepr [(.int .i64 2)] ([] : Heap))
    (fun _ => (lenP ([] : Heap) .slice v0).bind fun x3 =>
    (evBin .eql .int (.int .i64 (x3 : Nat)) (.int .i64 0)).bind fun x4 =>
    condK x4
      (fun _ => finVs p33.keepr [(.int .i64 3)] ([] : Heap))
      (fun _ => L33_1 X v0 (.int .i64 0) ([] : Heap)))) := (pure_of C33 (Nat.le_of_ble_eq_true rfl)).trans (by kernel_rfl)
theorem L33_1_eq (X : Ext) (v0 v3 : PV) (σ : Heap) : L33_1 X v0 v3 σ =
  ((lenP σ .slice v0).bind fun x1 =>
  (evBin .lss .int v3 (.int .i64 (x1 : Nat))).bind fun x2 =>
  condK x2
    (fun _ => (iaddrV σ 13 v0 v3).bind fun x3 =>
    (faddrV 0 x3).bind fun x4 =>
    (faddrV 11 x4).bind fun x5 =>
    (loadV σ false 1 x5).bind fun x6 =>
    (lenP σ .slice x6).bind fun x7 =>
    (evBin .gtr .int (.int .i64 (x7 : Nat)) (.int .i64 0)).bind fun x8 =>
    condK x8
      (fun _ => finVs p33.keepr [(.int .i64 3)] σ)
      (fun _ => L33_2 X v0 v3 (.int .i64 0) σ))
    (fun _ => finVs p33.keepr [(.int .i64 0)] σ)) := (loopK_keep [0, 3] bL33_1 _ _ _).trans (by kernel_rfl)
theorem L33_2_eq (X : Ext) (v0 v3 v4 : PV) (σ : Heap) : L33_2 X v0 v3 v4 σ =
  ((iaddrV σ 13 v0 v3).bind fun x1 =>
  (faddrV 12 x1).bind fun x2 =>
  (loadV σ false 1 x2).bind fun x3 =>
  (lenP σ .slice x3).bind fun x4 =>
  (evBin .lss .int v4 (.int .i64 (x4 : Nat))).bind fun x5 =>
  condK x5
    (fun _ => (iaddrV σ 13 v0 v3).bind fun x6 =>
    (faddrV 12 x6).bind fun x7 =>
    (loadV σ false 1 x7).bind fun x8 =>
    (iaddrV σ 1 x8 v4).bind fun x9 =>
    (loadV σ false 1 x9).bind fun x10 =>
    (evBin .lss .int x10 (.int .i64 0)).bind fun x11 =>
    (guardR x11 false 3 σ fun _ =>
        (evBin .geq .int x10 v3).bind fun x12 =>
        some ([x10, v3, x12], σ)).bind fun q13 =>
    (pickV x11 (.bool true) (nthV q13.1 2)).bind fun x14 =>
    condK x14
      (fun _ => finVs p33.keepr [(.int .i64 3)] q13.2)
      (fun _ => (evBin .add .int v4 (.int .i64 1)).bind fun x15 =>
      L33_2 X v0 v3 x15 q13.2))
    (fun _ => (evBin .add .int v3 (.int .i64 1)).bind fun x16 =>
    L33_1 X v0 x16 σ)) := (loopK_keep [0, 3, 4] bL33_2 _ _ _).trans (by kernel_rfl)
/-! isochroneref22.built -/
noncomputable def k34_1 (X : Ext) : Out → EnvF 39 → Heap → Option (List PV) := finK p34
noncomputable def k34_2 (X : Ext) : Out → EnvF 39 → Heap → Option (List PV) := seqK (fun E σ => evCK C (Hw C X) (.keep [4, 5] cJ34_2) E σ (k34_1 X)) (k34_1 X)
noncomputable def k34_3 (X : Ext) : Out → EnvF 39 → Heap → Option (List PV) := blockK 0 (k34_2 X)
noncomputable def L34_1 (X : Ext) (v0 v1 v4 v5 v6 : PV) (σ : Heap) : Option (List PV) := loopK (Hw C X) cL34_1 (envOf 39 [(0, v0), (1, v1), (4, v4), (5, v5), (6, v6)]) σ (k34_3 X)
noncomputable def J34_2 (X : Ext) (v4 v5 : PV) (σ : Heap) : Option (List PV) := cutK C (Hw C X) cJ34_2 (envOf 39 [(4, v4), (5, v5)]) σ (k34_1 X)
theorem F34 (X : Ext) (v0 v1 : PV) : (Hw C X).pure 34 [v0, v1] =
  ((iaddrV (([] : Heap) ++ [Go.PE.Obj.box [(.str []), (.str []), .nils, .nils, .nils, .nils, (.int .i64 0), .nils, .nils, .nils, .nils, .nils]]) 13 v0 v1).bind fun x1 =>
  (faddrV 0 x1).bind fun x2 =>
  (loadV (([] : Heap) ++ [Go.PE.Obj.box [(.str []), (.str []), .nils, .nils, .nils, .nils, (.int .i64 0), .nils, .nils, .nils, .nils, .nils]]) true 12 x2).bind fun x3 =>
  (storeV ((([] : Heap) ++ [Go.PE.Obj.box [(.str []), (.str []), .nils, .nils, .nils, .nils, (.int .i64 0), .nils, .nils, .nils, .nils, .nils]]) ++ [Go.PE.Obj.box [(.str []), (.str []), .nils, .nils, .nils, .nils, (.int .i64 0), .nils, .nils, .nils, .nils, .nils]]) 12 (.ptr (([] : Heap) ++ [Go.PE.Obj.box [(.str []), (.str []), .nils, .nils, .nils, .nils, (.int .i64 0), .nils, .nils, .nils, .nils, .nils]]).length 0) x3).bind fun s4 =>
  (faddrV 11 (.ptr (([] : Heap) ++ [Go.PE.Obj.box [(.str []), (.str []), .nils, .nils, .nils, .nils, (.int .i64 0), .nils, .nils, .nils, .nils, .nils]]).length 0)).bind fun x5 =>
  (storeV s4 1 x5 .nils).bind fun s6 =>
  L34_1 X v0 v1 (.ptr ([] : Heap).length 0) (.ptr (([] : Heap) ++ [Go.PE.Obj.box [(.str []), (.str []), .nils, .nils, .nils, .nils, (.int .i64 0), .nils, .nils, .nils, .nils, .nils]]).length 0) (.int .i64 0) s6) := (pure_of C34 (Nat.le_of_ble_eq_true rfl)).trans (by kernel_rfl)
theorem L34_1_eq (X : Ext) (v0 v1 v4 v5 v6 : PV) (σ : Heap) : L34_1 X v0 v1 v4 v5 v6 σ =
  ((iaddrV σ 13 v0 v1).bind fun x1 =>
  (faddrV 12 x1).bind fun x2 =>
  (loadV σ false 1 x2).bind fun x3 =>
  (lenP σ .slice x3).bind fun x4 =>
  (evBin .lss .int v6 (.int .i64 (x4 : Nat))).bind fun x5 =>
  condK x5
    (fun _ => (faddrV 11 v5).bind fun x6 =>
    (loadV σ false 1 x6).bind fun x7 =>
    (iaddrV σ 13 v0 v1).bind fun x8 =>
    (faddrV 12 x8).bind fun x9 =>
    (loadV σ false 1 x9).bind fun x10 =>
    (iaddrV σ 1 x10 v6).bind fun x11 =>
    (loadV σ false 1 x11).bind fun x12 =>
    callK C (Hw C X) σ true (.fn 34 []) [v0, x12] fun x13 s14 =>
    (evPrim [] s14 (.bslice 12 [none, none, (some 6), (some 13), (some 1), (some 1), none, (some 3), (some 2), (some 5), (some 5), (some 12)] [(.str []), (.str []), .nils, .nils, .nils, .nils, (.int .i64 0), .nils, .nils, .nils, .nils, .nils] 1 [(0, (.cst x13))])).bind fun q15 =>
    (appendP 34 12 256 q15.2 x7 q15.1).bind fun q16 =>
    (faddrV 11 v5).bind fun x17 =>
    (storeV q16.2 1 x17 q16.1).bind fun s18 =>
    (evBin .add .int v6 (.int .i64 1)).bind fun x19 =>
    L34_1 X v0 v1 v4 v5 x19 s18)
    (fun _ => J34_2 X v4 v5 σ)) := (loopK_keep [0, 1, 4, 5, 6] bL34_1 _ _ _).trans (by kernel_rfl)
theorem J34_2_eq (X : Ext) (v4 v5 : PV) (σ : Heap) : J34_2 X v4 v5 σ =
  ((loadV σ true 12 v5).bind fun x1 =>
  (storeV σ 12 v4 x1).bind fun s2 =>
  (loadV s2 true 12 v4).bind fun x3 => finVs p34.keepr [x3] s2) := (cutK_eq _ _ _ _).trans (by kernel_rfl)
/-! isochroneref20.SameNode -/
theorem F35 (X : Ext) (v0 v1 : PV) : (Hw C X).pure 35 [v0, v1] =
  ((boxV v0 ([] : Heap)).bind fun s1 =>
  (boxV v1 s1).bind fun s2 =>
  (faddrV 0 (.ptr ([] : Heap).length 0)).bind fun x3 =>
  (loadV s2 false 1 x3).bind fun x4 =>
  (faddrV 0 (.ptr s1.length 0)).bind fun x5 =>
  (loadV s2 false 1 x5).bind fun x6 =>
  (evBin .eql .str x4 x6).bind fun x7 =>
  (guardR x7 true 5 s2 fun _ =>
      (faddrV 1 (.ptr ([] : Heap).length 0)).bind fun x8 =>
      (loadV s2 false 1 x8).bind fun x9 =>
      (faddrV 1 (.ptr s1.length 0)).bind fun x10 =>
      (loadV s2 false 1 x10).bind fun x11 =>
      (evBin .eql .str x9 x11).bind fun x12 =>
      some ([x8, x9, x10, x11, x12], s2)).bind fun q13 =>
  (pickV x7 (nthV q13.1 4) (.bool false)).bind fun x14 =>
  (guardR x14 true 5 q13.2 fun _ =>
      (faddrV 2 (.ptr ([] : Heap).length 0)).bind fun x15 =>
      (loadV q13.2 false 1 x15).bind fun x16 =>
      (faddrV 2 (.ptr s1.length 0)).bind fun x17 =>
      (loadV q13.2 false 1 x17).bind fun x18 =>
      callK C (Hw C X) q13.2 false (.fn 51 []) [x16, x18] fun x19 s20 =>
      some ([x15, x16, x17, x18, x19], s20)).bind fun q21 =>
  (pickV x14 (nthV q21.1 4) (.bool false)).bind fun x22 =>
  (guardR x22 true 5 q21.2 fun _ =>
      (faddrV 3 (.ptr ([] : Heap).length 0)).bind fun x23 =>
      (loadV q21.2 false 1 x23).bind fun x24 =>
      (faddrV 3 (.ptr s1.length 0)).bind fun x25 =>
      (loadV q21.2 false 1 x25).bind fun x26 =>
      callK C (Hw C X) q21.2 false (.fn 52 []) [x24, x26] fun x27 s28 =>
      some ([x23, x24, x25, x26, x27], s28)).bind fun q29 =>
  (pickV x22 (nthV q29.1 4) (.bool false)).bind fun x30 =>
  (guardR x30 true 5 q29.2 fun _ =>
      (faddrV 4 (.ptr ([] : Heap).length 0)).bind fun x31 =>
      (loadV q29.2 false 1 x31).bind fun x32 =>
      (faddrV 4 (.ptr s1.length 0)).bind fun x33 =>
      (loadV q29.2 false 1 x33).bind fun x34 =>
      callK C (Hw C X) q29.2 false (.fn 53 []) [x32, x34] fun x35 s36 =>
      some ([x31, x32, x33, x34, x35], s36)).bind fun q37 =>
  (pickV x30 (nthV q37.1 4) (.bool false)).bind fun x38 =>
  (guardR x38 true 5 q37.2 fun _ =>
      (faddrV 5 (.ptr ([] : Heap).length 0)).bind fun x39 =>
      (loadV q37.2 false 1 x39).bind fun x40 =>
      (faddrV 5 (.ptr s1.length 0)).bind fun x41 =>
      (loadV q37.2 false 1 x41).bind fun x42 =>
      callK C (Hw C X) q37.2 false (.fn 18 []) [x40, x42] fun x43 s44 =>
      some ([x39, x40, x41, x42, x43], s44)).bind fun q45 =>
  (pickV x38 (nthV q45.1 4) (.bool false)).bind fun x46 =>
  (guardR x46 true 5 q45.2 fun _ =>
      (faddrV 6 (.ptr ([] : Heap).length 0)).bind fun x47 =>
      (loadV q45.2 true 5 x47).bind fun x48 =>
      (faddrV 6 (.ptr s1.length 0)).bind fun x49 =>
      (loadV q45.2 true 5 x49).bind fun x50 =>
      callK C (Hw C X) q45.2 false (.fn 54 []) [x48, x50] fun x51 s52 =>
      some ([x47, x48, x49, x50, x51], s52)).bind fun q53 =>
  (pickV x46 (nthV q53.1 4) (.bool false)).bind fun x54 =>
  finVs p35.keepr [x54] q53.2) := (pure_of C35 (Nat.le_of_ble_eq_true rfl)).trans (by kernel_rfl)
/-! replay.Lemmas$1 -/
noncomputable def k36_1 (X : Ext) : Out → EnvF 23 → Heap → Option (List PV × Heap) := finI p36
noncomputable def J36_2 (X : Ext) (v2 v3 : PV) (σ : Heap) : Option (List PV × Heap) := cutK C (Hw C X) cJ36_2 (envOf 23 [(2, v2), (3, v3)]) σ (k36_1 X)
noncomputable def k36_2 (X : Ext) : Out → EnvF 23 → Heap → Option (List PV × Heap) := blockK 0 (k36_1 X)
noncomputable def L36_1 (X : Ext) (v2 v13 v14 v15 : PV) (σ : Heap) : Option (List PV × Heap) := loopK (Hw C X) cL36_1 (envOf 23 [(2, v2), (13, v13), (14, v14), (15, v15)]) σ (k36_2 X)
theorem F36 (X : Ext) (v0 v1 v2 : PV) (σ : Heap) : (Hw C X).imp 36 [v0, v1, v2] σ =
  ((boxV v0 σ).bind fun s1 =>
  (faddrV 0 (.ptr σ.length 0)).bind fun x2 =>
  (loadV s1 false 1 x2).bind fun x3 =>
  (evBin .eql .str x3 (.str [108, 101, 109, 109, 97])).bind fun x4 =>
  condK x4
    (fun _ => (loadV s1 false 1 v1).bind fun x5 =>
    (faddrV 1 (.ptr σ.length 0)).bind fun x6 =>
    (loadV s1 false 1 x6).bind fun x7 =>
    (evPrim [] s1 (.mapup .str (.cst x5) (.cst x7) (.cst (.bool true)))).bind fun q8 =>
    J36_2 X v2 (.ptr σ.length 0) q8.2)
    (fun _ => J36_2 X v2 (.ptr σ.length 0) s1)) := (imp_of C36 (Nat.le_of_ble_eq_true rfl)).trans (by kernel_rfl)
theorem J36_2_eq (X : Ext) (v2 v3 : PV) (σ : Heap) : J36_2 X v2 v3 σ =
  ((faddrV 11 v3).bind fun x1 =>
  (loadV σ false 1 x1).bind fun x2 =>
  (lenP σ .slice x2).bind fun x3 =>
  L36_1 X v2 x2 (.int .i64 (x3 : Nat)) (.int .i64 0) σ) := (cutK_eq _ _ _ _).trans (by kernel_rfl)
theorem L36_1_eq (X : Ext) (v2 v13 v14 v15 : PV) (σ : Heap) : L36_1 X v2 v13 v14 v15 σ =
  ((evBin .lss .int v15 v14).bind fun x1 =>
  condK x1
    (fun _ => (iaddrV σ 12 v13 v15).bind fun x2 =>
    (loadV σ true 12 x2).bind fun x3 =>
    (storeV (σ ++ [Go.PE.Obj.box [(.str []), (.str []), .nils, .nils, .nils, .nils, (.int .i64 0), .nils, .nils, .nils, .nils, .nils]]) 12 (.ptr σ.length 0) x3).bind fun s4 =>
    (loadV s4 false 1 v2).bind fun x5 =>
    (loadV s4 true 12 (.ptr σ.length 0)).bind fun x6 =>
    callK C (Hw C X) s4 false x5 [x6] fun x7 s8 =>
    (evBin .add .int v15 (.int .i64 1)).bind fun x9 =>
    L36_1 X v2 v13 v14 x9 s8)
    (fun _ => some (keepArgs σ p36.keepr [], σ))) := (loopK_keep [2, 13, 14, 15] bL36_1 _ _ _).trans (by kernel_rfl)
/-! isochroneref22.lemmas -/
noncomputable def k38_1 (X : Ext) : Out → EnvF 71 → Heap → Option (List PV) := finK p38
noncomputable def k38_2 (X : Ext) : Out → EnvF 71 → Heap → Option (List PV) := seqK (fun E σ => evCK C (Hw C X) (.keep [0, 3] cJ38_5) E σ (k38_1 X)) (k38_1 X)
noncomputable def k38_3 (X : Ext) : Out → EnvF 71 → Heap → Option (List PV) := seqK (fun E σ => evCK C (Hw C X) (.keep [3, 5, 6] cJ38_4) E σ (k38_2 X)) (k38_2 X)
noncomputable def k38_4 (X : Ext) : Out → EnvF 71 → Heap → Option (List PV) := blockK 0 (k38_3 X)
noncomputable def L38_2 (X : Ext) (v0 v3 v5 v6 v7 : PV) (σ : Heap) : Option (List PV) := loopK (Hw C X) cL38_2 (envOf 71 [(0, v0), (3, v3), (5, v5), (6, v6), (7, v7)]) σ (k38_4 X)
noncomputable def J38_5 (X : Ext) (v0 v3 : PV) (σ : Heap) : Option (List PV) := cutK C (Hw C X) cJ38_5 (envOf 71 [(0, v0), (3, v3)]) σ (k38_1 X)
noncomputable def k38_5 (X : Ext) : Out → EnvF 71 → Heap → Option (List PV) := roundK C X cL38_2 (k38_4 X)
noncomputable def k38_6 (X : Ext) : Out → EnvF 71 → Heap → Option (List PV) := seqK (fun E σ => evCK C (Hw C X) (.ops p38_11) E σ (k38_5 X)) (k38_5 X)
noncomputable def k38_7 (X : Ext) : Out → EnvF 71 → Heap → Option (List PV) := blockK 1 (k38_6 X)
noncomputable def J38_3 (X : Ext) (v0 v3 v5 v6 v7 : PV) (σ : Heap) : Option (List PV) := cutK C (Hw C X) cJ38_3 (envOf 71 [(0, v0), (3, v3), (5, v5), (6, v6), (7, v7)]) σ (k38_7 X)
noncomputable def J38_4 (X : Ext) (v3 v5 v6 : PV) (σ : Heap) : Option (List PV) := cutK C (Hw C X) cJ38_4 (envOf 71 [(3, v3), (5, v5), (6, v6)]) σ (k38_2 X)
noncomputable def k38_8 (X : Ext) : Out → EnvF 71 → Heap → Option (List PV) := seqK (fun E σ => evCK C (Hw C X) (.seq (.ops p38_21) .ret) E σ (k38_1 X)) (k38_1 X)
noncomputable def k38_9 (X : Ext) : Out → EnvF 71 → Heap → Option (List PV) := blockK 2 (k38_8 X)
noncomputable def L38_1 (X : Ext) (v0 v3 v8 : PV) (σ : Heap) : Option (List PV) := loopK (Hw C X) cL38_1 (envOf 71 [(0, v0), (3, v3), (8, v8)]) σ (k38_9 X)
theorem F38 (X : Ext) (v0 v1 : PV) : (Hw C X).pure 38 [v0, v1] =
  ((boxV v1 ([] : Heap)).bind fun s1 =>
  (faddrV 0 (.ptr ([] : Heap).length 0)).bind fun x2 =>
  (loadV s1 false 1 x2).bind fun x3 =>
  (evBin .eql .str x3 (.str [108, 101, 109, 109, 97])).bind fun x4 =>
  condK x4
    (fun _ => L38_2 X v0 (.ptr ([] : Heap).length 0) .nils (.bool false) (.int .i64 0) s1)
    (fun _ => J38_5 X v0 (.ptr ([] : Heap).length 0) s1)) := (pure_of C38 (Nat.le_of_ble_eq_true rfl)).trans (by kernel_rfl)
theorem L38_2_eq (X : Ext) (v0 v3 v5 v6 v7 : PV) (σ : Heap) : L38_2 X v0 v3 v5 v6 v7 σ =
  ((lenP σ .slice v0).bind fun x1 =>
  (evBin .lss .int v7 (.int .i64 (x1 : Nat))).bind fun x2 =>
  condK x2
    (fun _ => (evUn .not v6).bind fun x3 =>
    (guardR x3 true 7 σ fun _ =>
        (iaddrV σ 1 v0 v7).bind fun x4 =>
        (loadV σ false 1 x4).bind fun x5 =>
        (faddrV 1 v3).bind fun x6 =>
        (loadV σ false 1 x6).bind fun x7 =>
        (evBin .geq .str x5 x7).bind fun x8 =>
        some ([v0, v7, x4, x5, x6, x7, x8], σ)).bind fun q9 =>
    (pickV x3 (nthV q9.1 6) (.bool false)).bind fun x10 =>
    condK x10
      (fun _ => (faddrV 1 v3).bind fun x11 =>
      (loadV q9.2 false 1 x11).bind fun x12 =>
      (evPrim [] q9.2 (.bslice 1 [none] [(.str [])] 1 [(0, (.cst x12))])).bind fun q13 =>
      (appendP 9 1 16 q13.2 v5 q13.1).bind fun q14 =>
      J38_3 X v0 v3 q14.1 (.bool true) v7 q14.2)
      (fun _ => J38_3 X v0 v3 v5 v6 v7 q9.2))
    (fun _ => J38_4 X v3 v5 v6 σ)) := (loopK_keep [0, 3, 5, 6, 7] bL38_2 _ _ _).trans (by kernel_rfl)
theorem J38_5_eq (X : Ext) (v0 v3 : PV) (σ : Heap) : J38_5 X v0 v3 σ =
  (L38_1 X v0 v3 (.int .i64 0) σ) := (cutK_eq _ _ _ _).trans (by kernel_rfl)
theorem J38_3_eq (X : Ext) (v0 v3 v5 v6 v7 : PV) (σ : Heap) : J38_3 X v0 v3 v5 v6 v7 σ =
  ((iaddrV σ 1 v0 v7).bind fun x1 =>
  (loadV σ false 1 x1).bind fun x2 =>
  (faddrV 1 v3).bind fun x3 =>
  (loadV σ false 1 x3).bind fun x4 =>
  (evBin .neq .str x2 x4).bind fun x5 =>
  condK x5
    (fun _ => (iaddrV σ 1 v0 v7).bind fun x6 =>
    (loadV σ false 1 x6).bind fun x7 =>
    (evPrim [] σ (.bslice 1 [none] [(.str [])] 1 [(0, (.cst x7))])).bind fun q8 =>
    (appendP 9 1 16 q8.2 v5 q8.1).bind fun q9 =>
    (evBin .add .int v7 (.int .i64 1)).bind fun x10 =>
    L38_2 X v0 v3 q9.1 v6 x10 q9.2)
    (fun _ => (evBin .add .int v7 (.int .i64 1)).bind fun x11 =>
    L38_2 X v0 v3 v5 v6 x11 σ)) := (cutK_eq _ _ _ _).trans (by kernel_rfl)
theorem J38_4_eq (X : Ext) (v3 v5 v6 : PV) (σ : Heap) : J38_4 X v3 v5 v6 σ =
  ((evUn .not v6).bind fun x1 =>
  condK x1
    (fun _ => (faddrV 1 v3).bind fun x2 =>
    (loadV σ false 1 x2).bind fun x3 =>
    (evPrim [] σ (.bslice 1 [none] [(.str [])] 1 [(0, (.cst x3))])).bind fun q4 =>
    (appendP 9 1 16 q4.2 v5 q4.1).bind fun q5 =>
    J38_5 X q5.1 v3 q5.2)
    (fun _ => J38_5 X v5 v3 σ)) := (cutK_eq _ _ _ _).trans (by kernel_rfl)
theorem L38_1_eq (X : Ext) (v0 v3 v8 : PV) (σ : Heap) : L38_1 X v0 v3 v8 σ =
  ((faddrV 11 v3).bind fun x1 =>
  (loadV σ false 1 x1).bind fun x2 =>
  (lenP σ .slice x2).bind fun x3 =>
  (evBin .lss .int v8 (.int .i64 (x3 : Nat))).bind fun x4 =>
  condK x4
    (fun _ => (faddrV 11 v3).bind fun x5 =>
    (loadV σ false 1 x5).bind fun x6 =>
    (iaddrV σ 12 x6 v8).bind fun x7 =>
    (loadV σ true 12 x7).bind fun x8 =>
    callK C (Hw C X) σ false (.fn 38 []) [v0, x8] fun x9 s10 =>
    (evBin .add .int v8 (.int .i64 1)).bind fun x11 =>
    L38_1 X x9 v3 x11 s10)
    (fun _ => finVs p38.keepr [v0] σ)) := (loopK_keep [0, 3, 8] bL38_1 _ _ _).trans (by kernel_rfl)
/-! isochronelaw22.terms -/
noncomputable def k39_1 (X : Ext) : Out → EnvF 60 → Heap → Option (List PV) := finK p39
noncomputable def k39_2 (X : Ext) : Out → EnvF 60 → Heap → Option (List PV) := seqK (fun E σ => evCK C (Hw C X) (.seq (.ops p39_12) .ret) E σ (k39_1 X)) (k39_1 X)
noncomputable def k39_3 (X : Ext) : Out → EnvF 60 → Heap → Option (List PV) := blockK 0 (k39_2 X)
noncomputable def L39_1 (X : Ext) (v1 v3 v4 : PV) (σ : Heap) : Option (List PV) := loopK (Hw C X) cL39_1 (envOf 60 [(1, v1), (3, v3), (4, v4)]) σ (k39_3 X)
noncomputable def k39_4 (X : Ext) : Out → EnvF 60 → Heap → Option (List PV) := roundK C X cL39_1 (k39_3 X)
noncomputable def k39_5 (X : Ext) : Out → EnvF 60 → Heap → Option (List PV) := seqK (fun E σ => evCK C (Hw C X) (.ops p39_10) E σ (k39_4 X)) (k39_4 X)
noncomputable def k39_6 (X : Ext) : Out → EnvF 60 → Heap → Option (List PV) := blockK 1 (k39_5 X)
noncomputable def k39_7 (X : Ext) : Out → EnvF 60 → Heap → Option (List PV) := blockK 2 (k39_6 X)
noncomputable def L39_2 (X : Ext) (v1 v3 v4 v5 : PV) (σ : Heap) : Option (List PV) := loopK (Hw C X) cL39_2 (envOf 60 [(1, v1), (3, v3), (4, v4), (5, v5)]) σ (k39_7 X)
theorem F39 (X : Ext) (v0 : PV) : (Hw C X).pure 39 [v0] =
  ((boxV v0 ([] : Heap)).bind fun s1 =>
  L39_1 X (.ptr ([] : Heap).length 0) (.int .i64 0) (.int .i64 0) s1) := (pure_of C39 (Nat.le_of_ble_eq_true rfl)).trans (by kernel_rfl)
theorem L39_1_eq (X : Ext) (v1 v3 v4 : PV) (σ : Heap) : L39_1 X v1 v3 v4 σ =
  ((faddrV 1 v1).bind fun x1 =>
  (loadV σ false 1 x1).bind fun x2 =>
  (lenP σ .slice x2).bind fun x3 =>
  (evBin .lss .int v4 (.int .i64 (x3 : Nat))).bind fun x4 =>
  condK x4
    (fun _ => (faddrV 1 v1).bind fun x5 =>
    (loadV σ false 1 x5).bind fun x6 =>
    (iaddrV σ 4 x6 v4).bind fun x7 =>
    (faddrV 1 x7).bind fun x8 =>
    (faddrV 1 x8).bind fun x9 =>
    (loadV σ false 1 x9).bind fun x10 =>
    (lenP σ .slice x10).bind fun x11 =>
    (faddrV 1 v1).bind fun x12 =>
    (loadV σ false 1 x12).bind fun x13 =>
    (iaddrV σ 4 x13 v4).bind fun x14 =>
    (faddrV 1 x14).bind fun x15 =>
    (faddrV 2 x15).bind fun x16 =>
    (loadV σ false 1 x16).bind fun x17 =>
    (lenP σ .slice x17).bind fun x18 =>
    (evBin .add .int (.int .i64 (x11 : Nat)) (.int .i64 (x18 : Nat))).bind fun x19 =>
    (evBin .mul .int (.int .i64 10) x19).bind fun x20 =>
    (evBin .add .int (.int .i64 40) x20).bind fun x21 =>
    (evBin .add .int v3 x21).bind fun x22 =>
    L39_2 X v1 x22 v4 (.int .i64 0) σ)
    (fun _ => finVs p39.keepr [v3] σ)) := (loopK_keep [1, 3, 4] bL39_1 _ _ _).trans (by kernel_rfl)
theorem L39_2_eq (X : Ext) (v1 v3 v4 v5 : PV) (σ : Heap) : L39_2 X v1 v3 v4 v5 σ =
  ((faddrV 1 v1).bind fun x1 =>
  (loadV σ false 1 x1).bind fun x2 =>
  (iaddrV σ 4 x2 v4).bind fun x3 =>
  (faddrV 0 x3).bind fun x4 =>
  (loadV σ false 1 x4).bind fun x5 =>
  (lenP σ .slice x5).bind fun x6 =>
  (evBin .lss .int v5 (.int .i64 (x6 : Nat))).bind fun x7 =>
  condK x7
    (fun _ => (faddrV 1 v1).bind fun x8 =>
    (loadV σ false 1 x8).bind fun x9 =>
    (iaddrV σ 4 x9 v4).bind fun x10 =>
    (faddrV 0 x10).bind fun x11 =>
    (loadV σ false 1 x11).bind fun x12 =>
    (iaddrV σ 1 x12 v5).bind fun x13 =>
    (loadV σ false 1 x13).bind fun x14 =>
    (evPrim [] σ (.mx [(.cst (.int .i64 0)), (.cst x14)])).bind fun q15 =>
    (evPrim [] q15.2 (.mn [(.cst (.int .i64 100)), (.cst q15.1)])).bind fun q16 =>
    (evBin .mul .int (.int .i64 4) q16.1).bind fun x17 =>
    (evBin .add .int v3 x17).bind fun x18 =>
    (evBin .add .int v5 (.int .i64 1)).bind fun x19 =>
    L39_2 X v1 x18 v4 x19 q16.2)
    (fun _ => (evBin .add .int v4 (.int .i64 1)).bind fun x20 =>
    L39_1 X v1 v3 x20 σ)) := (loopK_keep [1, 3, 4, 5] bL39_2 _ _ _).trans (by kernel_rfl)
/-! isochroneref20.Calm -/
noncomputable def k40_1 (X : Ext) : Out → EnvF 41 → Heap → Option (List PV) := finK p40
noncomputable def k40_2 (X : Ext) : Out → EnvF 41 → Heap → Option (List PV) := seqK (fun E σ => evCK C (Hw C X) (.seq (.ops p40_9) .ret) E σ (k40_1 X)) (k40_1 X)
noncomputable def k40_3 (X : Ext) : Out → EnvF 41 → Heap → Option (List PV) := blockK 0 (k40_2 X)
noncomputable def L40_1 (X : Ext) (v1 v3 : PV) (σ : Heap) : Option (List PV) := loopK (Hw C X) cL40_1 (envOf 41 [(1, v1), (3, v3)]) σ (k40_3 X)
theorem F40 (X : Ext) (v0 : PV) : (Hw C X).pure 40 [v0] =
  ((boxV v0 ([] : Heap)).bind fun s1 =>
  (faddrV 2 (.ptr ([] : Heap).length 0)).bind fun x2 =>
  (faddrV 1 x2).bind fun x3 =>
  (loadV s1 false 1 x3).bind fun x4 =>
  (lenP s1 .slice x4).bind fun x5 =>
  (evBin .gtr .int (.int .i64 (x5 : Nat)) (.int .i64 2)).bind fun x6 =>
  (guardR x6 false 5 s1 fun _ =>
      (faddrV 2 (.ptr ([] : Heap).length 0)).bind fun x7 =>
      (faddrV 2 x7).bind fun x8 =>
      (loadV s1 false 1 x8).bind fun x9 =>
      (lenP s1 .slice x9).bind fun x10 =>
      (evBin .gtr .int (.int .i64 (x10 : Nat)) (.int .i64 2)).bind fun x11 =>
      some ([x7, x8, x9, (.int .i64 (x10 : Nat)), x11], s1)).bind fun q12 =>
  (pickV x6 (.bool true) (nthV q12.1 4)).bind fun x13 =>
  (guardR x13 false 5 q12.2 fun _ =>
      (faddrV 0 (.ptr ([] : Heap).length 0)).bind fun x14 =>
      (loadV q12.2 false 1 x14).bind fun x15 =>
      callK C (Hw C X) q12.2 false (.fn 56 []) [x15] fun x16 s17 =>
      (evBin .eql .int x16 (.int .i64 1)).bind fun x18 =>
      some ([x14, x15, x16, x18, x18], s17)).bind fun q19 =>
  (guardR (nthV q19.1 4) true 3 q19.2 fun _ =>
      (loadV q19.2 true 6 (.ptr ([] : Heap).length 0)).bind fun x20 =>
      callK C (Hw C X) q19.2 false (.fn 57 []) [x20] fun x21 s22 =>
      (evBin .gtr .int x21 (.int .i64 12)).bind fun x23 =>
      some ([x20, x21, x23], s22)).bind fun q24 =>
  (guardR x13 false 1 q24.2 fun _ =>
      (pickV (nthV q19.1 4) (nthV q24.1 2) (.bool false)).bind fun x25 =>
      some ([x25], q24.2)).bind fun q26 =>
  (pickV x13 (.bool true) (nthV q26.1 0)).bind fun x27 =>
  condK x27
    (fun _ => finVs p40.keepr [(.bool false)] q26.2)
    (fun _ => L40_1 X (.ptr ([] : Heap).length 0) (.int .i64 0) q26.2)) := (pure_of C40 (Nat.le_of_ble_eq_true rfl)).trans (by kernel_rfl)
theorem L40_1_eq (X : Ext) (v1 v3 : PV) (σ : Heap) : L40_1 X v1 v3 σ =
  ((faddrV 5 v1).bind fun x1 =>
  (loadV σ false 1 x1).bind fun x2 =>
  (lenP σ .slice x2).bind fun x3 =>
  (evBin .lss .int v3 (.int .i64 (x3 : Nat))).bind fun x4 =>
  condK x4
    (fun _ => (faddrV 5 v1).bind fun x5 =>
    (loadV σ false 1 x5).bind fun x6 =>
    (iaddrV σ 6 x6 v3).bind fun x7 =>
    (loadV σ true 6 x7).bind fun x8 =>
    callK C (Hw C X) σ false (.fn 40 []) [x8] fun x9 s10 =>
    (evUn .not x9).bind fun x11 =>
    condK x11
      (fun _ => finVs p40.keepr [(.bool false)] s10)
      (fun _ => (evBin .add .int v3 (.int .i64 1)).bind fun x12 =>
      L40_1 X v1 x12 s10))
    (fun _ => finVs p40.keepr [(.bool true)] σ)) := (loopK_keep [1, 3] bL40_1 _ _ _).trans (by kernel_rfl)
/-! proof.within -/
noncomputable def k41_1 (X : Ext) : Out → EnvF 36 → Heap → Option (List PV × Heap) := finI p41
noncomputable def k41_2 (X : Ext) : Out → EnvF 36 → Heap → Option (List PV × Heap) := seqK (fun E σ => evCK C (Hw C X) (.seq (.ops p41_11) .ret) E σ (k41_1 X)) (k41_1 X)
noncomputable def k41_3 (X : Ext) : Out → EnvF 36 → Heap → Option (List PV × Heap) := blockK 0 (k41_2 X)
noncomputable def L41_1 (X : Ext) (v1 v2 v23 v24 v25 : PV) (σ : Heap) : Option (List PV × Heap) := loopK (Hw C X) cL41_1 (envOf 36 [(1, v1), (2, v2), (23, v23), (24, v24), (25, v25)]) σ (k41_3 X)
theorem F41 (X : Ext) (v0 v1 v2 : PV) (σ : Heap) : (Hw C X).imp 41 [v0, v1, v2] σ =
  ((boxV v0 σ).bind fun s1 =>
  (evPrim [] s1 (.nilchk (.cst v1))).bind fun q2 =>
  (loadV q2.2 false 1 q2.1).bind fun x3 =>
  (evBin .sub .int x3 (.int .i64 1)).bind fun x4 =>
  (evPrim [] q2.2 (.nilchk (.cst v1))).bind fun q5 =>
  (storeV q5.2 1 q5.1 x4).bind fun s6 =>
  (evPrim [] s6 (.nilchk (.cst v1))).bind fun q7 =>
  (loadV q7.2 false 1 q7.1).bind fun x8 =>
  (evBin .lss .int x8 (.int .i64 0)).bind fun x9 =>
  (guardR x9 false 2 q7.2 fun _ =>
      (evBin .leq .int v2 (.int .i64 0)).bind fun x10 =>
      some ([v2, x10], q7.2)).bind fun q11 =>
  (pickV x9 (.bool true) (nthV q11.1 1)).bind fun x12 =>
  condK x12
    (fun _ => some (keepArgs q11.2 p41.keepr [(.bool false)], q11.2))
    (fun _ => (faddrV 11 (.ptr σ.length 0)).bind fun x13 =>
    (loadV q11.2 false 1 x13).bind fun x14 =>
    (lenP q11.2 .slice x14).bind fun x15 =>
    L41_1 X v1 v2 x14 (.int .i64 (x15 : Nat)) (.int .i64 0) q11.2)) := (imp_of C41 (Nat.le_of_ble_eq_true rfl)).trans (by kernel_rfl)
theorem L41_1_eq (X : Ext) (v1 v2 v23 v24 v25 : PV) (σ : Heap) : L41_1 X v1 v2 v23 v24 v25 σ =
  ((evBin .lss .int v25 v24).bind fun x1 =>
  condK x1
    (fun _ => (iaddrV σ 12 v23 v25).bind fun x2 =>
    (loadV σ true 12 x2).bind fun x3 =>
    (storeV (σ ++ [Go.PE.Obj.box [(.str []), (.str []), .nils, .nils, .nils, .nils, (.int .i64 0), .nils, .nils, .nils, .nils, .nils]]) 12 (.ptr σ.length 0) x3).bind fun s4 =>
    (loadV s4 true 12 (.ptr σ.length 0)).bind fun x5 =>
    (evBin .sub .int v2 (.int .i64 1)).bind fun x6 =>
    callK C (Hw C X) s4 false (.fn 41 []) [x5, v1, x6] fun x7 s8 =>
    (evUn .not x7).bind fun x9 =>
    condK x9
      (fun _ => some (keepArgs s8 p41.keepr [(.bool false)], s8))
      (fun _ => (evBin .add .int v25 (.int .i64 1)).bind fun x10 =>
      L41_1 X v1 v2 v23 v24 x10 s8))
    (fun _ => some (keepArgs σ p41.keepr [(.bool true)], σ))) := (loopK_keep [1, 2, 23, 24, 25] bL41_1 _ _ _).trans (by kernel_rfl)
/-! proof.cert -/
noncomputable def k42_1 (X : Ext) : Out → EnvF 83 → Heap → Option (List PV) := finK p42
noncomputable def k42_2 (X : Ext) : Out → EnvF 83 → Heap → Option (List PV) := seqK (fun E σ => evCK C (Hw C X) (.keep [1, 2, 3] cJ42_8) E σ (k42_1 X)) (k42_1 X)
noncomputable def k42_3 (X : Ext) : Out → EnvF 83 → Heap → Option (List PV) := blockK 0 (k42_2 X)
noncomputable def L42_7 (X : Ext) (v1 v2 v3 v17 v18 v19 : PV) (σ : Heap) : Option (List PV) := loopK (Hw C X) cL42_7 (envOf 83 [(1, v1), (2, v2), (3, v3), (17, v17), (18, v18), (19, v19)]) σ (k42_3 X)
noncomputable def J42_8 (X : Ext) (v1 v2 v3 : PV) (σ : Heap) : Option (List PV) := cutK C (Hw C X) cJ42_8 (envOf 83 [(1, v1), (2, v2), (3, v3)]) σ (k42_1 X)
noncomputable def k42_4 (X : Ext) : Out → EnvF 83 → Heap → Option (List PV) := seqK (fun E σ => evCK C (Hw C X) (.keep [1, 2, 3] cJ42_6) E σ (k42_1 X)) (k42_1 X)
noncomputable def k42_5 (X : Ext) : Out → EnvF 83 → Heap → Option (List PV) := blockK 2 (k42_4 X)
noncomputable def L42_5 (X : Ext) (v1 v2 v3 v32 v33 v34 : PV) (σ : Heap) : Option (List PV) := loopK (Hw C X) cL42_5 (envOf 83 [(1, v1), (2, v2), (3, v3), (32, v32), (33, v33), (34, v34)]) σ (k42_5 X)
noncomputable def J42_6 (X : Ext) (v1 v2 v3 : PV) (σ : Heap) : Option (List PV) := cutK C (Hw C X) cJ42_6 (envOf 83 [(1, v1), (2, v2), (3, v3)]) σ (k42_1 X)
noncomputable def k42_6 (X : Ext) : Out → EnvF 83 → Heap → Option (List PV) := seqK (fun E σ => evCK C (Hw C X) (.keep [1, 2, 3] cJ42_4) E σ (k42_1 X)) (k42_1 X)
noncomputable def k42_7 (X : Ext) : Out → EnvF 83 → Heap → Option (List PV) := blockK 4 (k42_6 X)
noncomputable def L42_3 (X : Ext) (v1 v2 v3 v47 v48 v49 : PV) (σ : Heap) : Option (List PV) := loopK (Hw C X) cL42_3 (envOf 83 [(1, v1), (2, v2), (3, v3), (47, v47), (48, v48), (49, v49)]) σ (k42_7 X)
noncomputable def J42_4 (X : Ext) (v1 v2 v3 : PV) (σ : Heap) : Option (List PV) := cutK C (Hw C X) cJ42_4 (envOf 83 [(1, v1), (2, v2), (3, v3)]) σ (k42_1 X)
noncomputable def k42_8 (X : Ext) : Out → EnvF 83 → Heap → Option (List PV) := seqK (fun E σ => evCK C (Hw C X) (.keep [2, 3] cJ42_2) E σ (k42_1 X)) (k42_1 X)
noncomputable def k42_9 (X : Ext) : Out → EnvF 83 → Heap → Option (List PV) := blockK 6 (k42_8 X)
noncomputable def L42_1 (X : Ext) (v2 v3 v67 v68 v69 : PV) (σ : Heap) : Option (List PV) := loopK (Hw C X) cL42_1 (envOf 83 [(2, v2), (3, v3), (67, v67), (68, v68), (69, v69)]) σ (k42_9 X)
noncomputable def J42_2 (X : Ext) (v2 v3 : PV) (σ : Heap) : Option (List PV) := cutK C (Hw C X) cJ42_2 (envOf 83 [(2, v2), (3, v3)]) σ (k42_1 X)
theorem F42 (X : Ext) (v0 : PV) : (Hw C X).pure 42 [v0] =
  ((boxV v0 ([] : Heap)).bind fun s1 =>
  (faddrV 0 (.ptr ([] : Heap).length 0)).bind fun x2 =>
  (loadV (s1 ++ [Go.PE.Obj.box [(.int .i64 0), .nils, .nils, .nils, .nils]]) false 1 x2).bind fun x3 =>
  (evPrim [] (s1 ++ [Go.PE.Obj.box [(.int .i64 0), .nils, .nils, .nils, .nils]]) (.build [(.int .i64 0), .nils, .nils, .nils, .nils] [(0, 1, (.cst x3))])).bind fun q4 =>
  (storeV (q4.2 ++ [Go.PE.Obj.box [(.int .i64 0), .nils, .nils, .nils, .nils]]) 5 (.ptr q4.2.length 0) q4.1).bind fun s5 =>
  (faddrV 1 (.ptr ([] : Heap).length 0)).bind fun x6 =>
  (loadV s5 false 1 x6).bind fun x7 =>
  (lenP s5 .slice x7).bind fun x8 =>
  L42_7 X (.ptr ([] : Heap).length 0) (.ptr s1.length 0) (.ptr q4.2.length 0) x7 (.int .i64 (x8 : Nat)) (.int .i64 0) s5) := (pure_of C42 (Nat.le_of_ble_eq_true rfl)).trans (by kernel_rfl)
theorem L42_7_eq (X : Ext) (v1 v2 v3 v17 v18 v19 : PV) (σ : Heap) : L42_7 X v1 v2 v3 v17 v18 v19 σ =
  ((evBin .lss .int v19 v18).bind fun x1 =>
  condK x1
    (fun _ => (iaddrV σ 3 v17 v19).bind fun x2 =>
    (loadV σ true 3 x2).bind fun x3 =>
    (storeV (σ ++ [Go.PE.Obj.box [(.bool false), .nils, .nils]]) 3 (.ptr σ.length 0) x3).bind fun s4 =>
    (faddrV 1 v3).bind fun x5 =>
    (loadV s4 false 1 x5).bind fun x6 =>
    (loadV s4 true 3 (.ptr σ.length 0)).bind fun x7 =>
    callK C (Hw C X) s4 true (.fn 58 []) [x7] fun x8 s9 =>
    (evPrim [] s9 (.bslice 3 [none, (some 1), (some 1)] [(.bool false), .nils, .nils] 1 [(0, (.cst x8))])).bind fun q10 =>
    (appendP 55 3 56 q10.2 x6 q10.1).bind fun q11 =>
    (faddrV 1 v3).bind fun x12 =>
    (storeV q11.2 1 x12 q11.1).bind fun s13 =>
    (evBin .add .int v19 (.int .i64 1)).bind fun x14 =>
    L42_7 X v1 v2 v3 v17 v18 x14 s13)
    (fun _ => J42_8 X v1 v2 v3 σ)) := (loopK_keep [1, 2, 3, 17, 18, 19] bL42_7 _ _ _).trans (by kernel_rfl)
theorem J42_8_eq (X : Ext) (v1 v2 v3 : PV) (σ : Heap) : J42_8 X v1 v2 v3 σ =
  ((faddrV 2 v1).bind fun x1 =>
  (loadV σ false 1 x1).bind fun x2 =>
  (lenP σ .slice x2).bind fun x3 =>
  L42_5 X v1 v2 v3 x2 (.int .i64 (x3 : Nat)) (.int .i64 0) σ) := (cutK_eq _ _ _ _).trans (by kernel_rfl)
theorem L42_5_eq (X : Ext) (v1 v2 v3 v32 v33 v34 : PV) (σ : Heap) : L42_5 X v1 v2 v3 v32 v33 v34 σ =
  ((evBin .lss .int v34 v33).bind fun x1 =>
  condK x1
    (fun _ => (iaddrV σ 2 v32 v34).bind fun x2 =>
    (loadV σ true 2 x2).bind fun x3 =>
    (storeV (σ ++ [Go.PE.Obj.box [(.int .i64 0), .nils]]) 2 (.ptr σ.length 0) x3).bind fun s4 =>
    (faddrV 2 v3).bind fun x5 =>
    (loadV s4 false 1 x5).bind fun x6 =>
    (loadV s4 true 2 (.ptr σ.length 0)).bind fun x7 =>
    callK C (Hw C X) s4 true (.fn 59 []) [x7] fun x8 s9 =>
    (evPrim [] s9 (.bslice 2 [none, (some 4)] [(.int .i64 0), .nils] 1 [(0, (.cst x8))])).bind fun q10 =>
    (appendP 78 2 32 q10.2 x6 q10.1).bind fun q11 =>
    (faddrV 2 v3).bind fun x12 =>
    (storeV q11.2 1 x12 q11.1).bind fun s13 =>
    (evBin .add .int v34 (.int .i64 1)).bind fun x14 =>
    L42_5 X v1 v2 v3 v32 v33 x14 s13)
    (fun _ => J42_6 X v1 v2 v3 σ)) := (loopK_keep [1, 2, 3, 32, 33, 34] bL42_5 _ _ _).trans (by kernel_rfl)
theorem J42_6_eq (X : Ext) (v1 v2 v3 : PV) (σ : Heap) : J42_6 X v1 v2 v3 σ =
  ((faddrV 3 v1).bind fun x1 =>
  (loadV σ false 1 x1).bind fun x2 =>
  (lenP σ .slice x2).bind fun x3 =>
  L42_3 X v1 v2 v3 x2 (.int .i64 (x3 : Nat)) (.int .i64 0) σ) := (cutK_eq _ _ _ _).trans (by kernel_rfl)
theorem L42_3_eq (X : Ext) (v1 v2 v3 v47 v48 v49 : PV) (σ : Heap) : L42_3 X v1 v2 v3 v47 v48 v49 σ =
  ((evBin .lss .int v49 v48).bind fun x1 =>
  condK x1
    (fun _ => (iaddrV σ 5 v47 v49).bind fun x2 =>
    (loadV σ true 5 x2).bind fun x3 =>
    (storeV (σ ++ [Go.PE.Obj.box [(.bool false), .nils, .nils, (.int .i64 0), .nils]]) 5 (.ptr σ.length 0) x3).bind fun s4 =>
    (faddrV 3 v3).bind fun x5 =>
    (loadV s4 false 1 x5).bind fun x6 =>
    (faddrV 0 (.ptr σ.length 0)).bind fun x7 =>
    (loadV s4 true 3 x7).bind fun x8 =>
    callK C (Hw C X) s4 true (.fn 58 []) [x8] fun x9 s10 =>
    (faddrV 3 (.ptr σ.length 0)).bind fun x11 =>
    (loadV s10 true 2 x11).bind fun x12 =>
    callK C (Hw C X) s10 true (.fn 59 []) [x12] fun x13 s14 =>
    (evPrim [] s14 (.build [(.bool false), .nils, .nils, (.int .i64 0), .nils] [(0, 3, (.cst x9)), (3, 2, (.cst x13))])).bind fun q15 =>
    (evPrim [] q15.2 (.bslice 5 [none, (some 1), (some 1), none, (some 4)] [(.bool false), .nils, .nils, (.int .i64 0), .nils] 1 [(0, (.cst q15.1))])).bind fun q16 =>
    (appendP 80 5 88 q16.2 x6 q16.1).bind fun q17 =>
    (faddrV 3 v3).bind fun x18 =>
    (storeV q17.2 1 x18 q17.1).bind fun s19 =>
    (evBin .add .int v49 (.int .i64 1)).bind fun x20 =>
    L42_3 X v1 v2 v3 v47 v48 x20 s19)
    (fun _ => J42_4 X v1 v2 v3 σ)) := (loopK_keep [1, 2, 3, 47, 48, 49] bL42_3 _ _ _).trans (by kernel_rfl)
theorem J42_4_eq (X : Ext) (v1 v2 v3 : PV) (σ : Heap) : J42_4 X v1 v2 v3 σ =
  ((faddrV 4 v1).bind fun x1 =>
  (loadV σ false 1 x1).bind fun x2 =>
  (lenP σ .slice x2).bind fun x3 =>
  L42_1 X v2 v3 x2 (.int .i64 (x3 : Nat)) (.int .i64 0) σ) := (cutK_eq _ _ _ _).trans (by kernel_rfl)
theorem L42_1_eq (X : Ext) (v2 v3 v67 v68 v69 : PV) (σ : Heap) : L42_1 X v2 v3 v67 v68 v69 σ =
  ((evBin .lss .int v69 v68).bind fun x1 =>
  condK x1
    (fun _ => (iaddrV σ 5 v67 v69).bind fun x2 =>
    (loadV σ true 5 x2).bind fun x3 =>
    (storeV (σ ++ [Go.PE.Obj.box [(.int .i64 0), .nils, .nils, .nils, .nils]]) 5 (.ptr σ.length 0) x3).bind fun s4 =>
    (loadV s4 true 5 (.ptr σ.length 0)).bind fun x5 =>
    callK C (Hw C X) s4 false (.fn 42 []) [x5] fun x6 s7 =>
    (storeV (s7 ++ [Go.PE.Obj.box [(.int .i64 0), .nils, .nils, .nils, .nils]]) 5 (.ptr s7.length 0) x6).bind fun s8 =>
    (faddrV 4 v3).bind fun x9 =>
    (loadV s8 false 1 x9).bind fun x10 =>
    (loadV s8 true 5 (.ptr s7.length 0)).bind fun x11 =>
    (evPrim [] s8 (.bslice 5 [none, (some 3), (some 2), (some 5), (some 5)] [(.int .i64 0), .nils, .nils, .nils, .nils] 1 [(0, (.cst x11))])).bind fun q12 =>
    (appendP 31 5 104 q12.2 x10 q12.1).bind fun q13 =>
    (faddrV 4 v3).bind fun x14 =>
    (storeV q13.2 1 x14 q13.1).bind fun s15 =>
    (evBin .add .int v69 (.int .i64 1)).bind fun x16 =>
    L42_1 X v2 v3 v67 v68 x16 s15)
    (fun _ => J42_2 X v2 v3 σ)) := (loopK_keep [2, 3, 67, 68, 69] bL42_1 _ _ _).trans (by kernel_rfl)
theorem J42_2_eq (X : Ext) (v2 v3 : PV) (σ : Heap) : J42_2 X v2 v3 σ =
  ((loadV σ true 5 v3).bind fun x1 =>
  (storeV σ 5 v2 x1).bind fun s2 =>
  (loadV s2 true 5 v2).bind fun x3 => finVs p42.keepr [x3] s2) := (cutK_eq _ _ _ _).trans (by kernel_rfl)
/-! tree.Copy -/
noncomputable def k43_1 (X : Ext) : Out → EnvF 55 → Heap → Option (List PV) := finK p43
noncomputable def J43_4 (X : Ext) (v1 v2 v3 : PV) (σ : Heap) : Option (List PV) := cutK C (Hw C X) cJ43_4 (envOf 55 [(1, v1), (2, v2), (3, v3)]) σ (k43_1 X)
noncomputable def J43_3 (X : Ext) (v1 v2 v3 : PV) (σ : Heap) : Option (List PV) := cutK C (Hw C X) cJ43_3 (envOf 55 [(1, v1), (2, v2), (3, v3)]) σ (k43_1 X)
noncomputable def k43_2 (X : Ext) : Out → EnvF 55 → Heap → Option (List PV) := seqK (fun E σ => evCK C (Hw C X) (.keep [2, 3] cJ43_2) E σ (k43_1 X)) (k43_1 X)
noncomputable def k43_3 (X : Ext) : Out → EnvF 55 → Heap → Option (List PV) := blockK 0 (k43_2 X)
noncomputable def L43_1 (X : Ext) (v2 v3 v39 v40 v41 : PV) (σ : Heap) : Option (List PV) := loopK (Hw C X) cL43_1 (envOf 55 [(2, v2), (3, v3), (39, v39), (40, v40), (41, v41)]) σ (k43_3 X)
noncomputable def J43_2 (X : Ext) (v2 v3 : PV) (σ : Heap) : Option (List PV) := cutK C (Hw C X) cJ43_2 (envOf 55 [(2, v2), (3, v3)]) σ (k43_1 X)
theorem F43 (X : Ext) (v0 : PV) : (Hw C X).pure 43 [v0] =
  ((boxV v0 ([] : Heap)).bind fun s1 =>
  (faddrV 0 (.ptr ([] : Heap).length 0)).bind fun x2 =>
  (loadV (s1 ++ [Go.PE.Obj.box [(.int .i64 0), (.str []), (.bool false), .nils, .nils, .nils]]) false 1 x2).bind fun x3 =>
  (faddrV 1 (.ptr ([] : Heap).length 0)).bind fun x4 =>
  (loadV (s1 ++ [Go.PE.Obj.box [(.int .i64 0), (.str []), (.bool false), .nils, .nils, .nils]]) false 1 x4).bind fun x5 =>
  (faddrV 2 (.ptr ([] : Heap).length 0)).bind fun x6 =>
  (faddrV 0 x6).bind fun x7 =>
  (loadV (s1 ++ [Go.PE.Obj.box [(.int .i64 0), (.str []), (.bool false), .nils, .nils, .nils]]) false 1 x7).bind fun x8 =>
  (evPrim [] (s1 ++ [Go.PE.Obj.box [(.int .i64 0), (.str []), (.bool false), .nils, .nils, .nils]]) (.build [(.bool false), .nils, .nils] [(0, 1, (.cst x8))])).bind fun q9 =>
  (evPrim [] q9.2 (.build [(.int .i64 0), (.str []), (.bool false), .nils, .nils, .nils] [(0, 1, (.cst x3)), (1, 1, (.cst x5)), (2, 3, (.cst q9.1))])).bind fun q10 =>
  (storeV (q10.2 ++ [Go.PE.Obj.box [(.int .i64 0), (.str []), (.bool false), .nils, .nils, .nils]]) 6 (.ptr q10.2.length 0) q10.1).bind fun s11 =>
  (faddrV 2 (.ptr ([] : Heap).length 0)).bind fun x12 =>
  (faddrV 1 x12).bind fun x13 =>
  (loadV s11 false 1 x13).bind fun x14 =>
  (lenP s11 .slice x14).bind fun x15 =>
  (evBin .gtr .int (.int .i64 (x15 : Nat)) (.int .i64 0)).bind fun x16 =>
  condK x16
    (fun _ => (faddrV 2 (.ptr ([] : Heap).length 0)).bind fun x17 =>
    (faddrV 1 x17).bind fun x18 =>
    (loadV s11 false 1 x18).bind fun x19 =>
    (evPrim [] s11 (.copy 1 4 (.cst x19))).bind fun q20 =>
    (faddrV 2 (.ptr q10.2.length 0)).bind fun x21 =>
    (faddrV 1 x21).bind fun x22 =>
    (storeV q20.2 1 x22 q20.1).bind fun s23 =>
    J43_4 X (.ptr ([] : Heap).length 0) (.ptr s1.length 0) (.ptr q10.2.length 0) s23)
    (fun _ => J43_4 X (.ptr ([] : Heap).length 0) (.ptr s1.length 0) (.ptr q10.2.length 0) s11)) := (pure_of C43 (Nat.le_of_ble_eq_true rfl)).trans (by kernel_rfl)
theorem J43_4_eq (X : Ext) (v1 v2 v3 : PV) (σ : Heap) : J43_4 X v1 v2 v3 σ =
  ((faddrV 2 v1).bind fun x1 =>
  (faddrV 2 x1).bind fun x2 =>
  (loadV σ false 1 x2).bind fun x3 =>
  (lenP σ .slice x3).bind fun x4 =>
  (evBin .gtr .int (.int .i64 (x4 : Nat)) (.int .i64 0)).bind fun x5 =>
  condK x5
    (fun _ => (faddrV 2 v1).bind fun x6 =>
    (faddrV 2 x6).bind fun x7 =>
    (loadV σ false 1 x7).bind fun x8 =>
    (evPrim [] σ (.copy 1 4 (.cst x8))).bind fun q9 =>
    (faddrV 2 v3).bind fun x10 =>
    (faddrV 2 x10).bind fun x11 =>
    (storeV q9.2 1 x11 q9.1).bind fun s12 =>
    J43_3 X v1 v2 v3 s12)
    (fun _ => J43_3 X v1 v2 v3 σ)) := (cutK_eq _ _ _ _).trans (by kernel_rfl)
theorem J43_3_eq (X : Ext) (v1 v2 v3 : PV) (σ : Heap) : J43_3 X v1 v2 v3 σ =
  ((faddrV 5 v1).bind fun x1 =>
  (loadV σ false 1 x1).bind fun x2 =>
  (lenP σ .slice x2).bind fun x3 =>
  L43_1 X v2 v3 x2 (.int .i64 (x3 : Nat)) (.int .i64 0) σ) := (cutK_eq _ _ _ _).trans (by kernel_rfl)
theorem L43_1_eq (X : Ext) (v2 v3 v39 v40 v41 : PV) (σ : Heap) : L43_1 X v2 v3 v39 v40 v41 σ =
  ((evBin .lss .int v41 v40).bind fun x1 =>
  condK x1
    (fun _ => (iaddrV σ 6 v39 v41).bind fun x2 =>
    (loadV σ true 6 x2).bind fun x3 =>
    (storeV (σ ++ [Go.PE.Obj.box [(.int .i64 0), (.str []), (.bool false), .nils, .nils, .nils]]) 6 (.ptr σ.length 0) x3).bind fun s4 =>
    (loadV s4 true 6 (.ptr σ.length 0)).bind fun x5 =>
    callK C (Hw C X) s4 false (.fn 43 []) [x5] fun x6 s7 =>
    (storeV (s7 ++ [Go.PE.Obj.box [(.int .i64 0), (.str []), (.bool false), .nils, .nils, .nils]]) 6 (.ptr s7.length 0) x6).bind fun s8 =>
    (faddrV 5 v3).bind fun x9 =>
    (loadV s8 false 1 x9).bind fun x10 =>
    (loadV s8 true 6 (.ptr s7.length 0)).bind fun x11 =>
    (evPrim [] s8 (.bslice 6 [none, none, none, (some 1), (some 1), (some 6)] [(.int .i64 0), (.str []), (.bool false), .nils, .nils, .nils] 1 [(0, (.cst x11))])).bind fun q12 =>
    (appendP 57 6 104 q12.2 x10 q12.1).bind fun q13 =>
    (faddrV 5 v3).bind fun x14 =>
    (storeV q13.2 1 x14 q13.1).bind fun s15 =>
    (evBin .add .int v41 (.int .i64 1)).bind fun x16 =>
    L43_1 X v2 v3 v39 v40 x16 s15)
    (fun _ => J43_2 X v2 v3 σ)) := (loopK_keep [2, 3, 39, 40, 41] bL43_1 _ _ _).trans (by kernel_rfl)
theorem J43_2_eq (X : Ext) (v2 v3 : PV) (σ : Heap) : J43_2 X v2 v3 σ =
  ((loadV σ true 6 v3).bind fun x1 =>
  (storeV σ 6 v2 x1).bind fun s2 =>
  (loadV s2 true 6 v2).bind fun x3 => finVs p43.keepr [x3] s2) := (cutK_eq _ _ _ _).trans (by kernel_rfl)
/-! replay.nodes -/
noncomputable def k45_1 (X : Ext) : Out → EnvF 27 → Heap → Option (List PV) := finK p45
noncomputable def k45_2 (X : Ext) : Out → EnvF 27 → Heap → Option (List PV) := seqK (fun E σ => evCK C (Hw C X) (.seq (.ops p45_10) .ret) E σ (k45_1 X)) (k45_1 X)
noncomputable def k45_3 (X : Ext) : Out → EnvF 27 → Heap → Option (List PV) := blockK 0 (k45_2 X)
noncomputable def L45_1 (X : Ext) (v0 v1 v12 v13 : PV) (σ : Heap) : Option (List PV) := loopK (Hw C X) cL45_1 (envOf 27 [(0, v0), (1, v1), (12, v12), (13, v13)]) σ (k45_3 X)
theorem F45 (X : Ext) (v0 v1 : PV) : (Hw C X).pure 45 [v0, v1] =
  ((lenP ([] : Heap) .slice v0).bind fun x1 =>
  (lenP ([] : Heap) .slice v1).bind fun x2 =>
  (evBin .neq .int (.int .i64 (x1 : Nat)) (.int .i64 (x2 : Nat))).bind fun x3 =>
  condK x3
    (fun _ => finVs p45.keepr [(.bool false)] ([] : Heap))
    (fun _ => (lenP ([] : Heap) .slice v0).bind fun x4 =>
    L45_1 X v0 v1 (.int .i64 (x4 : Nat)) (.int .i64 0) ([] : Heap))) := (pure_of C45 (Nat.le_of_ble_eq_true rfl)).trans (by kernel_rfl)
theorem L45_1_eq (X : Ext) (v0 v1 v12 v13 : PV) (σ : Heap) : L45_1 X v0 v1 v12 v13 σ =
  ((evBin .lss .int v13 v12).bind fun x1 =>
  condK x1
    (fun _ => (iaddrV σ 6 v0 v13).bind fun x2 =>
    (loadV σ true 6 x2).bind fun x3 =>
    (iaddrV σ 6 v1 v13).bind fun x4 =>
    (loadV σ true 6 x4).bind fun x5 =>
    callK C (Hw C X) σ false (.fn 61 []) [x3, x5] fun x6 s7 =>
    (evUn .not x6).bind fun x8 =>
    condK x8
      (fun _ => finVs p45.keepr [(.bool false)] s7)
      (fun _ => (evBin .add .int v13 (.int .i64 1)).bind fun x9 =>
      L45_1 X v0 v1 v12 x9 s7))
    (fun _ => finVs p45.keepr [(.bool true)] σ)) := (loopK_keep [0, 1, 12, 13] bL45_1 _ _ _).trans (by kernel_rfl)
/-! replay.pairs -/
noncomputable def k46_1 (X : Ext) : Out → EnvF 47 → Heap → Option (List PV) := finK p46
noncomputable def k46_2 (X : Ext) : Out → EnvF 47 → Heap → Option (List PV) := seqK (fun E σ => evCK C (Hw C X) (.seq (.ops p46_11) .ret) E σ (k46_1 X)) (k46_1 X)
noncomputable def k46_3 (X : Ext) : Out → EnvF 47 → Heap → Option (List PV) := blockK 0 (k46_2 X)
noncomputable def L46_1 (X : Ext) (v1 v13 v14 v15 : PV) (σ : Heap) : Option (List PV) := loopK (Hw C X) cL46_1 (envOf 47 [(1, v1), (13, v13), (14, v14), (15, v15)]) σ (k46_3 X)
theorem F46 (X : Ext) (v0 v1 : PV) : (Hw C X).pure 46 [v0, v1] =
  ((lenP ([] : Heap) .slice v0).bind fun x1 =>
  (lenP ([] : Heap) .slice v1).bind fun x2 =>
  (evBin .neq .int (.int .i64 (x1 : Nat)) (.int .i64 (x2 : Nat))).bind fun x3 =>
  condK x3
    (fun _ => finVs p46.keepr [(.bool false)] ([] : Heap))
    (fun _ => (lenP ([] : Heap) .slice v0).bind fun x4 =>
    L46_1 X v1 v0 (.int .i64 (x4 : Nat)) (.int .i64 0) ([] : Heap))) := (pure_of C46 (Nat.le_of_ble_eq_true rfl)).trans (by kernel_rfl)
theorem L46_1_eq (X : Ext) (v1 v13 v14 v15 : PV) (σ : Heap) : L46_1 X v1 v13 v14 v15 σ =
  ((evBin .lss .int v15 v14).bind fun x1 =>
  condK x1
    (fun _ => (iaddrV σ 13 v13 v15).bind fun x2 =>
    (loadV σ true 13 x2).bind fun x3 =>
    (storeV (σ ++ [Go.PE.Obj.box [(.int .i64 0), (.str []), (.bool false), .nils, .nils, .nils, (.int .i64 0), (.str []), (.bool false), .nils, .nils, .nils, .nils]]) 13 (.ptr σ.length 0) x3).bind fun s4 =>
    (iaddrV s4 13 v1 v15).bind fun x5 =>
    (loadV s4 true 13 x5).bind fun x6 =>
    (storeV (s4 ++ [Go.PE.Obj.box [(.int .i64 0), (.str []), (.bool false), .nils, .nils, .nils, (.int .i64 0), (.str []), (.bool false), .nils, .nils, .nils, .nils]]) 13 (.ptr s4.length 0) x6).bind fun s7 =>
    (faddrV 0 (.ptr σ.length 0)).bind fun x8 =>
    (loadV s7 true 6 x8).bind fun x9 =>
    (faddrV 0 (.ptr s4.length 0)).bind fun x10 =>
    (loadV s7 true 6 x10).bind fun x11 =>
    callK C (Hw C X) s7 false (.fn 61 []) [x9, x11] fun x12 s13 =>
    (evUn .not x12).bind fun x14 =>
    (guardR x14 false 6 s13 fun _ =>
        (faddrV 6 (.ptr σ.length 0)).bind fun x15 =>
        (loadV s13 true 6 x15).bind fun x16 =>
        (faddrV 6 (.ptr s4.length 0)).bind fun x17 =>
        (loadV s13 true 6 x17).bind fun x18 =>
        callK C (Hw C X) s13 false (.fn 61 []) [x16, x18] fun x19 s20 =>
        (evUn .not x19).bind fun x21 =>
        some ([x15, x16, x17, x18, x19, x21], s20)).bind fun q22 =>
    (pickV x14 (.bool true) (nthV q22.1 5)).bind fun x23 =>
    (guardR x23 false 6 q22.2 fun _ =>
        (faddrV 12 (.ptr σ.length 0)).bind fun x24 =>
        (loadV q22.2 false 1 x24).bind fun x25 =>
        (faddrV 12 (.ptr s4.length 0)).bind fun x26 =>
        (loadV q22.2 false 1 x26).bind fun x27 =>
        callK C (Hw C X) q22.2 false (.fn 45 []) [x25, x27] fun x28 s29 =>
        (evUn .not x28).bind fun x30 =>
        some ([x24, x25, x26, x27, x28, x30], s29)).bind fun q31 =>
    (pickV x23 (.bool true) (nthV q31.1 5)).bind fun x32 =>
    condK x32
      (fun _ => finVs p46.keepr [(.bool false)] q31.2)
      (fun _ => (evBin .add .int v15 (.int .i64 1)).bind fun x33 =>
      L46_1 X v1 v13 v14 x33 q31.2))
    (fun _ => finVs p46.keepr [(.bool true)] σ)) := (loopK_keep [1, 13, 14, 15] bL46_1 _ _ _).trans (by kernel_rfl)
/-! replay.texts -/
noncomputable def k47_1 (X : Ext) : Out → EnvF 26 → Heap → Option (List PV) := finK p47
noncomputable def k47_2 (X : Ext) : Out → EnvF 26 → Heap → Option (List PV) := seqK (fun E σ => evCK C (Hw C X) (.seq (.ops p47_10) .ret) E σ (k47_1 X)) (k47_1 X)
noncomputable def k47_3 (X : Ext) : Out → EnvF 26 → Heap → Option (List PV) := blockK 0 (k47_2 X)
noncomputable def L47_1 (X : Ext) (v0 v1 v12 v13 : PV) (σ : Heap) : Option (List PV) := loopK (Hw C X) cL47_1 (envOf 26 [(0, v0), (1, v1), (12, v12), (13, v13)]) σ (k47_3 X)
theorem F47 (X : Ext) (v0 v1 : PV) : (Hw C X).pure 47 [v0, v1] =
  ((lenP ([] : Heap) .slice v0).bind fun x1 =>
  (lenP ([] : Heap) .slice v1).bind fun x2 =>
  (evBin .neq .int (.int .i64 (x1 : Nat)) (.int .i64 (x2 : Nat))).bind fun x3 =>
  condK x3
    (fun _ => finVs p47.keepr [(.bool false)] ([] : Heap))
    (fun _ => (lenP ([] : Heap) .slice v0).bind fun x4 =>
    L47_1 X v0 v1 (.int .i64 (x4 : Nat)) (.int .i64 0) ([] : Heap))) := (pure_of C47 (Nat.le_of_ble_eq_true rfl)).trans (by kernel_rfl)
theorem L47_1_eq (X : Ext) (v0 v1 v12 v13 : PV) (σ : Heap) : L47_1 X v0 v1 v12 v13 σ =
  ((evBin .lss .int v13 v12).bind fun x1 =>
  condK x1
    (fun _ => (iaddrV σ 1 v0 v13).bind fun x2 =>
    (loadV σ false 1 x2).bind fun x3 =>
    (iaddrV σ 1 v1 v13).bind fun x4 =>
    (loadV σ false 1 x4).bind fun x5 =>
    (evBin .neq .str x3 x5).bind fun x6 =>
    condK x6
      (fun _ => finVs p47.keepr [(.bool false)] σ)
      (fun _ => (evBin .add .int v13 (.int .i64 1)).bind fun x7 =>
      L47_1 X v0 v1 v12 x7 σ))
    (fun _ => finVs p47.keepr [(.bool true)] σ)) := (loopK_keep [0, 1, 12, 13] bL47_1 _ _ _).trans (by kernel_rfl)
/-! replay.certs -/
noncomputable def k48_1 (X : Ext) : Out → EnvF 144 → Heap → Option (List PV) := finK p48
noncomputable def k48_2 (X : Ext) : Out → EnvF 144 → Heap → Option (List PV) := seqK (fun E σ => evCK C (Hw C X) (.keep [2, 3] cJ48_7) E σ (k48_1 X)) (k48_1 X)
noncomputable def k48_3 (X : Ext) : Out → EnvF 144 → Heap → Option (List PV) := blockK 0 (k48_2 X)
noncomputable def L48_6 (X : Ext) (v2 v3 v52 v53 : PV) (σ : Heap) : Option (List PV) := loopK (Hw C X) cL48_6 (envOf 144 [(2, v2), (3, v3), (52, v52), (53, v53)]) σ (k48_3 X)
noncomputable def J48_7 (X : Ext) (v2 v3 : PV) (σ : Heap) : Option (List PV) := cutK C (Hw C X) cJ48_7 (envOf 144 [(2, v2), (3, v3)]) σ (k48_1 X)
noncomputable def k48_4 (X : Ext) : Out → EnvF 144 → Heap → Option (List PV) := seqK (fun E σ => evCK C (Hw C X) (.keep [2, 3] cJ48_5) E σ (k48_1 X)) (k48_1 X)
noncomputable def k48_5 (X : Ext) : Out → EnvF 144 → Heap → Option (List PV) := blockK 2 (k48_4 X)
noncomputable def L48_4 (X : Ext) (v2 v3 v71 v72 : PV) (σ : Heap) : Option (List PV) := loopK (Hw C X) cL48_4 (envOf 144 [(2, v2), (3, v3), (71, v71), (72, v72)]) σ (k48_5 X)
noncomputable def J48_5 (X : Ext) (v2 v3 : PV) (σ : Heap) : Option (List PV) := cutK C (Hw C X) cJ48_5 (envOf 144 [(2, v2), (3, v3)]) σ (k48_1 X)
noncomputable def k48_6 (X : Ext) : Out → EnvF 144 → Heap → Option (List PV) := seqK (fun E σ => evCK C (Hw C X) (.keep [2, 3] cJ48_3) E σ (k48_1 X)) (k48_1 X)
noncomputable def k48_7 (X : Ext) : Out → EnvF 144 → Heap → Option (List PV) := blockK 4 (k48_6 X)
noncomputable def L48_2 (X : Ext) (v2 v3 v90 v91 : PV) (σ : Heap) : Option (List PV) := loopK (Hw C X) cL48_2 (envOf 144 [(2, v2), (3, v3), (90, v90), (91, v91)]) σ (k48_7 X)
noncomputable def J48_3 (X : Ext) (v2 v3 : PV) (σ : Heap) : Option (List PV) := cutK C (Hw C X) cJ48_3 (envOf 144 [(2, v2), (3, v3)]) σ (k48_1 X)
noncomputable def k48_8 (X : Ext) : Out → EnvF 144 → Heap → Option (List PV) := seqK (fun E σ => evCK C (Hw C X) (.seq (.ops p48_31) .ret) E σ (k48_1 X)) (k48_1 X)
noncomputable def k48_9 (X : Ext) : Out → EnvF 144 → Heap → Option (List PV) := blockK 6 (k48_8 X)
noncomputable def L48_1 (X : Ext) (v2 v3 v127 v128 : PV) (σ : Heap) : Option (List PV) := loopK (Hw C X) cL48_1 (envOf 144 [(2, v2), (3, v3), (127, v127), (128, v128)]) σ (k48_9 X)
theorem F48 (X : Ext) (v0 v1 : PV) : (Hw C X).pure 48 [v0, v1] =
  ((boxV v0 ([] : Heap)).bind fun s1 =>
  (boxV v1 s1).bind fun s2 =>
  (faddrV 0 (.ptr ([] : Heap).length 0)).bind fun x3 =>
  (loadV s2 false 1 x3).bind fun x4 =>
  (faddrV 0 (.ptr s1.length 0)).bind fun x5 =>
  (loadV s2 false 1 x5).bind fun x6 =>
  (evBin .neq .int x4 x6).bind fun x7 =>
  (guardR x7 false 7 s2 fun _ =>
      (faddrV 1 (.ptr ([] : Heap).length 0)).bind fun x8 =>
      (loadV s2 false 1 x8).bind fun x9 =>
      (lenP s2 .slice x9).bind fun x10 =>
      (faddrV 1 (.ptr s1.length 0)).bind fun x11 =>
      (loadV s2 false 1 x11).bind fun x12 =>
      (lenP s2 .slice x12).bind fun x13 =>
      (evBin .neq .int (.int .i64 (x10 : Nat)) (.int .i64 (x13 : Nat))).bind fun x14 =>
      some ([x8, x9, (.int .i64 (x10 : Nat)), x11, x12, (.int .i64 (x13 : Nat)), x14], s2)).bind fun q15 =>
  (pickV x7 (.bool true) (nthV q15.1 6)).bind fun x16 =>
  (guardR x16 false 7 q15.2 fun _ =>
      (faddrV 2 (.ptr ([] : Heap).length 0)).bind fun x17 =>
      (loadV q15.2 false 1 x17).bind fun x18 =>
      (lenP q15.2 .slice x18).bind fun x19 =>
      (faddrV 2 (.ptr s1.length 0)).bind fun x20 =>
      (loadV q15.2 false 1 x20).bind fun x21 =>
      (lenP q15.2 .slice x21).bind fun x22 =>
      (evBin .neq .int (.int .i64 (x19 : Nat)) (.int .i64 (x22 : Nat))).bind fun x23 =>
      some ([x17, x18, (.int .i64 (x19 : Nat)), x20, x21, (.int .i64 (x22 : Nat)), x23], q15.2)).bind fun q24 =>
  (pickV x16 (.bool true) (nthV q24.1 6)).bind fun x25 =>
  (guardR x25 false 7 q24.2 fun _ =>
      (faddrV 3 (.ptr ([] : Heap).length 0)).bind fun x26 =>
      (loadV q24.2 false 1 x26).bind fun x27 =>
      (lenP q24.2 .slice x27).bind fun x28 =>
      (faddrV 3 (.ptr s1.length 0)).bind fun x29 =>
      (loadV q24.2 false 1 x29).bind fun x30 =>
      (lenP q24.2 .slice x30).bind fun x31 =>
      (evBin .neq .int (.int .i64 (x28 : Nat)) (.int .i64 (x31 : Nat))).bind fun x32 =>
      some ([x26, x27, (.int .i64 (x28 : Nat)), x29, x30, (.int .i64 (x31 : Nat)), x32], q24.2)).bind fun q33 =>
  (pickV x25 (.bool true) (nthV q33.1 6)).bind fun x34 =>
  (guardR x34 false 7 q33.2 fun _ =>
      (faddrV 4 (.ptr ([] : Heap).length 0)).bind fun x35 =>
      (loadV q33.2 false 1 x35).bind fun x36 =>
      (lenP q33.2 .slice x36).bind fun x37 =>
      (faddrV 4 (.ptr s1.length 0)).bind fun x38 =>
      (loadV q33.2 false 1 x38).bind fun x39 =>
      (lenP q33.2 .slice x39).bind fun x40 =>
      (evBin .neq .int (.int .i64 (x37 : Nat)) (.int .i64 (x40 : Nat))).bind fun x41 =>
      some ([x35, x36, (.int .i64 (x37 : Nat)), x38, x39, (.int .i64 (x40 : Nat)), x41], q33.2)).bind fun q42 =>
  (pickV x34 (.bool true) (nthV q42.1 6)).bind fun x43 =>
  condK x43
    (fun _ => finVs p48.keepr [(.bool false)] q42.2)
    (fun _ => (faddrV 1 (.ptr ([] : Heap).length 0)).bind fun x44 =>
    (loadV q42.2 false 1 x44).bind fun x45 =>
    (lenP q42.2 .slice x45).bind fun x46 =>
    L48_6 X (.ptr ([] : Heap).length 0) (.ptr s1.length 0) (.int .i64 (x46 : Nat)) (.int .i64 0) q42.2)) := (pure_of C48 (Nat.le_of_ble_eq_true rfl)).trans (by kernel_rfl)
theorem L48_6_eq (X : Ext) (v2 v3 v52 v53 : PV) (σ : Heap) : L48_6 X v2 v3 v52 v53 σ =
  ((evBin .lss .int v53 v52).bind fun x1 =>
  condK x1
    (fun _ => (faddrV 1 v2).bind fun x2 =>
    (loadV σ false 1 x2).bind fun x3 =>
    (iaddrV σ 3 x3 v53).bind fun x4 =>
    (loadV σ true 3 x4).bind fun x5 =>
    (faddrV 1 v3).bind fun x6 =>
    (loadV σ false 1 x6).bind fun x7 =>
    (iaddrV σ 3 x7 v53).bind fun x8 =>
    (loadV σ true 3 x8).bind fun x9 =>
    callK C (Hw C X) σ false (.fn 62 []) [x5, x9] fun x10 s11 =>
    (evUn .not x10).bind fun x12 =>
    condK x12
      (fun _ => finVs p48.keepr [(.bool false)] s11)
      (fun _ => (evBin .add .int v53 (.int .i64 1)).bind fun x13 =>
      L48_6 X v2 v3 v52 x13 s11))
    (fun _ => J48_7 X v2 v3 σ)) := (loopK_keep [2, 3, 52, 53] bL48_6 _ _ _).trans (by kernel_rfl)
theorem J48_7_eq (X : Ext) (v2 v3 : PV) (σ : Heap) : J48_7 X v2 v3 σ =
  ((faddrV 2 v2).bind fun x1 =>
  (loadV σ false 1 x1).bind fun x2 =>
  (lenP σ .slice x2).bind fun x3 =>
  L48_4 X v2 v3 (.int .i64 (x3 : Nat)) (.int .i64 0) σ) := (cutK_eq _ _ _ _).trans (by kernel_rfl)
theorem L48_4_eq (X : Ext) (v2 v3 v71 v72 : PV) (σ : Heap) : L48_4 X v2 v3 v71 v72 σ =
  ((evBin .lss .int v72 v71).bind fun x1 =>
  condK x1
    (fun _ => (faddrV 2 v2).bind fun x2 =>
    (loadV σ false 1 x2).bind fun x3 =>
    (iaddrV σ 2 x3 v72).bind fun x4 =>
    (loadV σ true 2 x4).bind fun x5 =>
    (faddrV 2 v3).bind fun x6 =>
    (loadV σ false 1 x6).bind fun x7 =>
    (iaddrV σ 2 x7 v72).bind fun x8 =>
    (loadV σ true 2 x8).bind fun x9 =>
    callK C (Hw C X) σ false (.fn 63 []) [x5, x9] fun x10 s11 =>
    (evUn .not x10).bind fun x12 =>
    condK x12
      (fun _ => finVs p48.keepr [(.bool false)] s11)
      (fun _ => (evBin .add .int v72 (.int .i64 1)).bind fun x13 =>
      L48_4 X v2 v3 v71 x13 s11))
    (fun _ => J48_5 X v2 v3 σ)) := (loopK_keep [2, 3, 71, 72] bL48_4 _ _ _).trans (by kernel_rfl)
theorem J48_5_eq (X : Ext) (v2 v3 : PV) (σ : Heap) : J48_5 X v2 v3 σ =
  ((faddrV 3 v2).bind fun x1 =>
  (loadV σ false 1 x1).bind fun x2 =>
  (lenP σ .slice x2).bind fun x3 =>
  L48_2 X v2 v3 (.int .i64 (x3 : Nat)) (.int .i64 0) σ) := (cutK_eq _ _ _ _).trans (by kernel_rfl)
theorem L48_2_eq (X : Ext) (v2 v3 v90 v91 : PV) (σ : Heap) : L48_2 X v2 v3 v90 v91 σ =
  ((evBin .lss .int v91 v90).bind fun x1 =>
  condK x1
    (fun _ => (faddrV 3 v2).bind fun x2 =>
    (loadV σ false 1 x2).bind fun x3 =>
    (iaddrV σ 5 x3 v91).bind fun x4 =>
    (faddrV 0 x4).bind fun x5 =>
    (loadV σ true 3 x5).bind fun x6 =>
    (faddrV 3 v3).bind fun x7 =>
    (loadV σ false 1 x7).bind fun x8 =>
    (iaddrV σ 5 x8 v91).bind fun x9 =>
    (faddrV 0 x9).bind fun x10 =>
    (loadV σ true 3 x10).bind fun x11 =>
    callK C (Hw C X) σ false (.fn 62 []) [x6, x11] fun x12 s13 =>
    (evUn .not x12).bind fun x14 =>
    (guardR x14 false 14 s13 fun _ =>
        (faddrV 3 v2).bind fun x15 =>
        (loadV s13 false 1 x15).bind fun x16 =>
        (iaddrV s13 5 x16 v91).bind fun x17 =>
        (faddrV 3 x17).bind fun x18 =>
        (loadV s13 true 2 x18).bind fun x19 =>
        (faddrV 3 v3).bind fun x20 =>
        (loadV s13 false 1 x20).bind fun x21 =>
        (iaddrV s13 5 x21 v91).bind fun x22 =>
        (faddrV 3 x22).bind fun x23 =>
        (loadV s13 true 2 x23).bind fun x24 =>
        callK C (Hw C X) s13 false (.fn 63 []) [x19, x24] fun x25 s26 =>
        (evUn .not x25).bind fun x27 =>
        some ([x15, x16, v91, x17, x18, x19, x20, x21, v91, x22, x23, x24, x25, x27], s26)).bind fun q28 =>
    (pickV x14 (.bool true) (nthV q28.1 13)).bind fun x29 =>
    condK x29
      (fun _ => finVs p48.keepr [(.bool false)] q28.2)
      (fun _ => (evBin .add .int v91 (.int .i64 1)).bind fun x30 =>
      L48_2 X v2 v3 v90 x30 q28.2))
    (fun _ => J48_3 X v2 v3 σ)) := (loopK_keep [2, 3, 90, 91] bL48_2 _ _ _).trans (by kernel_rfl)
theorem J48_3_eq (X : Ext) (v2 v3 : PV) (σ : Heap) : J48_3 X v2 v3 σ =
  ((faddrV 4 v2).bind fun x1 =>
  (loadV σ false 1 x1).bind fun x2 =>
  (lenP σ .slice x2).bind fun x3 =>
  L48_1 X v2 v3 (.int .i64 (x3 : Nat)) (.int .i64 0) σ) := (cutK_eq _ _ _ _).trans (by kernel_rfl)
theorem L48_1_eq (X : Ext) (v2 v3 v127 v128 : PV) (σ : Heap) : L48_1 X v2 v3 v127 v128 σ =
  ((evBin .lss .int v128 v127).bind fun x1 =>
  condK x1
    (fun _ => (faddrV 4 v2).bind fun x2 =>
    (loadV σ false 1 x2).bind fun x3 =>
    (iaddrV σ 5 x3 v128).bind fun x4 =>
    (loadV σ true 5 x4).bind fun x5 =>
    (faddrV 4 v3).bind fun x6 =>
    (loadV σ false 1 x6).bind fun x7 =>
    (iaddrV σ 5 x7 v128).bind fun x8 =>
    (loadV σ true 5 x8).bind fun x9 =>
    callK C (Hw C X) σ false (.fn 48 []) [x5, x9] fun x10 s11 =>
    (evUn .not x10).bind fun x12 =>
    condK x12
      (fun _ => finVs p48.keepr [(.bool false)] s11)
      (fun _ => (evBin .add .int v128 (.int .i64 1)).bind fun x13 =>
      L48_1 X v2 v3 v127 x13 s11))
    (fun _ => finVs p48.keepr [(.bool true)] σ)) := (loopK_keep [2, 3, 127, 128] bL48_1 _ _ _).trans (by kernel_rfl)
/-! isochroneref20.Size -/
noncomputable def k49_1 (X : Ext) : Out → EnvF 21 → Heap → Option (List PV) := finK p49
noncomputable def k49_2 (X : Ext) : Out → EnvF 21 → Heap → Option (List PV) := seqK (fun E σ => evCK C (Hw C X) (.seq (.ops p49_7) .ret) E σ (k49_1 X)) (k49_1 X)
noncomputable def k49_3 (X : Ext) : Out → EnvF 21 → Heap → Option (List PV) := blockK 0 (k49_2 X)
noncomputable def L49_1 (X : Ext) (v1 v3 v4 : PV) (σ : Heap) : Option (List PV) := loopK (Hw C X) cL49_1 (envOf 21 [(1, v1), (3, v3), (4, v4)]) σ (k49_3 X)
theorem F49 (X : Ext) (v0 : PV) : (Hw C X).pure 49 [v0] =
  ((boxV v0 ([] : Heap)).bind fun s1 =>
  L49_1 X (.ptr ([] : Heap).length 0) (.int .i64 1) (.int .i64 0) s1) := (pure_of C49 (Nat.le_of_ble_eq_true rfl)).trans (by kernel_rfl)
theorem L49_1_eq (X : Ext) (v1 v3 v4 : PV) (σ : Heap) : L49_1 X v1 v3 v4 σ =
  ((faddrV 11 v1).bind fun x1 =>
  (loadV σ false 1 x1).bind fun x2 =>
  (lenP σ .slice x2).bind fun x3 =>
  (evBin .lss .int v4 (.int .i64 (x3 : Nat))).bind fun x4 =>
  condK x4
    (fun _ => (faddrV 11 v1).bind fun x5 =>
    (loadV σ false 1 x5).bind fun x6 =>
    (iaddrV σ 12 x6 v4).bind fun x7 =>
    (loadV σ true 12 x7).bind fun x8 =>
    callK C (Hw C X) σ false (.fn 49 []) [x8] fun x9 s10 =>
    (evBin .add .int v3 x9).bind fun x11 =>
    (evBin .add .int v4 (.int .i64 1)).bind fun x12 =>
    L49_1 X v1 x11 x12 s10)
    (fun _ => finVs p49.keepr [v3] σ)) := (loopK_keep [1, 3, 4] bL49_1 _ _ _).trans (by kernel_rfl)
/-! isochroneref20.Levels -/
noncomputable def k50_1 (X : Ext) : Out → EnvF 22 → Heap → Option (List PV) := finK p50
noncomputable def k50_2 (X : Ext) : Out → EnvF 22 → Heap → Option (List PV) := seqK (fun E σ => evCK C (Hw C X) (.seq (.ops p50_7) .ret) E σ (k50_1 X)) (k50_1 X)
noncomputable def k50_3 (X : Ext) : Out → EnvF 22 → Heap → Option (List PV) := blockK 0 (k50_2 X)
noncomputable def L50_1 (X : Ext) (v1 v3 v4 : PV) (σ : Heap) : Option (List PV) := loopK (Hw C X) cL50_1 (envOf 22 [(1, v1), (3, v3), (4, v4)]) σ (k50_3 X)
theorem F50 (X : Ext) (v0 : PV) : (Hw C X).pure 50 [v0] =
  ((boxV v0 ([] : Heap)).bind fun s1 =>
  L50_1 X (.ptr ([] : Heap).length 0) (.int .i64 0) (.int .i64 0) s1) := (pure_of C50 (Nat.le_of_ble_eq_true rfl)).trans (by kernel_rfl)
theorem L50_1_eq (X : Ext) (v1 v3 v4 : PV) (σ : Heap) : L50_1 X v1 v3 v4 σ =
  ((faddrV 11 v1).bind fun x1 =>
  (loadV σ false 1 x1).bind fun x2 =>
  (lenP σ .slice x2).bind fun x3 =>
  (evBin .lss .int v4 (.int .i64 (x3 : Nat))).bind fun x4 =>
  condK x4
    (fun _ => (faddrV 11 v1).bind fun x5 =>
    (loadV σ false 1 x5).bind fun x6 =>
    (iaddrV σ 12 x6 v4).bind fun x7 =>
    (loadV σ true 12 x7).bind fun x8 =>
    callK C (Hw C X) σ false (.fn 50 []) [x8] fun x9 s10 =>
    (evPrim [] s10 (.mx [(.cst v3), (.cst x9)])).bind fun q11 =>
    (evBin .add .int v4 (.int .i64 1)).bind fun x12 =>
    L50_1 X v1 q11.1 x12 q11.2)
    (fun _ => (evBin .add .int v3 (.int .i64 1)).bind fun x13 =>
    finVs p50.keepr [x13] σ)) := (loopK_keep [1, 3, 4] bL50_1 _ _ _).trans (by kernel_rfl)
/-! isochroneref08.SameNodes -/
noncomputable def k51_1 (X : Ext) : Out → EnvF 27 → Heap → Option (List PV) := finK p51
noncomputable def k51_2 (X : Ext) : Out → EnvF 27 → Heap → Option (List PV) := seqK (fun E σ => evCK C (Hw C X) (.seq (.ops p51_9) .ret) E σ (k51_1 X)) (k51_1 X)
noncomputable def k51_3 (X : Ext) : Out → EnvF 27 → Heap → Option (List PV) := blockK 0 (k51_2 X)
noncomputable def L51_1 (X : Ext) (v0 v1 v5 : PV) (σ : Heap) : Option (List PV) := loopK (Hw C X) cL51_1 (envOf 27 [(0, v0), (1, v1), (5, v5)]) σ (k51_3 X)
theorem F51 (X : Ext) (v0 v1 : PV) : (Hw C X).pure 51 [v0, v1] =
  ((lenP ([] : Heap) .slice v0).bind fun x1 =>
  (lenP ([] : Heap) .slice v1).bind fun x2 =>
  (evBin .neq .int (.int .i64 (x1 : Nat)) (.int .i64 (x2 : Nat))).bind fun x3 =>
  condK x3
    (fun _ => finVs p51.keepr [(.bool false)] ([] : Heap))
    (fun _ => L51_1 X v0 v1 (.int .i64 0) ([] : Heap))) := (pure_of C51 (Nat.le_of_ble_eq_true rfl)).trans (by kernel_rfl)
theorem L51_1_eq (X : Ext) (v0 v1 v5 : PV) (σ : Heap) : L51_1 X v0 v1 v5 σ =
  ((lenP σ .slice v0).bind fun x1 =>
  (evBin .lss .int v5 (.int .i64 (x1 : Nat))).bind fun x2 =>
  condK x2
    (fun _ => (iaddrV σ 6 v0 v5).bind fun x3 =>
    (loadV σ true 6 x3).bind fun x4 =>
    (iaddrV σ 6 v1 v5).bind fun x5 =>
    (loadV σ true 6 x5).bind fun x6 =>
    callK C (Hw C X) σ false (.fn 64 []) [x4, x6] fun x7 s8 =>
    (evUn .not x7).bind fun x9 =>
    condK x9
      (fun _ => finVs p51.keepr [(.bool false)] s8)
      (fun _ => (evBin .add .int v5 (.int .i64 1)).bind fun x10 =>
      L51_1 X v0 v1 x10 s8))
    (fun _ => finVs p51.keepr [(.bool true)] σ)) := (loopK_keep [0, 1, 5] bL51_1 _ _ _).trans (by kernel_rfl)
/-! isochroneref17.SamePairs -/
noncomputable def k52_1 (X : Ext) : Out → EnvF 57 → Heap → Option (List PV) := finK p52
noncomputable def k52_2 (X : Ext) : Out → EnvF 57 → Heap → Option (List PV) := seqK (fun E σ => evCK C (Hw C X) (.seq (.ops p52_9) .ret) E σ (k52_1 X)) (k52_1 X)
noncomputable def k52_3 (X : Ext) : Out → EnvF 57 → Heap → Option (List PV) := blockK 0 (k52_2 X)
noncomputable def L52_1 (X : Ext) (v0 v1 v5 : PV) (σ : Heap) : Option (List PV) := loopK (Hw C X) cL52_1 (envOf 57 [(0, v0), (1, v1), (5, v5)]) σ (k52_3 X)
theorem F52 (X : Ext) (v0 v1 : PV) : (Hw C X).pure 52 [v0, v1] =
  ((lenP ([] : Heap) .slice v0).bind fun x1 =>
  (lenP ([] : Heap) .slice v1).bind fun x2 =>
  (evBin .neq .int (.int .i64 (x1 : Nat)) (.int .i64 (x2 : Nat))).bind fun x3 =>
  condK x3
    (fun _ => finVs p52.keepr [(.bool false)] ([] : Heap))
    (fun _ => L52_1 X v0 v1 (.int .i64 0) ([] : Heap))) := (pure_of C52 (Nat.le_of_ble_eq_true rfl)).trans (by kernel_rfl)
theorem L52_1_eq (X : Ext) (v0 v1 v5 : PV) (σ : Heap) : L52_1 X v0 v1 v5 σ =
  ((lenP σ .slice v0).bind fun x1 =>
  (evBin .lss .int v5 (.int .i64 (x1 : Nat))).bind fun x2 =>
  condK x2
    (fun _ => (iaddrV σ 13 v0 v5).bind fun x3 =>
    (faddrV 0 x3).bind fun x4 =>
    (loadV σ true 6 x4).bind fun x5 =>
    (iaddrV σ 13 v1 v5).bind fun x6 =>
    (faddrV 0 x6).bind fun x7 =>
    (loadV σ true 6 x7).bind fun x8 =>
    callK C (Hw C X) σ false (.fn 64 []) [x5, x8] fun x9 s10 =>
    (evUn .not x9).bind fun x11 =>
    (guardR x11 false 12 s10 fun _ =>
        (iaddrV s10 13 v0 v5).bind fun x12 =>
        (faddrV 6 x12).bind fun x13 =>
        (loadV s10 true 6 x13).bind fun x14 =>
        (iaddrV s10 13 v1 v5).bind fun x15 =>
        (faddrV 6 x15).bind fun x16 =>
        (loadV s10 true 6 x16).bind fun x17 =>
        callK C (Hw C X) s10 false (.fn 64 []) [x14, x17] fun x18 s19 =>
        (evUn .not x18).bind fun x20 =>
        some ([v0, v5, x12, x13, x14, v1, v5, x15, x16, x17, x18, x20], s19)).bind fun q21 =>
    (pickV x11 (.bool true) (nthV q21.1 11)).bind fun x22 =>
    (guardR x22 false 12 q21.2 fun _ =>
        (iaddrV q21.2 13 v0 v5).bind fun x23 =>
        (faddrV 12 x23).bind fun x24 =>
        (loadV q21.2 false 1 x24).bind fun x25 =>
        (iaddrV q21.2 13 v1 v5).bind fun x26 =>
        (faddrV 12 x26).bind fun x27 =>
        (loadV q21.2 false 1 x27).bind fun x28 =>
        callK C (Hw C X) q21.2 false (.fn 51 []) [x25, x28] fun x29 s30 =>
        (evUn .not x29).bind fun x31 =>
        some ([v0, v5, x23, x24, x25, v1, v5, x26, x27, x28, x29, x31], s30)).bind fun q32 =>
    (pickV x22 (.bool true) (nthV q32.1 11)).bind fun x33 =>
    condK x33
      (fun _ => finVs p52.keepr [(.bool false)] q32.2)
      (fun _ => (evBin .add .int v5 (.int .i64 1)).bind fun x34 =>
      L52_1 X v0 v1 x34 q32.2))
    (fun _ => finVs p52.keepr [(.bool true)] σ)) := (loopK_keep [0, 1, 5] bL52_1 _ _ _).trans (by kernel_rfl)
/-! isochroneref08.SamePath -/
noncomputable def k53_1 (X : Ext) : Out → EnvF 26 → Heap → Option (List PV) := finK p53
noncomputable def k53_2 (X : Ext) : Out → EnvF 26 → Heap → Option (List PV) := seqK (fun E σ => evCK C (Hw C X) (.seq (.ops p53_9) .ret) E σ (k53_1 X)) (k53_1 X)
noncomputable def k53_3 (X : Ext) : Out → EnvF 26 → Heap → Option (List PV) := blockK 0 (k53_2 X)
noncomputable def L53_1 (X : Ext) (v0 v1 v5 : PV) (σ : Heap) : Option (List PV) := loopK (Hw C X) cL53_1 (envOf 26 [(0, v0), (1, v1), (5, v5)]) σ (k53_3 X)
theorem F53 (X : Ext) (v0 v1 : PV) : (Hw C X).pure 53 [v0, v1] =
  ((lenP ([] : Heap) .slice v0).bind fun x1 =>
  (lenP ([] : Heap) .slice v1).bind fun x2 =>
  (evBin .neq .int (.int .i64 (x1 : Nat)) (.int .i64 (x2 : Nat))).bind fun x3 =>
  condK x3
    (fun _ => finVs p53.keepr [(.bool false)] ([] : Heap))
    (fun _ => L53_1 X v0 v1 (.int .i64 0) ([] : Heap))) := (pure_of C53 (Nat.le_of_ble_eq_true rfl)).trans (by kernel_rfl)
theorem L53_1_eq (X : Ext) (v0 v1 v5 : PV) (σ : Heap) : L53_1 X v0 v1 v5 σ =
  ((lenP σ .slice v0).bind fun x1 =>
  (evBin .lss .int v5 (.int .i64 (x1 : Nat))).bind fun x2 =>
  condK x2
    (fun _ => (iaddrV σ 1 v0 v5).bind fun x3 =>
    (loadV σ false 1 x3).bind fun x4 =>
    (iaddrV σ 1 v1 v5).bind fun x5 =>
    (loadV σ false 1 x5).bind fun x6 =>
    (evBin .neq .int x4 x6).bind fun x7 =>
    condK x7
      (fun _ => finVs p53.keepr [(.bool false)] σ)
      (fun _ => (evBin .add .int v5 (.int .i64 1)).bind fun x8 =>
      L53_1 X v0 v1 x8 σ))
    (fun _ => finVs p53.keepr [(.bool true)] σ)) := (loopK_keep [0, 1, 5] bL53_1 _ _ _).trans (by kernel_rfl)
/-! isochroneref20.SameCert -/
noncomputable def k54_1 (X : Ext) : Out → EnvF 123 → Heap → Option (List PV) := finK p54
noncomputable def k54_2 (X : Ext) : Out → EnvF 123 → Heap → Option (List PV) := seqK (fun E σ => evCK C (Hw C X) (.keep [2, 3] cJ54_5) E σ (k54_1 X)) (k54_1 X)
noncomputable def k54_3 (X : Ext) : Out → EnvF 123 → Heap → Option (List PV) := blockK 0 (k54_2 X)
noncomputable def L54_4 (X : Ext) (v2 v3 v5 : PV) (σ : Heap) : Option (List PV) := loopK (Hw C X) cL54_4 (envOf 123 [(2, v2), (3, v3), (5, v5)]) σ (k54_3 X)
noncomputable def J54_5 (X : Ext) (v2 v3 : PV) (σ : Heap) : Option (List PV) := cutK C (Hw C X) cJ54_5 (envOf 123 [(2, v2), (3, v3)]) σ (k54_1 X)
noncomputable def k54_4 (X : Ext) : Out → EnvF 123 → Heap → Option (List PV) := seqK (fun E σ => evCK C (Hw C X) (.keep [2, 3] cJ54_3) E σ (k54_1 X)) (k54_1 X)
noncomputable def k54_5 (X : Ext) : Out → EnvF 123 → Heap → Option (List PV) := blockK 2 (k54_4 X)
noncomputable def L54_2 (X : Ext) (v2 v3 v6 : PV) (σ : Heap) : Option (List PV) := loopK (Hw C X) cL54_2 (envOf 123 [(2, v2), (3, v3), (6, v6)]) σ (k54_5 X)
noncomputable def J54_3 (X : Ext) (v2 v3 : PV) (σ : Heap) : Option (List PV) := cutK C (Hw C X) cJ54_3 (envOf 123 [(2, v2), (3, v3)]) σ (k54_1 X)
noncomputable def k54_6 (X : Ext) : Out → EnvF 123 → Heap → Option (List PV) := seqK (fun E σ => evCK C (Hw C X) (.seq (.ops p54_21) .ret) E σ (k54_1 X)) (k54_1 X)
noncomputable def k54_7 (X : Ext) : Out → EnvF 123 → Heap → Option (List PV) := blockK 4 (k54_6 X)
noncomputable def L54_1 (X : Ext) (v2 v3 v7 : PV) (σ : Heap) : Option (List PV) := loopK (Hw C X) cL54_1 (envOf 123 [(2, v2), (3, v3), (7, v7)]) σ (k54_7 X)
theorem F54 (X : Ext) (v0 v1 : PV) : (Hw C X).pure 54 [v0, v1] =
  ((boxV v0 ([] : Heap)).bind fun s1 =>
  (boxV v1 s1).bind fun s2 =>
  (faddrV 0 (.ptr ([] : Heap).length 0)).bind fun x3 =>
  (loadV s2 false 1 x3).bind fun x4 =>
  (faddrV 0 (.ptr s1.length 0)).bind fun x5 =>
  (loadV s2 false 1 x5).bind fun x6 =>
  (evBin .neq .int x4 x6).bind fun x7 =>
  (guardR x7 false 6 s2 fun _ =>
      (faddrV 1 (.ptr ([] : Heap).length 0)).bind fun x8 =>
      (loadV s2 false 1 x8).bind fun x9 =>
      (faddrV 1 (.ptr s1.length 0)).bind fun x10 =>
      (loadV s2 false 1 x10).bind fun x11 =>
      callK C (Hw C X) s2 false (.fn 65 []) [x9, x11] fun x12 s13 =>
      (evUn .not x12).bind fun x14 =>
      some ([x8, x9, x10, x11, x12, x14], s13)).bind fun q15 =>
  (pickV x7 (.bool true) (nthV q15.1 5)).bind fun x16 =>
  (guardR x16 false 7 q15.2 fun _ =>
      (faddrV 2 (.ptr ([] : Heap).length 0)).bind fun x17 =>
      (loadV q15.2 false 1 x17).bind fun x18 =>
      (lenP q15.2 .slice x18).bind fun x19 =>
      (faddrV 2 (.ptr s1.length 0)).bind fun x20 =>
      (loadV q15.2 false 1 x20).bind fun x21 =>
      (lenP q15.2 .slice x21).bind fun x22 =>
      (evBin .neq .int (.int .i64 (x19 : Nat)) (.int .i64 (x22 : Nat))).bind fun x23 =>
      some ([x17, x18, (.int .i64 (x19 : Nat)), x20, x21, (.int .i64 (x22 : Nat)), x23], q15.2)).bind fun q24 =>
  (pickV x16 (.bool true) (nthV q24.1 6)).bind fun x25 =>
  (guardR x25 false 7 q24.2 fun _ =>
      (faddrV 3 (.ptr ([] : Heap).length 0)).bind fun x26 =>
      (loadV q24.2 false 1 x26).bind fun x27 =>
      (lenP q24.2 .slice x27).bind fun x28 =>
      (faddrV 3 (.ptr s1.length 0)).bind fun x29 =>
      (loadV q24.2 false 1 x29).bind fun x30 =>
      (lenP q24.2 .slice x30).bind fun x31 =>
      (evBin .neq .int (.int .i64 (x28 : Nat)) (.int .i64 (x31 : Nat))).bind fun x32 =>
      some ([x26, x27, (.int .i64 (x28 : Nat)), x29, x30, (.int .i64 (x31 : Nat)), x32], q24.2)).bind fun q33 =>
  (pickV x25 (.bool true) (nthV q33.1 6)).bind fun x34 =>
  (guardR x34 false 7 q33.2 fun _ =>
      (faddrV 4 (.ptr ([] : Heap).length 0)).bind fun x35 =>
      (loadV q33.2 false 1 x35).bind fun x36 =>
      (lenP q33.2 .slice x36).bind fun x37 =>
      (faddrV 4 (.ptr s1.length 0)).bind fun x38 =>
      (loadV q33.2 false 1 x38).bind fun x39 =>
      (lenP q33.2 .slice x39).bind fun x40 =>
      (evBin .neq .int (.int .i64 (x37 : Nat)) (.int .i64 (x40 : Nat))).bind fun x41 =>
      some ([x35, x36, (.int .i64 (x37 : Nat)), x38, x39, (.int .i64 (x40 : Nat)), x41], q33.2)).bind fun q42 =>
  (pickV x34 (.bool true) (nthV q42.1 6)).bind fun x43 =>
  condK x43
    (fun _ => finVs p54.keepr [(.bool false)] q42.2)
    (fun _ => L54_4 X (.ptr ([] : Heap).length 0) (.ptr s1.length 0) (.int .i64 0) q42.2)) := (pure_of C54 (Nat.le_of_ble_eq_true rfl)).trans (by kernel_rfl)
theorem L54_4_eq (X : Ext) (v2 v3 v5 : PV) (σ : Heap) : L54_4 X v2 v3 v5 σ =
  ((faddrV 2 v2).bind fun x1 =>
  (loadV σ false 1 x1).bind fun x2 =>
  (lenP σ .slice x2).bind fun x3 =>
  (evBin .lss .int v5 (.int .i64 (x3 : Nat))).bind fun x4 =>
  condK x4
    (fun _ => (faddrV 2 v2).bind fun x5 =>
    (loadV σ false 1 x5).bind fun x6 =>
    (iaddrV σ 2 x6 v5).bind fun x7 =>
    (loadV σ true 2 x7).bind fun x8 =>
    (faddrV 2 v3).bind fun x9 =>
    (loadV σ false 1 x9).bind fun x10 =>
    (iaddrV σ 2 x10 v5).bind fun x11 =>
    (loadV σ true 2 x11).bind fun x12 =>
    callK C (Hw C X) σ false (.fn 66 []) [x8, x12] fun x13 s14 =>
    (evUn .not x13).bind fun x15 =>
    condK x15
      (fun _ => finVs p54.keepr [(.bool false)] s14)
      (fun _ => (evBin .add .int v5 (.int .i64 1)).bind fun x16 =>
      L54_4 X v2 v3 x16 s14))
    (fun _ => J54_5 X v2 v3 σ)) := (loopK_keep [2, 3, 5] bL54_4 _ _ _).trans (by kernel_rfl)
theorem J54_5_eq (X : Ext) (v2 v3 : PV) (σ : Heap) : J54_5 X v2 v3 σ =
  (L54_2 X v2 v3 (.int .i64 0) σ) := (cutK_eq _ _ _ _).trans (by kernel_rfl)
theorem L54_2_eq (X : Ext) (v2 v3 v6 : PV) (σ : Heap) : L54_2 X v2 v3 v6 σ =
  ((faddrV 3 v2).bind fun x1 =>
  (loadV σ false 1 x1).bind fun x2 =>
  (lenP σ .slice x2).bind fun x3 =>
  (evBin .lss .int v6 (.int .i64 (x3 : Nat))).bind fun x4 =>
  condK x4
    (fun _ => (faddrV 3 v2).bind fun x5 =>
    (loadV σ false 1 x5).bind fun x6 =>
    (iaddrV σ 5 x6 v6).bind fun x7 =>
    (faddrV 0 x7).bind fun x8 =>
    (loadV σ true 3 x8).bind fun x9 =>
    (faddrV 3 v3).bind fun x10 =>
    (loadV σ false 1 x10).bind fun x11 =>
    (iaddrV σ 5 x11 v6).bind fun x12 =>
    (faddrV 0 x12).bind fun x13 =>
    (loadV σ true 3 x13).bind fun x14 =>
    callK C (Hw C X) σ false (.fn 67 []) [x9, x14] fun x15 s16 =>
    (evUn .not x15).bind fun x17 =>
    (guardR x17 false 14 s16 fun _ =>
        (faddrV 3 v2).bind fun x18 =>
        (loadV s16 false 1 x18).bind fun x19 =>
        (iaddrV s16 5 x19 v6).bind fun x20 =>
        (faddrV 3 x20).bind fun x21 =>
        (loadV s16 true 2 x21).bind fun x22 =>
        (faddrV 3 v3).bind fun x23 =>
        (loadV s16 false 1 x23).bind fun x24 =>
        (iaddrV s16 5 x24 v6).bind fun x25 =>
        (faddrV 3 x25).bind fun x26 =>
        (loadV s16 true 2 x26).bind fun x27 =>
        callK C (Hw C X) s16 false (.fn 66 []) [x22, x27] fun x28 s29 =>
        (evUn .not x28).bind fun x30 =>
        some ([x18, x19, v6, x20, x21, x22, x23, x24, v6, x25, x26, x27, x28, x30], s29)).bind fun q31 =>
    (pickV x17 (.bool true) (nthV q31.1 13)).bind fun x32 =>
    condK x32
      (fun _ => finVs p54.keepr [(.bool false)] q31.2)
      (fun _ => (evBin .add .int v6 (.int .i64 1)).bind fun x33 =>
      L54_2 X v2 v3 x33 q31.2))
    (fun _ => J54_3 X v2 v3 σ)) := (loopK_keep [2, 3, 6] bL54_2 _ _ _).trans (by kernel_rfl)
theorem J54_3_eq (X : Ext) (v2 v3 : PV) (σ : Heap) : J54_3 X v2 v3 σ =
  (L54_1 X v2 v3 (.int .i64 0) σ) := (cutK_eq _ _ _ _).trans (by kernel_rfl)
theorem L54_1_eq (X : Ext) (v2 v3 v7 : PV) (σ : Heap) : L54_1 X v2 v3 v7 σ =
  ((faddrV 4 v2).bind fun x1 =>
  (loadV σ false 1 x1).bind fun x2 =>
  (lenP σ .slice x2).bind fun x3 =>
  (evBin .lss .int v7 (.int .i64 (x3 : Nat))).bind fun x4 =>
  condK x4
    (fun _ => (faddrV 4 v2).bind fun x5 =>
    (loadV σ false 1 x5).bind fun x6 =>
    (iaddrV σ 5 x6 v7).bind fun x7 =>
    (loadV σ true 5 x7).bind fun x8 =>
    (faddrV 4 v3).bind fun x9 =>
    (loadV σ false 1 x9).bind fun x10 =>
    (iaddrV σ 5 x10 v7).bind fun x11 =>
    (loadV σ true 5 x11).bind fun x12 =>
    callK C (Hw C X) σ false (.fn 54 []) [x8, x12] fun x13 s14 =>
    (evUn .not x13).bind fun x15 =>
    condK x15
      (fun _ => finVs p54.keepr [(.bool false)] s14)
      (fun _ => (evBin .add .int v7 (.int .i64 1)).bind fun x16 =>
      L54_1 X v2 v3 x16 s14))
    (fun _ => finVs p54.keepr [(.bool true)] σ)) := (loopK_keep [2, 3, 7] bL54_1 _ _ _).trans (by kernel_rfl)
/-! isochroneref08.Sort -/
theorem F56 (X : Ext) (v0 : PV) : (Hw C X).pure 56 [v0] =
  ((evBin .geq .int v0 (.int .i64 1)).bind fun x1 =>
  (guardR x1 true 2 ([] : Heap) fun _ =>
      (evBin .leq .int v0 (.int .i64 13)).bind fun x2 =>
      some ([v0, x2], ([] : Heap))).bind fun q3 =>
  (pickV x1 (nthV q3.1 1) (.bool false)).bind fun x4 =>
  condK x4
    (fun _ => finVs p56.keepr [(.int .i64 1)] q3.2)
    (fun _ => (evBin .geq .int v0 (.int .i64 20)).bind fun x5 =>
    (guardR x5 true 2 q3.2 fun _ =>
        (evBin .leq .int v0 (.int .i64 39)).bind fun x6 =>
        some ([v0, x6], q3.2)).bind fun q7 =>
    (pickV x5 (nthV q7.1 1) (.bool false)).bind fun x8 =>
    condK x8
      (fun _ => finVs p56.keepr [(.int .i64 2)] q7.2)
      (fun _ => (evBin .eql .int v0 (.int .i64 55)).bind fun x9 =>
      (guardR x9 false 2 q7.2 fun _ =>
          (evBin .eql .int v0 (.int .i64 56)).bind fun x10 =>
          some ([v0, x10], q7.2)).bind fun q11 =>
      (pickV x9 (.bool true) (nthV q11.1 1)).bind fun x12 =>
      condK x12
        (fun _ => finVs p56.keepr [(.int .i64 4)] q11.2)
        (fun _ => (evBin .geq .int v0 (.int .i64 50)).bind fun x13 =>
        (guardR x13 true 2 q11.2 fun _ =>
            (evBin .leq .int v0 (.int .i64 62)).bind fun x14 =>
            some ([v0, x14], q11.2)).bind fun q15 =>
        (pickV x13 (nthV q15.1 1) (.bool false)).bind fun x16 =>
        condK x16
          (fun _ => finVs p56.keepr [(.int .i64 3)] q15.2)
          (fun _ => finVs p56.keepr [(.int .i64 0)] q15.2))))) := (pure_of C56 (Nat.le_of_ble_eq_true rfl)).trans (by kernel_rfl)
/-! isochroneref20.degree -/
noncomputable def k57_1 (X : Ext) : Out → EnvF 73 → Heap → Option (List PV) := finK p57
noncomputable def k57_2 (X : Ext) : Out → EnvF 73 → Heap → Option (List PV) := seqK (fun E σ => evCK C (Hw C X) (.keep [1, 3] cJ57_3) E σ (k57_1 X)) (k57_1 X)
noncomputable def k57_3 (X : Ext) : Out → EnvF 73 → Heap → Option (List PV) := blockK 0 (k57_2 X)
noncomputable def L57_1 (X : Ext) (v1 v3 v4 : PV) (σ : Heap) : Option (List PV) := loopK (Hw C X) cL57_1 (envOf 73 [(1, v1), (3, v3), (4, v4)]) σ (k57_3 X)
noncomputable def k57_4 (X : Ext) : Out → EnvF 73 → Heap → Option (List PV) := roundK C X cL57_1 (k57_3 X)
noncomputable def k57_5 (X : Ext) : Out → EnvF 73 → Heap → Option (List PV) := seqK (fun E σ => evCK C (Hw C X) (.ops p57_13) E σ (k57_4 X)) (k57_4 X)
noncomputable def k57_6 (X : Ext) : Out → EnvF 73 → Heap → Option (List PV) := blockK 1 (k57_5 X)
noncomputable def k57_7 (X : Ext) : Out → EnvF 73 → Heap → Option (List PV) := blockK 2 (k57_6 X)
noncomputable def J57_2 (X : Ext) (v1 v3 v4 v6 : PV) (σ : Heap) : Option (List PV) := cutK C (Hw C X) cJ57_2 (envOf 73 [(1, v1), (3, v3), (4, v4), (6, v6)]) σ (k57_7 X)
noncomputable def J57_3 (X : Ext) (v1 v3 : PV) (σ : Heap) : Option (List PV) := cutK C (Hw C X) cJ57_3 (envOf 73 [(1, v1), (3, v3)]) σ (k57_1 X)
theorem F57 (X : Ext) (v0 : PV) : (Hw C X).pure 57 [v0] =
  ((boxV v0 ([] : Heap)).bind fun s1 =>
  L57_1 X (.ptr ([] : Heap).length 0) (.int .i64 0) (.int .i64 0) s1) := (pure_of C57 (Nat.le_of_ble_eq_true rfl)).trans (by kernel_rfl)
theorem L57_1_eq (X : Ext) (v1 v3 v4 : PV) (σ : Heap) : L57_1 X v1 v3 v4 σ =
  ((faddrV 5 v1).bind fun x1 =>
  (loadV σ false 1 x1).bind fun x2 =>
  (lenP σ .slice x2).bind fun x3 =>
  (evBin .lss .int v4 (.int .i64 (x3 : Nat))).bind fun x4 =>
  condK x4
    (fun _ => (faddrV 5 v1).bind fun x5 =>
    (loadV σ false 1 x5).bind fun x6 =>
    (iaddrV σ 6 x6 v4).bind fun x7 =>
    (loadV σ true 6 x7).bind fun x8 =>
    callK C (Hw C X) σ false (.fn 57 []) [x8] fun x9 s10 =>
    (faddrV 0 v1).bind fun x11 =>
    (loadV s10 false 1 x11).bind fun x12 =>
    (evBin .eql .int x12 (.int .i64 7)).bind fun x13 =>
    condK x13
      (fun _ => (evBin .add .int v3 x9).bind fun x14 =>
      (evPrim [] s10 (.mn [(.cst (.int .i64 1000)), (.cst x14)])).bind fun q15 =>
      (evBin .add .int v4 (.int .i64 1)).bind fun x16 =>
      L57_1 X v1 q15.1 x16 q15.2)
      (fun _ => (faddrV 0 v1).bind fun x17 =>
      (loadV s10 false 1 x17).bind fun x18 =>
      (evBin .eql .int x18 (.int .i64 9)).bind fun x19 =>
      (guardR x19 true 2 s10 fun _ =>
          (evBin .eql .int v4 (.int .i64 1)).bind fun x20 =>
          some ([v4, x20], s10)).bind fun q21 =>
      (pickV x19 (nthV q21.1 1) (.bool false)).bind fun x22 =>
      condK x22
        (fun _ => (faddrV 5 v1).bind fun x23 =>
        (loadV q21.2 false 1 x23).bind fun x24 =>
        (iaddrV q21.2 6 x24 (.int .i64 1)).bind fun x25 =>
        (faddrV 2 x25).bind fun x26 =>
        (loadV q21.2 true 3 x26).bind fun x27 =>
        callK C (Hw C X) q21.2 false (.fn 70 []) [x27, (.int .i64 20)] fun x28 s29 =>
        (evBin .lss .int x28 (.int .i64 0)).bind fun x30 =>
        condK x30
          (fun _ => J57_2 X v1 v3 v4 (.int .i64 1000) s29)
          (fun _ => J57_2 X v1 v3 v4 x28 s29))
        (fun _ => (evPrim [] q21.2 (.mx [(.cst v3), (.cst x9)])).bind fun q31 =>
        (evBin .add .int v4 (.int .i64 1)).bind fun x32 =>
        L57_1 X v1 q31.1 x32 q31.2)))
    (fun _ => J57_3 X v1 v3 σ)) := (loopK_keep [1, 3, 4] bL57_1 _ _ _).trans (by kernel_rfl)
theorem J57_2_eq (X : Ext) (v1 v3 v4 v6 : PV) (σ : Heap) : J57_2 X v1 v3 v4 v6 σ =
  ((evPrim [] σ (.mx [(.cst (.int .i64 1)), (.cst v3)])).bind fun q1 =>
  (evBin .mul .int q1.1 v6).bind fun x2 =>
  (evPrim [] q1.2 (.mn [(.cst (.int .i64 1000)), (.cst x2)])).bind fun q3 =>
  (evBin .add .int v4 (.int .i64 1)).bind fun x4 =>
  L57_1 X v1 q3.1 x4 q3.2) := (cutK_eq _ _ _ _).trans (by kernel_rfl)
theorem J57_3_eq (X : Ext) (v1 v3 : PV) (σ : Heap) : J57_3 X v1 v3 σ =
  ((faddrV 0 v1).bind fun x1 =>
  (loadV σ false 1 x1).bind fun x2 =>
  (evBin .eql .int x2 (.int .i64 2)).bind fun x3 =>
  (guardR x3 false 3 σ fun _ =>
      (faddrV 0 v1).bind fun x4 =>
      (loadV σ false 1 x4).bind fun x5 =>
      (evBin .eql .int x5 (.int .i64 3)).bind fun x6 =>
      some ([x4, x5, x6], σ)).bind fun q7 =>
  (pickV x3 (.bool true) (nthV q7.1 2)).bind fun x8 =>
  (guardR x8 false 3 q7.2 fun _ =>
      (faddrV 0 v1).bind fun x9 =>
      (loadV q7.2 false 1 x9).bind fun x10 =>
      (evBin .eql .int x10 (.int .i64 10)).bind fun x11 =>
      some ([x9, x10, x11], q7.2)).bind fun q12 =>
  (pickV x8 (.bool true) (nthV q12.1 2)).bind fun x13 =>
  (guardR x13 false 3 q12.2 fun _ =>
      (faddrV 0 v1).bind fun x14 =>
      (loadV q12.2 false 1 x14).bind fun x15 =>
      (evBin .eql .int x15 (.int .i64 11)).bind fun x16 =>
      some ([x14, x15, x16], q12.2)).bind fun q17 =>
  (pickV x13 (.bool true) (nthV q17.1 2)).bind fun x18 =>
  condK x18
    (fun _ => (evPrim [] q17.2 (.mx [(.cst v3), (.cst (.int .i64 1))])).bind fun q19 =>
    finVs p57.keepr [q19.1] q19.2)
    (fun _ => finVs p57.keepr [v3] q17.2)) := (cutK_eq _ _ _ _).trans (by kernel_rfl)
/-! proof.ratOf -/
theorem F58 (X : Ext) (v0 : PV) : (Hw C X).pure 58 [v0] =
  ((boxV v0 ([] : Heap)).bind fun s1 =>
  (faddrV 0 (.ptr ([] : Heap).length 0)).bind fun x2 =>
  (loadV (s1 ++ [Go.PE.Obj.box [(.bool false), .nils, .nils]]) false 1 x2).bind fun x3 =>
  (faddrV 1 (.ptr ([] : Heap).length 0)).bind fun x4 =>
  (loadV (s1 ++ [Go.PE.Obj.box [(.bool false), .nils, .nils]]) false 1 x4).bind fun x5 =>
  (evPrim [] (s1 ++ [Go.PE.Obj.box [(.bool false), .nils, .nils]]) (.copy 1 4 (.cst x5))).bind fun q6 =>
  (faddrV 2 (.ptr ([] : Heap).length 0)).bind fun x7 =>
  (loadV q6.2 false 1 x7).bind fun x8 =>
  (evPrim [] q6.2 (.copy 1 4 (.cst x8))).bind fun q9 =>
  (evPrim [] q9.2 (.build [(.bool false), .nils, .nils] [(0, 1, (.cst x3)), (1, 1, (.cst q6.1)), (2, 1, (.cst q9.1))])).bind fun q10 =>
  (storeV q10.2 3 (.ptr s1.length 0) q10.1).bind fun s11 =>
  (loadV s11 true 3 (.ptr s1.length 0)).bind fun x12 => finVs p58.keepr [x12] s11) := (pure_of C58 (Nat.le_of_ble_eq_true rfl)).trans (by kernel_rfl)
/-! proof.polyOf -/
noncomputable def k59_1 (X : Ext) : Out → EnvF 30 → Heap → Option (List PV) := finK p59
noncomputable def k59_2 (X : Ext) : Out → EnvF 30 → Heap → Option (List PV) := seqK (fun E σ => evCK C (Hw C X) (.keep [2, 3] cJ59_2) E σ (k59_1 X)) (k59_1 X)
noncomputable def k59_3 (X : Ext) : Out → EnvF 30 → Heap → Option (List PV) := blockK 0 (k59_2 X)
noncomputable def L59_1 (X : Ext) (v2 v3 v10 v11 v12 : PV) (σ : Heap) : Option (List PV) := loopK (Hw C X) cL59_1 (envOf 30 [(2, v2), (3, v3), (10, v10), (11, v11), (12, v12)]) σ (k59_3 X)
noncomputable def J59_2 (X : Ext) (v2 v3 : PV) (σ : Heap) : Option (List PV) := cutK C (Hw C X) cJ59_2 (envOf 30 [(2, v2), (3, v3)]) σ (k59_1 X)
theorem F59 (X : Ext) (v0 : PV) : (Hw C X).pure 59 [v0] =
  ((boxV v0 ([] : Heap)).bind fun s1 =>
  (faddrV 0 (.ptr ([] : Heap).length 0)).bind fun x2 =>
  (loadV (s1 ++ [Go.PE.Obj.box [(.int .i64 0), .nils]]) false 1 x2).bind fun x3 =>
  (evPrim [] (s1 ++ [Go.PE.Obj.box [(.int .i64 0), .nils]]) (.build [(.int .i64 0), .nils] [(0, 1, (.cst x3))])).bind fun q4 =>
  (storeV (q4.2 ++ [Go.PE.Obj.box [(.int .i64 0), .nils]]) 2 (.ptr q4.2.length 0) q4.1).bind fun s5 =>
  (faddrV 1 (.ptr ([] : Heap).length 0)).bind fun x6 =>
  (loadV s5 false 1 x6).bind fun x7 =>
  (lenP s5 .slice x7).bind fun x8 =>
  L59_1 X (.ptr s1.length 0) (.ptr q4.2.length 0) x7 (.int .i64 (x8 : Nat)) (.int .i64 0) s5) := (pure_of C59 (Nat.le_of_ble_eq_true rfl)).trans (by kernel_rfl)
theorem L59_1_eq (X : Ext) (v2 v3 v10 v11 v12 : PV) (σ : Heap) : L59_1 X v2 v3 v10 v11 v12 σ =
  ((evBin .lss .int v12 v11).bind fun x1 =>
  condK x1
    (fun _ => (iaddrV σ 4 v10 v12).bind fun x2 =>
    (loadV σ true 4 x2).bind fun x3 =>
    (storeV (σ ++ [Go.PE.Obj.box [.nils, (.bool false), .nils, .nils]]) 4 (.ptr σ.length 0) x3).bind fun s4 =>
    (faddrV 1 v3).bind fun x5 =>
    (loadV s4 false 1 x5).bind fun x6 =>
    (faddrV 0 (.ptr σ.length 0)).bind fun x7 =>
    (loadV s4 false 1 x7).bind fun x8 =>
    (evPrim [] s4 (.copy 1 8 (.cst x8))).bind fun q9 =>
    (faddrV 1 (.ptr σ.length 0)).bind fun x10 =>
    (loadV q9.2 true 3 x10).bind fun x11 =>
    callK C (Hw C X) q9.2 true (.fn 58 []) [x11] fun x12 s13 =>
    (evPrim [] s13 (.build [.nils, (.bool false), .nils, .nils] [(0, 1, (.cst q9.1)), (1, 3, (.cst x12))])).bind fun q14 =>
    (evPrim [] q14.2 (.bslice 4 [(some 1), none, (some 1), (some 1)] [.nils, (.bool false), .nils, .nils] 1 [(0, (.cst q14.1))])).bind fun q15 =>
    (appendP 91 4 80 q15.2 x6 q15.1).bind fun q16 =>
    (faddrV 1 v3).bind fun x17 =>
    (storeV q16.2 1 x17 q16.1).bind fun s18 =>
    (evBin .add .int v12 (.int .i64 1)).bind fun x19 =>
    L59_1 X v2 v3 v10 v11 x19 s18)
    (fun _ => J59_2 X v2 v3 σ)) := (loopK_keep [2, 3, 10, 11, 12] bL59_1 _ _ _).trans (by kernel_rfl)
theorem J59_2_eq (X : Ext) (v2 v3 : PV) (σ : Heap) : J59_2 X v2 v3 σ =
  ((loadV σ true 2 v3).bind fun x1 =>
  (storeV σ 2 v2 x1).bind fun s2 =>
  (loadV s2 true 2 v2).bind fun x3 => finVs p59.keepr [x3] s2) := (cutK_eq _ _ _ _).trans (by kernel_rfl)
/-! tree.Equal -/
theorem F61 (X : Ext) (v0 v1 : PV) : (Hw C X).pure 61 [v0, v1] =
  ((boxV v0 ([] : Heap)).bind fun s1 =>
  (boxV v1 s1).bind fun s2 =>
  (loadV s2 true 6 (.ptr ([] : Heap).length 0)).bind fun x3 =>
  (loadV s2 true 6 (.ptr s1.length 0)).bind fun x4 =>
  callK C (Hw C X) s2 false (.fn 72 []) [x3, x4] fun x5 s6 =>
  (evBin .eql .int x5 (.int .i64 0)).bind fun x7 =>
  finVs p61.keepr [x7] s6) := (pure_of C61 (Nat.le_of_ble_eq_true rfl)).trans (by kernel_rfl)
/-! replay.rats -/
theorem F62 (X : Ext) (v0 v1 : PV) : (Hw C X).pure 62 [v0, v1] =
  ((boxV v0 ([] : Heap)).bind fun s1 =>
  (boxV v1 s1).bind fun s2 =>
  (loadV s2 true 3 (.ptr ([] : Heap).length 0)).bind fun x3 =>
  (evPrim [] s2 (.build [(.int .i64 0), (.str []), (.bool false), .nils, .nils, .nils] [(2, 3, (.cst x3))])).bind fun q4 =>
  (loadV q4.2 true 3 (.ptr s1.length 0)).bind fun x5 =>
  (evPrim [] q4.2 (.build [(.int .i64 0), (.str []), (.bool false), .nils, .nils, .nils] [(2, 3, (.cst x5))])).bind fun q6 =>
  callK C (Hw C X) q6.2 false (.fn 61 []) [q4.1, q6.1] fun x7 s8 =>
  finVs p62.keepr [x7] s8) := (pure_of C62 (Nat.le_of_ble_eq_true rfl)).trans (by kernel_rfl)
/-! replay.polys -/
noncomputable def k63_1 (X : Ext) : Out → EnvF 52 → Heap → Option (List PV) := finK p63
noncomputable def k63_2 (X : Ext) : Out → EnvF 52 → Heap → Option (List PV) := seqK (fun E σ => evCK C (Hw C X) (.seq (.ops p63_10) .ret) E σ (k63_1 X)) (k63_1 X)
noncomputable def k63_3 (X : Ext) : Out → EnvF 52 → Heap → Option (List PV) := blockK 0 (k63_2 X)
noncomputable def L63_1 (X : Ext) (v3 v22 v23 v24 : PV) (σ : Heap) : Option (List PV) := loopK (Hw C X) cL63_1 (envOf 52 [(3, v3), (22, v22), (23, v23), (24, v24)]) σ (k63_3 X)
theorem F63 (X : Ext) (v0 v1 : PV) : (Hw C X).pure 63 [v0, v1] =
  ((boxV v0 ([] : Heap)).bind fun s1 =>
  (boxV v1 s1).bind fun s2 =>
  (faddrV 0 (.ptr ([] : Heap).length 0)).bind fun x3 =>
  (loadV s2 false 1 x3).bind fun x4 =>
  (faddrV 0 (.ptr s1.length 0)).bind fun x5 =>
  (loadV s2 false 1 x5).bind fun x6 =>
  (evBin .neq .int x4 x6).bind fun x7 =>
  (guardR x7 false 7 s2 fun _ =>
      (faddrV 1 (.ptr ([] : Heap).length 0)).bind fun x8 =>
      (loadV s2 false 1 x8).bind fun x9 =>
      (lenP s2 .slice x9).bind fun x10 =>
      (faddrV 1 (.ptr s1.length 0)).bind fun x11 =>
      (loadV s2 false 1 x11).bind fun x12 =>
      (lenP s2 .slice x12).bind fun x13 =>
      (evBin .neq .int (.int .i64 (x10 : Nat)) (.int .i64 (x13 : Nat))).bind fun x14 =>
      some ([x8, x9, (.int .i64 (x10 : Nat)), x11, x12, (.int .i64 (x13 : Nat)), x14], s2)).bind fun q15 =>
  (pickV x7 (.bool true) (nthV q15.1 6)).bind fun x16 =>
  condK x16
    (fun _ => finVs p63.keepr [(.bool false)] q15.2)
    (fun _ => (faddrV 1 (.ptr ([] : Heap).length 0)).bind fun x17 =>
    (loadV q15.2 false 1 x17).bind fun x18 =>
    (lenP q15.2 .slice x18).bind fun x19 =>
    L63_1 X (.ptr s1.length 0) x18 (.int .i64 (x19 : Nat)) (.int .i64 0) q15.2)) := (pure_of C63 (Nat.le_of_ble_eq_true rfl)).trans (by kernel_rfl)
theorem L63_1_eq (X : Ext) (v3 v22 v23 v24 : PV) (σ : Heap) : L63_1 X v3 v22 v23 v24 σ =
  ((evBin .lss .int v24 v23).bind fun x1 =>
  condK x1
    (fun _ => (iaddrV σ 4 v22 v24).bind fun x2 =>
    (loadV σ true 4 x2).bind fun x3 =>
    (storeV (σ ++ [Go.PE.Obj.box [.nils, (.bool false), .nils, .nils]]) 4 (.ptr σ.length 0) x3).bind fun s4 =>
    (faddrV 0 (.ptr σ.length 0)).bind fun x5 =>
    (loadV s4 false 1 x5).bind fun x6 =>
    (faddrV 1 v3).bind fun x7 =>
    (loadV s4 false 1 x7).bind fun x8 =>
    (iaddrV s4 4 x8 v24).bind fun x9 =>
    (faddrV 0 x9).bind fun x10 =>
    (loadV s4 false 1 x10).bind fun x11 =>
    callK C (Hw C X) s4 false (.fn 27 []) [x6, x11] fun x12 s13 =>
    (evUn .not x12).bind fun x14 =>
    (guardR x14 false 10 s13 fun _ =>
        (faddrV 1 (.ptr σ.length 0)).bind fun x15 =>
        (loadV s13 true 3 x15).bind fun x16 =>
        (faddrV 1 v3).bind fun x17 =>
        (loadV s13 false 1 x17).bind fun x18 =>
        (iaddrV s13 4 x18 v24).bind fun x19 =>
        (faddrV 1 x19).bind fun x20 =>
        (loadV s13 true 3 x20).bind fun x21 =>
        callK C (Hw C X) s13 false (.fn 62 []) [x16, x21] fun x22 s23 =>
        (evUn .not x22).bind fun x24 =>
        some ([x15, x16, x17, x18, v24, x19, x20, x21, x22, x24], s23)).bind fun q25 =>
    (pickV x14 (.bool true) (nthV q25.1 9)).bind fun x26 =>
    condK x26
      (fun _ => finVs p63.keepr [(.bool false)] q25.2)
      (fun _ => (evBin .add .int v24 (.int .i64 1)).bind fun x27 =>
      L63_1 X v3 v22 v23 x27 q25.2))
    (fun _ => finVs p63.keepr [(.bool true)] σ)) := (loopK_keep [3, 22, 23, 24] bL63_1 _ _ _).trans (by kernel_rfl)
/-! isochroneref08.Equal -/
theorem F64 (X : Ext) (v0 v1 : PV) : (Hw C X).pure 64 [v0, v1] =
  ((boxV v0 ([] : Heap)).bind fun s1 =>
  (boxV v1 s1).bind fun s2 =>
  (loadV s2 true 6 (.ptr ([] : Heap).length 0)).bind fun x3 =>
  (loadV s2 true 6 (.ptr s1.length 0)).bind fun x4 =>
  callK C (Hw C X) s2 false (.fn 73 []) [x3, x4] fun x5 s6 =>
  (evBin .eql .int x5 (.int .i64 0)).bind fun x7 =>
  finVs p64.keepr [x7] s6) := (pure_of C64 (Nat.le_of_ble_eq_true rfl)).trans (by kernel_rfl)
/-! isochroneref20.sameRats -/
noncomputable def k65_1 (X : Ext) : Out → EnvF 27 → Heap → Option (List PV) := finK p65
noncomputable def k65_2 (X : Ext) : Out → EnvF 27 → Heap → Option (List PV) := seqK (fun E σ => evCK C (Hw C X) (.seq (.ops p65_9) .ret) E σ (k65_1 X)) (k65_1 X)
noncomputable def k65_3 (X : Ext) : Out → EnvF 27 → Heap → Option (List PV) := blockK 0 (k65_2 X)
noncomputable def L65_1 (X : Ext) (v0 v1 v5 : PV) (σ : Heap) : Option (List PV) := loopK (Hw C X) cL65_1 (envOf 27 [(0, v0), (1, v1), (5, v5)]) σ (k65_3 X)
theorem F65 (X : Ext) (v0 v1 : PV) : (Hw C X).pure 65 [v0, v1] =
  ((lenP ([] : Heap) .slice v0).bind fun x1 =>
  (lenP ([] : Heap) .slice v1).bind fun x2 =>
  (evBin .neq .int (.int .i64 (x1 : Nat)) (.int .i64 (x2 : Nat))).bind fun x3 =>
  condK x3
    (fun _ => finVs p65.keepr [(.bool false)] ([] : Heap))
    (fun _ => L65_1 X v0 v1 (.int .i64 0) ([] : Heap))) := (pure_of C65 (Nat.le_of_ble_eq_true rfl)).trans (by kernel_rfl)
theorem L65_1_eq (X : Ext) (v0 v1 v5 : PV) (σ : Heap) : L65_1 X v0 v1 v5 σ =
  ((lenP σ .slice v0).bind fun x1 =>
  (evBin .lss .int v5 (.int .i64 (x1 : Nat))).bind fun x2 =>
  condK x2
    (fun _ => (iaddrV σ 3 v0 v5).bind fun x3 =>
    (loadV σ true 3 x3).bind fun x4 =>
    (iaddrV σ 3 v1 v5).bind fun x5 =>
    (loadV σ true 3 x5).bind fun x6 =>
    callK C (Hw C X) σ false (.fn 67 []) [x4, x6] fun x7 s8 =>
    (evUn .not x7).bind fun x9 =>
    condK x9
      (fun _ => finVs p65.keepr [(.bool false)] s8)
      (fun _ => (evBin .add .int v5 (.int .i64 1)).bind fun x10 =>
      L65_1 X v0 v1 x10 s8))
    (fun _ => finVs p65.keepr [(.bool true)] σ)) := (loopK_keep [0, 1, 5] bL65_1 _ _ _).trans (by kernel_rfl)
end Go.Proofs.YtkpbfldnickghaaDoor
