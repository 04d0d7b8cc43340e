/- What each piece of the functions comes to, printed by a program of this session; each equation held by the kernel. -/
import Derived.Test.YtkpbfldnickghaaDoorFns
import Derived.Test.YtkpbfldnickghaaDoorPEm
import Derived.KernelRfl
set_option maxRecDepth 100000
set_option linter.unusedVariables false
namespace Go.Proofs.YtkpbfldnickghaaDoor
open Go Go.PE
/-! isochroneref03.Same -/
noncomputable def k66_1 (X : Ext) : Out → EnvF 70 → Heap → Option (List PV) := finK p66
noncomputable def k66_2 (X : Ext) : Out → EnvF 70 → Heap → Option (List PV) := seqK (fun E σ => evCK C (Hw C X) (.seq (.ops p66_18) .ret) E σ (k66_1 X)) (k66_1 X)
noncomputable def k66_3 (X : Ext) : Out → EnvF 70 → Heap → Option (List PV) := blockK 0 (k66_2 X)
noncomputable def L66_1 (X : Ext) (v3 v24 v25 v26 : PV) (σ : Heap) : Option (List PV) := loopK (Hw C X) cL66_1 (envOf 70 [(3, v3), (24, v24), (25, v25), (26, v26)]) σ (k66_3 X)
noncomputable def k66_4 (X : Ext) : Out → EnvF 70 → Heap → Option (List PV) := roundK C X cL66_1 (k66_3 X)
noncomputable def k66_5 (X : Ext) : Out → EnvF 70 → Heap → Option (List PV) := seqK (fun E σ => evCK C (Hw C X) (.ops p66_16) E σ (k66_4 X)) (k66_4 X)
noncomputable def k66_6 (X : Ext) : Out → EnvF 70 → Heap → Option (List PV) := blockK 1 (k66_5 X)
noncomputable def k66_7 (X : Ext) : Out → EnvF 70 → Heap → Option (List PV) := blockK 2 (k66_6 X)
noncomputable def L66_2 (X : Ext) (v3 v6 v7 v24 v25 v26 v53 v54 : PV) (σ : Heap) : Option (List PV) := loopK (Hw C X) cL66_2 (envOf 70 [(3, v3), (6, v6), (7, v7), (24, v24), (25, v25), (26, v26), (53, v53), (54, v54)]) σ (k66_7 X)
theorem F66 (X : Ext) (v0 v1 : PV) : (Hw C X).pure 66 [v0, v1] =
  ((boxV v0 ([] : Heap)).bind fun s1 =>
  (boxV v1 s1).bind fun s2 =>
  (faddrV 0 (.ptr ([] : Heap).length 0)).bind fun x3 =>
  (loadV s2 false 1 x3).bind fun x4 =>
  (faddrV 0 (.ptr s1.length 0)).bind fun x5 =>
  (loadV s2 false 1 x5).bind fun x6 =>
  (evBin .neq .int x4 x6).bind fun x7 =>
  (guardR x7 false 7 s2 fun _ =>
      (faddrV 1 (.ptr ([] : Heap).length 0)).bind fun x8 =>
      (loadV s2 false 1 x8).bind fun x9 =>
      (lenP s2 .slice x9).bind fun x10 =>
      (faddrV 1 (.ptr s1.length 0)).bind fun x11 =>
      (loadV s2 false 1 x11).bind fun x12 =>
      (lenP s2 .slice x12).bind fun x13 =>
      (evBin .neq .int (.int .i64 (x10 : Nat)) (.int .i64 (x13 : Nat))).bind fun x14 =>
      some ([x8, x9, (.int .i64 (x10 : Nat)), x11, x12, (.int .i64 (x13 : Nat)), x14], s2)).bind fun q15 =>
  (pickV x7 (.bool true) (nthV q15.1 6)).bind fun x16 =>
  condK x16
    (fun _ => finVs p66.keepr [(.bool false)] q15.2)
    (fun _ => (faddrV 1 (.ptr ([] : Heap).length 0)).bind fun x17 =>
    (loadV q15.2 false 1 x17).bind fun x18 =>
    (lenP q15.2 .slice x18).bind fun x19 =>
    L66_1 X (.ptr s1.length 0) x18 (.int .i64 (x19 : Nat)) (.int .i64 0) q15.2)) := (pure_of C66 (Nat.le_of_ble_eq_true rfl)).trans (by kernel_rfl)
theorem L66_1_eq (X : Ext) (v3 v24 v25 v26 : PV) (σ : Heap) : L66_1 X v3 v24 v25 v26 σ =
  ((evBin .lss .int v26 v25).bind fun x1 =>
  condK x1
    (fun _ => (iaddrV σ 4 v24 v26).bind fun x2 =>
    (loadV σ true 4 x2).bind fun x3 =>
    (storeV (σ ++ [Go.PE.Obj.box [.nils, (.bool false), .nils, .nils]]) 4 (.ptr σ.length 0) x3).bind fun s4 =>
    (faddrV 1 v3).bind fun x5 =>
    (loadV s4 false 1 x5).bind fun x6 =>
    (iaddrV s4 4 x6 v26).bind fun x7 =>
    (loadV s4 true 4 x7).bind fun x8 =>
    (storeV (s4 ++ [Go.PE.Obj.box [.nils, (.bool false), .nils, .nils]]) 4 (.ptr s4.length 0) x8).bind fun s9 =>
    (faddrV 0 (.ptr σ.length 0)).bind fun x10 =>
    (loadV s9 false 1 x10).bind fun x11 =>
    (lenP s9 .slice x11).bind fun x12 =>
    (faddrV 0 (.ptr s4.length 0)).bind fun x13 =>
    (loadV s9 false 1 x13).bind fun x14 =>
    (lenP s9 .slice x14).bind fun x15 =>
    (evBin .neq .int (.int .i64 (x12 : Nat)) (.int .i64 (x15 : Nat))).bind fun x16 =>
    (guardR x16 false 6 s9 fun _ =>
        (faddrV 1 (.ptr σ.length 0)).bind fun x17 =>
        (loadV s9 true 3 x17).bind fun x18 =>
        (faddrV 1 (.ptr s4.length 0)).bind fun x19 =>
        (loadV s9 true 3 x19).bind fun x20 =>
        callK C (Hw C X) s9 false (.fn 67 []) [x18, x20] fun x21 s22 =>
        (evUn .not x21).bind fun x23 =>
        some ([x17, x18, x19, x20, x21, x23], s22)).bind fun q24 =>
    (pickV x16 (.bool true) (nthV q24.1 5)).bind fun x25 =>
    condK x25
      (fun _ => finVs p66.keepr [(.bool false)] q24.2)
      (fun _ => (faddrV 0 (.ptr σ.length 0)).bind fun x26 =>
      (loadV q24.2 false 1 x26).bind fun x27 =>
      (lenP q24.2 .slice x27).bind fun x28 =>
      L66_2 X v3 (.ptr σ.length 0) (.ptr s4.length 0) v24 v25 v26 (.int .i64 (x28 : Nat)) (.int .i64 0) q24.2))
    (fun _ => finVs p66.keepr [(.bool true)] σ)) := (loopK_keep [3, 24, 25, 26] bL66_1 _ _ _).trans (by kernel_rfl)
theorem L66_2_eq (X : Ext) (v3 v6 v7 v24 v25 v26 v53 v54 : PV) (σ : Heap) : L66_2 X v3 v6 v7 v24 v25 v26 v53 v54 σ =
  ((evBin .lss .int v54 v53).bind fun x1 =>
  condK x1
    (fun _ => (faddrV 0 v6).bind fun x2 =>
    (loadV σ false 1 x2).bind fun x3 =>
    (iaddrV σ 1 x3 v54).bind fun x4 =>
    (loadV σ false 1 x4).bind fun x5 =>
    (faddrV 0 v7).bind fun x6 =>
    (loadV σ false 1 x6).bind fun x7 =>
    (iaddrV σ 1 x7 v54).bind fun x8 =>
    (loadV σ false 1 x8).bind fun x9 =>
    (evBin .neq .int x5 x9).bind fun x10 =>
    condK x10
      (fun _ => finVs p66.keepr [(.bool false)] σ)
      (fun _ => (evBin .add .int v54 (.int .i64 1)).bind fun x11 =>
      L66_2 X v3 v6 v7 v24 v25 v26 v53 x11 σ))
    (fun _ => (evBin .add .int v26 (.int .i64 1)).bind fun x12 =>
    L66_1 X v3 v24 v25 x12 σ)) := (loopK_keep [3, 6, 7, 24, 25, 26, 53, 54] bL66_2 _ _ _).trans (by kernel_rfl)
/-! isochroneref02.Same -/
theorem F67 (X : Ext) (v0 v1 : PV) : (Hw C X).pure 67 [v0, v1] =
  ((boxV v0 ([] : Heap)).bind fun s1 =>
  (boxV v1 s1).bind fun s2 =>
  (faddrV 0 (.ptr ([] : Heap).length 0)).bind fun x3 =>
  (loadV s2 false 1 x3).bind fun x4 =>
  (faddrV 0 (.ptr s1.length 0)).bind fun x5 =>
  (loadV s2 false 1 x5).bind fun x6 =>
  (evBin .eql .bool x4 x6).bind fun x7 =>
  (guardR x7 true 5 s2 fun _ =>
      (faddrV 1 (.ptr ([] : Heap).length 0)).bind fun x8 =>
      (loadV s2 false 1 x8).bind fun x9 =>
      (faddrV 1 (.ptr s1.length 0)).bind fun x10 =>
      (loadV s2 false 1 x10).bind fun x11 =>
      callK C (Hw C X) s2 false (.fn 74 []) [x9, x11] fun x12 s13 =>
      some ([x8, x9, x10, x11, x12], s13)).bind fun q14 =>
  (pickV x7 (nthV q14.1 4) (.bool false)).bind fun x15 =>
  (guardR x15 true 5 q14.2 fun _ =>
      (faddrV 2 (.ptr ([] : Heap).length 0)).bind fun x16 =>
      (loadV q14.2 false 1 x16).bind fun x17 =>
      (faddrV 2 (.ptr s1.length 0)).bind fun x18 =>
      (loadV q14.2 false 1 x18).bind fun x19 =>
      callK C (Hw C X) q14.2 false (.fn 74 []) [x17, x19] fun x20 s21 =>
      some ([x16, x17, x18, x19, x20], s21)).bind fun q22 =>
  (pickV x15 (nthV q22.1 4) (.bool false)).bind fun x23 =>
  finVs p67.keepr [x23] q22.2) := (pure_of C67 (Nat.le_of_ble_eq_true rfl)).trans (by kernel_rfl)
/-! isochroneref08.Natural -/
theorem F70 (X : Ext) (v0 v1 : PV) : (Hw C X).pure 70 [v0, v1] =
  ((boxV v0 ([] : Heap)).bind fun s1 =>
  (faddrV 1 (.ptr ([] : Heap).length 0)).bind fun x2 =>
  (loadV s1 false 1 x2).bind fun x3 =>
  (lenP s1 .slice x3).bind fun x4 =>
  (evBin .eql .int (.int .i64 (x4 : Nat)) (.int .i64 0)).bind fun x5 =>
  condK x5
    (fun _ => finVs p70.keepr [(.int .i64 0)] s1)
    (fun _ => (faddrV 1 (.ptr ([] : Heap).length 0)).bind fun x6 =>
    (loadV s1 false 1 x6).bind fun x7 =>
    (lenP s1 .slice x7).bind fun x8 =>
    (evBin .gtr .int (.int .i64 (x8 : Nat)) (.int .i64 1)).bind fun x9 =>
    (guardR x9 false 7 s1 fun _ =>
        (faddrV 1 (.ptr ([] : Heap).length 0)).bind fun x10 =>
        (loadV s1 false 1 x10).bind fun x11 =>
        (iaddrV s1 1 x11 (.int .i64 0)).bind fun x12 =>
        (loadV s1 false 1 x12).bind fun x13 =>
        (evPrim [] s1 (.toint .i64 (.cst x13))).bind fun q14 =>
        (evBin .gtr .int q14.1 v1).bind fun x15 =>
        some ([x10, x11, x12, x13, q14.1, v1, x15], q14.2)).bind fun q16 =>
    (pickV x9 (.bool true) (nthV q16.1 6)).bind fun x17 =>
    condK x17
      (fun _ => finVs p70.keepr [(.int .i64 (-1))] q16.2)
      (fun _ => (faddrV 1 (.ptr ([] : Heap).length 0)).bind fun x18 =>
      (loadV q16.2 false 1 x18).bind fun x19 =>
      (iaddrV q16.2 1 x19 (.int .i64 0)).bind fun x20 =>
      (loadV q16.2 false 1 x20).bind fun x21 =>
      (evPrim [] q16.2 (.toint .i64 (.cst x21))).bind fun q22 =>
      finVs p70.keepr [q22.1] q22.2))) := (pure_of C70 (Nat.le_of_ble_eq_true rfl)).trans (by kernel_rfl)
/-! tree.Compare -/
noncomputable def k72_1 (X : Ext) : Out → EnvF 101 → Heap → Option (List PV) := finK p72
noncomputable def k72_2 (X : Ext) : Out → EnvF 101 → Heap → Option (List PV) := seqK (fun E σ => evCK C (Hw C X) (.seq (.ops p72_23) .ret) E σ (k72_1 X)) (k72_1 X)
noncomputable def k72_3 (X : Ext) : Out → EnvF 101 → Heap → Option (List PV) := blockK 1 (k72_2 X)
noncomputable def L72_1 (X : Ext) (v2 v3 v82 v83 : PV) (σ : Heap) : Option (List PV) := loopK (Hw C X) cL72_1 (envOf 101 [(2, v2), (3, v3), (82, v82), (83, v83)]) σ (k72_3 X)
theorem F72 (X : Ext) (v0 v1 : PV) : (Hw C X).pure 72 [v0, v1] =
  ((boxV v0 ([] : Heap)).bind fun s1 =>
  (boxV v1 s1).bind fun s2 =>
  (faddrV 0 (.ptr ([] : Heap).length 0)).bind fun x3 =>
  (loadV s2 false 1 x3).bind fun x4 =>
  (faddrV 0 (.ptr s1.length 0)).bind fun x5 =>
  (loadV s2 false 1 x5).bind fun x6 =>
  (evBin .neq .int x4 x6).bind fun x7 =>
  condK x7
    (fun _ => (faddrV 0 (.ptr ([] : Heap).length 0)).bind fun x8 =>
    (loadV s2 false 1 x8).bind fun x9 =>
    (faddrV 0 (.ptr s1.length 0)).bind fun x10 =>
    (loadV s2 false 1 x10).bind fun x11 =>
    (evBin .lss .int x9 x11).bind fun x12 =>
    callK C (Hw C X) s2 false (.fn 90 []) [x12] fun x13 s14 =>
    finVs p72.keepr [x13] s14)
    (fun _ => (faddrV 1 (.ptr ([] : Heap).length 0)).bind fun x15 =>
    (loadV s2 false 1 x15).bind fun x16 =>
    (faddrV 1 (.ptr s1.length 0)).bind fun x17 =>
    (loadV s2 false 1 x17).bind fun x18 =>
    (evBin .neq .str x16 x18).bind fun x19 =>
    condK x19
      (fun _ => (faddrV 1 (.ptr ([] : Heap).length 0)).bind fun x20 =>
      (loadV s2 false 1 x20).bind fun x21 =>
      (faddrV 1 (.ptr s1.length 0)).bind fun x22 =>
      (loadV s2 false 1 x22).bind fun x23 =>
      (evBin .lss .str x21 x23).bind fun x24 =>
      callK C (Hw C X) s2 false (.fn 90 []) [x24] fun x25 s26 =>
      finVs p72.keepr [x25] s26)
      (fun _ => (faddrV 2 (.ptr ([] : Heap).length 0)).bind fun x27 =>
      (faddrV 0 x27).bind fun x28 =>
      (loadV s2 false 1 x28).bind fun x29 =>
      (faddrV 2 (.ptr s1.length 0)).bind fun x30 =>
      (faddrV 0 x30).bind fun x31 =>
      (loadV s2 false 1 x31).bind fun x32 =>
      (evBin .neq .bool x29 x32).bind fun x33 =>
      condK x33
        (fun _ => (faddrV 2 (.ptr s1.length 0)).bind fun x34 =>
        (faddrV 0 x34).bind fun x35 =>
        (loadV s2 false 1 x35).bind fun x36 =>
        callK C (Hw C X) s2 false (.fn 90 []) [x36] fun x37 s38 =>
        finVs p72.keepr [x37] s38)
        (fun _ => (faddrV 2 (.ptr ([] : Heap).length 0)).bind fun x39 =>
        (faddrV 1 x39).bind fun x40 =>
        (loadV s2 false 1 x40).bind fun x41 =>
        (faddrV 2 (.ptr s1.length 0)).bind fun x42 =>
        (faddrV 1 x42).bind fun x43 =>
        (loadV s2 false 1 x43).bind fun x44 =>
        callK C (Hw C X) s2 false (.fn 91 []) [x41, x44] fun x45 s46 =>
        (evBin .neq .int x45 (.int .i64 0)).bind fun x47 =>
        condK x47
          (fun _ => finVs p72.keepr [x45] s46)
          (fun _ => (faddrV 2 (.ptr ([] : Heap).length 0)).bind fun x48 =>
          (faddrV 2 x48).bind fun x49 =>
          (loadV s46 false 1 x49).bind fun x50 =>
          (faddrV 2 (.ptr s1.length 0)).bind fun x51 =>
          (faddrV 2 x51).bind fun x52 =>
          (loadV s46 false 1 x52).bind fun x53 =>
          callK C (Hw C X) s46 false (.fn 91 []) [x50, x53] fun x54 s55 =>
          (evBin .neq .int x54 (.int .i64 0)).bind fun x56 =>
          condK x56
            (fun _ => finVs p72.keepr [x54] s55)
            (fun _ => (faddrV 5 (.ptr ([] : Heap).length 0)).bind fun x57 =>
            (loadV s55 false 1 x57).bind fun x58 =>
            (lenP s55 .slice x58).bind fun x59 =>
            (faddrV 5 (.ptr s1.length 0)).bind fun x60 =>
            (loadV s55 false 1 x60).bind fun x61 =>
            (lenP s55 .slice x61).bind fun x62 =>
            (evBin .neq .int (.int .i64 (x59 : Nat)) (.int .i64 (x62 : Nat))).bind fun x63 =>
            condK x63
              (fun _ => (faddrV 5 (.ptr ([] : Heap).length 0)).bind fun x64 =>
              (loadV s55 false 1 x64).bind fun x65 =>
              (lenP s55 .slice x65).bind fun x66 =>
              (faddrV 5 (.ptr s1.length 0)).bind fun x67 =>
              (loadV s55 false 1 x67).bind fun x68 =>
              (lenP s55 .slice x68).bind fun x69 =>
              (evBin .lss .int (.int .i64 (x66 : Nat)) (.int .i64 (x69 : Nat))).bind fun x70 =>
              callK C (Hw C X) s55 false (.fn 90 []) [x70] fun x71 s72 =>
              finVs p72.keepr [x71] s72)
              (fun _ => (faddrV 5 (.ptr ([] : Heap).length 0)).bind fun x73 =>
              (loadV s55 false 1 x73).bind fun x74 =>
              (lenP s55 .slice x74).bind fun x75 =>
              L72_1 X (.ptr ([] : Heap).length 0) (.ptr s1.length 0) (.int .i64 (x75 : Nat)) (.int .i64 0) s55))))))) := (pure_of C72 (Nat.le_of_ble_eq_true rfl)).trans (by kernel_rfl)
theorem L72_1_eq (X : Ext) (v2 v3 v82 v83 : PV) (σ : Heap) : L72_1 X v2 v3 v82 v83 σ =
  ((evBin .lss .int v83 v82).bind fun x1 =>
  condK x1
    (fun _ => (faddrV 5 v2).bind fun x2 =>
    (loadV σ false 1 x2).bind fun x3 =>
    (iaddrV σ 6 x3 v83).bind fun x4 =>
    (loadV σ true 6 x4).bind fun x5 =>
    (faddrV 5 v3).bind fun x6 =>
    (loadV σ false 1 x6).bind fun x7 =>
    (iaddrV σ 6 x7 v83).bind fun x8 =>
    (loadV σ true 6 x8).bind fun x9 =>
    callK C (Hw C X) σ false (.fn 72 []) [x5, x9] fun x10 s11 =>
    (evBin .neq .int x10 (.int .i64 0)).bind fun x12 =>
    condK x12
      (fun _ => finVs p72.keepr [x10] s11)
      (fun _ => (evBin .add .int v83 (.int .i64 1)).bind fun x13 =>
      L72_1 X v2 v3 v82 x13 s11))
    (fun _ => finVs p72.keepr [(.int .i64 0)] σ)) := (loopK_keep [2, 3, 82, 83] bL72_1 _ _ _).trans (by kernel_rfl)
/-! isochroneref08.Compare -/
noncomputable def k73_1 (X : Ext) : Out → EnvF 90 → Heap → Option (List PV) := finK p73
noncomputable def k73_2 (X : Ext) : Out → EnvF 90 → Heap → Option (List PV) := seqK (fun E σ => evCK C (Hw C X) (.seq (.ops p73_28) .ret) E σ (k73_1 X)) (k73_1 X)
noncomputable def k73_3 (X : Ext) : Out → EnvF 90 → Heap → Option (List PV) := blockK 0 (k73_2 X)
noncomputable def L73_1 (X : Ext) (v2 v3 v9 : PV) (σ : Heap) : Option (List PV) := loopK (Hw C X) cL73_1 (envOf 90 [(2, v2), (3, v3), (9, v9)]) σ (k73_3 X)
theorem F73 (X : Ext) (v0 v1 : PV) : (Hw C X).pure 73 [v0, v1] =
  ((boxV v0 ([] : Heap)).bind fun s1 =>
  (boxV v1 s1).bind fun s2 =>
  (faddrV 0 (.ptr ([] : Heap).length 0)).bind fun x3 =>
  (loadV s2 false 1 x3).bind fun x4 =>
  (faddrV 0 (.ptr s1.length 0)).bind fun x5 =>
  (loadV s2 false 1 x5).bind fun x6 =>
  callK C (Hw C X) s2 false (.fn 92 []) [x4, x6] fun x7 s8 =>
  (evBin .neq .int x7 (.int .i64 0)).bind fun x9 =>
  condK x9
    (fun _ => finVs p73.keepr [x7] s8)
    (fun _ => (faddrV 1 (.ptr ([] : Heap).length 0)).bind fun x10 =>
    (loadV s8 false 1 x10).bind fun x11 =>
    (faddrV 1 (.ptr s1.length 0)).bind fun x12 =>
    (loadV s8 false 1 x12).bind fun x13 =>
    (evBin .neq .str x11 x13).bind fun x14 =>
    condK x14
      (fun _ => (faddrV 1 (.ptr ([] : Heap).length 0)).bind fun x15 =>
      (loadV s8 false 1 x15).bind fun x16 =>
      (faddrV 1 (.ptr s1.length 0)).bind fun x17 =>
      (loadV s8 false 1 x17).bind fun x18 =>
      (evBin .lss .str x16 x18).bind fun x19 =>
      condK x19
        (fun _ => finVs p73.keepr [(.int .i64 (-1))] s8)
        (fun _ => finVs p73.keepr [(.int .i64 1)] s8))
      (fun _ => (faddrV 2 (.ptr ([] : Heap).length 0)).bind fun x20 =>
      (faddrV 0 x20).bind fun x21 =>
      (loadV s8 false 1 x21).bind fun x22 =>
      (faddrV 2 (.ptr s1.length 0)).bind fun x23 =>
      (faddrV 0 x23).bind fun x24 =>
      (loadV s8 false 1 x24).bind fun x25 =>
      (evBin .neq .bool x22 x25).bind fun x26 =>
      condK x26
        (fun _ => (faddrV 2 (.ptr s1.length 0)).bind fun x27 =>
        (faddrV 0 x27).bind fun x28 =>
        (loadV s8 false 1 x28).bind fun x29 =>
        condK x29
          (fun _ => finVs p73.keepr [(.int .i64 (-1))] s8)
          (fun _ => finVs p73.keepr [(.int .i64 1)] s8))
        (fun _ => (faddrV 2 (.ptr ([] : Heap).length 0)).bind fun x30 =>
        (faddrV 1 x30).bind fun x31 =>
        (loadV s8 false 1 x31).bind fun x32 =>
        (faddrV 2 (.ptr s1.length 0)).bind fun x33 =>
        (faddrV 1 x33).bind fun x34 =>
        (loadV s8 false 1 x34).bind fun x35 =>
        callK C (Hw C X) s8 false (.fn 93 []) [x32, x35] fun x36 s37 =>
        (evBin .neq .int x36 (.int .i64 0)).bind fun x38 =>
        condK x38
          (fun _ => finVs p73.keepr [x36] s37)
          (fun _ => (faddrV 2 (.ptr ([] : Heap).length 0)).bind fun x39 =>
          (faddrV 2 x39).bind fun x40 =>
          (loadV s37 false 1 x40).bind fun x41 =>
          (faddrV 2 (.ptr s1.length 0)).bind fun x42 =>
          (faddrV 2 x42).bind fun x43 =>
          (loadV s37 false 1 x43).bind fun x44 =>
          callK C (Hw C X) s37 false (.fn 93 []) [x41, x44] fun x45 s46 =>
          (evBin .neq .int x45 (.int .i64 0)).bind fun x47 =>
          condK x47
            (fun _ => finVs p73.keepr [x45] s46)
            (fun _ => (faddrV 5 (.ptr ([] : Heap).length 0)).bind fun x48 =>
            (loadV s46 false 1 x48).bind fun x49 =>
            (lenP s46 .slice x49).bind fun x50 =>
            (faddrV 5 (.ptr s1.length 0)).bind fun x51 =>
            (loadV s46 false 1 x51).bind fun x52 =>
            (lenP s46 .slice x52).bind fun x53 =>
            callK C (Hw C X) s46 false (.fn 92 []) [(.int .i64 (x50 : Nat)), (.int .i64 (x53 : Nat))] fun x54 s55 =>
            (evBin .neq .int x54 (.int .i64 0)).bind fun x56 =>
            condK x56
              (fun _ => finVs p73.keepr [x54] s55)
              (fun _ => L73_1 X (.ptr ([] : Heap).length 0) (.ptr s1.length 0) (.int .i64 0) s55))))))) := (pure_of C73 (Nat.le_of_ble_eq_true rfl)).trans (by kernel_rfl)
theorem L73_1_eq (X : Ext) (v2 v3 v9 : PV) (σ : Heap) : L73_1 X v2 v3 v9 σ =
  ((faddrV 5 v2).bind fun x1 =>
  (loadV σ false 1 x1).bind fun x2 =>
  (lenP σ .slice x2).bind fun x3 =>
  (evBin .lss .int v9 (.int .i64 (x3 : Nat))).bind fun x4 =>
  condK x4
    (fun _ => (faddrV 5 v2).bind fun x5 =>
    (loadV σ false 1 x5).bind fun x6 =>
    (iaddrV σ 6 x6 v9).bind fun x7 =>
    (loadV σ true 6 x7).bind fun x8 =>
    (faddrV 5 v3).bind fun x9 =>
    (loadV σ false 1 x9).bind fun x10 =>
    (iaddrV σ 6 x10 v9).bind fun x11 =>
    (loadV σ true 6 x11).bind fun x12 =>
    callK C (Hw C X) σ false (.fn 73 []) [x8, x12] fun x13 s14 =>
    (evBin .neq .int x13 (.int .i64 0)).bind fun x15 =>
    condK x15
      (fun _ => finVs p73.keepr [x13] s14)
      (fun _ => (evBin .add .int v9 (.int .i64 1)).bind fun x16 =>
      L73_1 X v2 v3 x16 s14))
    (fun _ => finVs p73.keepr [(.int .i64 0)] σ)) := (loopK_keep [2, 3, 9] bL73_1 _ _ _).trans (by kernel_rfl)
/-! slices.Equal[[]uint32,uint32] -/
noncomputable def k74_1 (X : Ext) : Out → EnvF 26 → Heap → Option (List PV) := finK p74
noncomputable def k74_2 (X : Ext) : Out → EnvF 26 → Heap → Option (List PV) := seqK (fun E σ => evCK C (Hw C X) (.seq (.ops p74_10) .ret) E σ (k74_1 X)) (k74_1 X)
noncomputable def k74_3 (X : Ext) : Out → EnvF 26 → Heap → Option (List PV) := blockK 0 (k74_2 X)
noncomputable def L74_1 (X : Ext) (v0 v1 v12 v13 : PV) (σ : Heap) : Option (List PV) := loopK (Hw C X) cL74_1 (envOf 26 [(0, v0), (1, v1), (12, v12), (13, v13)]) σ (k74_3 X)
theorem F74 (X : Ext) (v0 v1 : PV) : (Hw C X).pure 74 [v0, v1] =
  ((lenP ([] : Heap) .slice v0).bind fun x1 =>
  (lenP ([] : Heap) .slice v1).bind fun x2 =>
  (evBin .neq .int (.int .i64 (x1 : Nat)) (.int .i64 (x2 : Nat))).bind fun x3 =>
  condK x3
    (fun _ => finVs p74.keepr [(.bool false)] ([] : Heap))
    (fun _ => (lenP ([] : Heap) .slice v0).bind fun x4 =>
    L74_1 X v0 v1 (.int .i64 (x4 : Nat)) (.int .i64 0) ([] : Heap))) := (pure_of C74 (Nat.le_of_ble_eq_true rfl)).trans (by kernel_rfl)
theorem L74_1_eq (X : Ext) (v0 v1 v12 v13 : PV) (σ : Heap) : L74_1 X v0 v1 v12 v13 σ =
  ((evBin .lss .int v13 v12).bind fun x1 =>
  condK x1
    (fun _ => (iaddrV σ 1 v0 v13).bind fun x2 =>
    (loadV σ false 1 x2).bind fun x3 =>
    (iaddrV σ 1 v1 v13).bind fun x4 =>
    (loadV σ false 1 x4).bind fun x5 =>
    (evBin .neq .int x3 x5).bind fun x6 =>
    condK x6
      (fun _ => finVs p74.keepr [(.bool false)] σ)
      (fun _ => (evBin .add .int v13 (.int .i64 1)).bind fun x7 =>
      L74_1 X v0 v1 v12 x7 σ))
    (fun _ => finVs p74.keepr [(.bool true)] σ)) := (loopK_keep [0, 1, 12, 13] bL74_1 _ _ _).trans (by kernel_rfl)
/-! tree.less -/
theorem F90 (X : Ext) (v0 : PV) : (Hw C X).pure 90 [v0] =
  (condK v0
    (fun _ => finVs p90.keepr [(.int .i64 (-1))] ([] : Heap))
    (fun _ => finVs p90.keepr [(.int .i64 1)] ([] : Heap))) := (pure_of C90 (Nat.le_of_ble_eq_true rfl)).trans (by kernel_rfl)
/-! tree.words -/
noncomputable def k91_1 (X : Ext) : Out → EnvF 43 → Heap → Option (List PV) := finK p91
noncomputable def k91_2 (X : Ext) : Out → EnvF 43 → Heap → Option (List PV) := seqK (fun E σ => evCK C (Hw C X) (.seq (.ops p91_9) .ret) E σ (k91_1 X)) (k91_1 X)
noncomputable def k91_3 (X : Ext) : Out → EnvF 43 → Heap → Option (List PV) := blockK 0 (k91_2 X)
noncomputable def L91_1 (X : Ext) (v0 v1 v5 : PV) (σ : Heap) : Option (List PV) := loopK (Hw C X) cL91_1 (envOf 43 [(0, v0), (1, v1), (5, v5)]) σ (k91_3 X)
theorem F91 (X : Ext) (v0 v1 : PV) : (Hw C X).pure 91 [v0, v1] =
  ((lenP ([] : Heap) .slice v0).bind fun x1 =>
  (lenP ([] : Heap) .slice v1).bind fun x2 =>
  (evBin .neq .int (.int .i64 (x1 : Nat)) (.int .i64 (x2 : Nat))).bind fun x3 =>
  condK x3
    (fun _ => (lenP ([] : Heap) .slice v0).bind fun x4 =>
    (lenP ([] : Heap) .slice v1).bind fun x5 =>
    (evBin .lss .int (.int .i64 (x4 : Nat)) (.int .i64 (x5 : Nat))).bind fun x6 =>
    callK C (Hw C X) ([] : Heap) false (.fn 90 []) [x6] fun x7 s8 =>
    finVs p91.keepr [x7] s8)
    (fun _ => (lenP ([] : Heap) .slice v0).bind fun x9 =>
    (evBin .sub .int (.int .i64 (x9 : Nat)) (.int .i64 1)).bind fun x10 =>
    L91_1 X v0 v1 x10 ([] : Heap))) := (pure_of C91 (Nat.le_of_ble_eq_true rfl)).trans (by kernel_rfl)
theorem L91_1_eq (X : Ext) (v0 v1 v5 : PV) (σ : Heap) : L91_1 X v0 v1 v5 σ =
  ((evBin .geq .int v5 (.int .i64 0)).bind fun x1 =>
  condK x1
    (fun _ => (iaddrV σ 1 v0 v5).bind fun x2 =>
    (loadV σ false 1 x2).bind fun x3 =>
    (iaddrV σ 1 v1 v5).bind fun x4 =>
    (loadV σ false 1 x4).bind fun x5 =>
    (evBin .neq .int x3 x5).bind fun x6 =>
    condK x6
      (fun _ => (iaddrV σ 1 v0 v5).bind fun x7 =>
      (loadV σ false 1 x7).bind fun x8 =>
      (iaddrV σ 1 v1 v5).bind fun x9 =>
      (loadV σ false 1 x9).bind fun x10 =>
      (evBin .lss .int x8 x10).bind fun x11 =>
      callK C (Hw C X) σ false (.fn 90 []) [x11] fun x12 s13 =>
      finVs p91.keepr [x12] s13)
      (fun _ => (evBin .sub .int v5 (.int .i64 1)).bind fun x14 =>
      L91_1 X v0 v1 x14 σ))
    (fun _ => finVs p91.keepr [(.int .i64 0)] σ)) := (loopK_keep [0, 1, 5] bL91_1 _ _ _).trans (by kernel_rfl)
/-! isochroneref08.less -/
theorem F92 (X : Ext) (v0 v1 : PV) : (Hw C X).pure 92 [v0, v1] =
  ((evBin .lss .int v0 v1).bind fun x1 =>
  condK x1
    (fun _ => finVs p92.keepr [(.int .i64 (-1))] ([] : Heap))
    (fun _ => (evBin .gtr .int v0 v1).bind fun x2 =>
    condK x2
      (fun _ => finVs p92.keepr [(.int .i64 1)] ([] : Heap))
      (fun _ => finVs p92.keepr [(.int .i64 0)] ([] : Heap)))) := (pure_of C92 (Nat.le_of_ble_eq_true rfl)).trans (by kernel_rfl)
/-! isochroneref08.words -/
noncomputable def k93_1 (X : Ext) : Out → EnvF 41 → Heap → Option (List PV) := finK p93
noncomputable def k93_2 (X : Ext) : Out → EnvF 41 → Heap → Option (List PV) := seqK (fun E σ => evCK C (Hw C X) (.seq (.ops p93_13) .ret) E σ (k93_1 X)) (k93_1 X)
noncomputable def k93_3 (X : Ext) : Out → EnvF 41 → Heap → Option (List PV) := blockK 0 (k93_2 X)
noncomputable def L93_1 (X : Ext) (v0 v1 v5 : PV) (σ : Heap) : Option (List PV) := loopK (Hw C X) cL93_1 (envOf 41 [(0, v0), (1, v1), (5, v5)]) σ (k93_3 X)
theorem F93 (X : Ext) (v0 v1 : PV) : (Hw C X).pure 93 [v0, v1] =
  ((lenP ([] : Heap) .slice v0).bind fun x1 =>
  (lenP ([] : Heap) .slice v1).bind fun x2 =>
  (evBin .neq .int (.int .i64 (x1 : Nat)) (.int .i64 (x2 : Nat))).bind fun x3 =>
  condK x3
    (fun _ => (lenP ([] : Heap) .slice v0).bind fun x4 =>
    (lenP ([] : Heap) .slice v1).bind fun x5 =>
    (evBin .lss .int (.int .i64 (x4 : Nat)) (.int .i64 (x5 : Nat))).bind fun x6 =>
    condK x6
      (fun _ => finVs p93.keepr [(.int .i64 (-1))] ([] : Heap))
      (fun _ => finVs p93.keepr [(.int .i64 1)] ([] : Heap)))
    (fun _ => (lenP ([] : Heap) .slice v0).bind fun x7 =>
    (evBin .sub .int (.int .i64 (x7 : Nat)) (.int .i64 1)).bind fun x8 =>
    L93_1 X v0 v1 x8 ([] : Heap))) := (pure_of C93 (Nat.le_of_ble_eq_true rfl)).trans (by kernel_rfl)
theorem L93_1_eq (X : Ext) (v0 v1 v5 : PV) (σ : Heap) : L93_1 X v0 v1 v5 σ =
  ((evBin .geq .int v5 (.int .i64 0)).bind fun x1 =>
  condK x1
    (fun _ => (iaddrV σ 1 v0 v5).bind fun x2 =>
    (loadV σ false 1 x2).bind fun x3 =>
    (iaddrV σ 1 v1 v5).bind fun x4 =>
    (loadV σ false 1 x4).bind fun x5 =>
    (evBin .neq .int x3 x5).bind fun x6 =>
    condK x6
      (fun _ => (iaddrV σ 1 v0 v5).bind fun x7 =>
      (loadV σ false 1 x7).bind fun x8 =>
      (iaddrV σ 1 v1 v5).bind fun x9 =>
      (loadV σ false 1 x9).bind fun x10 =>
      (evBin .lss .int x8 x10).bind fun x11 =>
      condK x11
        (fun _ => finVs p93.keepr [(.int .i64 (-1))] σ)
        (fun _ => finVs p93.keepr [(.int .i64 1)] σ))
      (fun _ => (evBin .sub .int v5 (.int .i64 1)).bind fun x12 =>
      L93_1 X v0 v1 x12 σ))
    (fun _ => finVs p93.keepr [(.int .i64 0)] σ)) := (loopK_keep [0, 1, 5] bL93_1 _ _ _).trans (by kernel_rfl)
end Go.Proofs.YtkpbfldnickghaaDoor
