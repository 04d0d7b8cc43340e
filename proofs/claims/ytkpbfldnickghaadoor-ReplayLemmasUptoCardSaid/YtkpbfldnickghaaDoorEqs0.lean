/- What each piece of the functions comes to, printed by a program of this session; each equation held by the kernel. -/
import Derived.Test.YtkpbfldnickghaaDoorFns
import Derived.Test.YtkpbfldnickghaaDoorPEm
import Derived.KernelRfl
set_option maxRecDepth 100000
set_option linter.unusedVariables false
namespace Go.Proofs.YtkpbfldnickghaaDoor
open Go Go.PE
/-! isochronelaw22.ReplayRecords -/
theorem F3 (X : Ext) (v0 v1 : PV) : (Hw C X).pure 3 [v0, v1] =
  ((boxV v0 ([] : Heap)).bind fun s1 =>
  callK C (Hw C X) s1 false (.fn 6 []) [] fun x2 s3 =>
  (evUn .not x2).bind fun x4 =>
  condK x4
    (fun _ => finVs p3.keepr [(.bool false)] s3)
    (fun _ => (loadV s3 true 12 (.ptr ([] : Heap).length 0)).bind fun x5 =>
    callK C (Hw C X) s3 false (.fn 7 []) [x5] fun x6 s7 =>
    (evBin .gtr .int x6 (.int .i64 3000)).bind fun x8 =>
    (guardR x8 false 3 s7 fun _ =>
        callK C (Hw C X) s7 false (.fn 8 []) [v1] fun x9 s10 =>
        (evUn .not x9).bind fun x11 =>
        some ([v1, x9, x11], s10)).bind fun q12 =>
    (pickV x8 (.bool true) (nthV q12.1 2)).bind fun x13 =>
    condK x13
      (fun _ => finVs p3.keepr [(.bool true)] q12.2)
      (fun _ => (loadV q12.2 true 12 (.ptr ([] : Heap).length 0)).bind fun x14 =>
      callK C (Hw C X) q12.2 false (.fn 9 []) [x14] fun x15 s16 =>
      (extV x15 0).bind fun x17 =>
      (extV x15 1).bind fun x18 =>
      (loadV s16 true 12 (.ptr ([] : Heap).length 0)).bind fun x19 =>
      callK C (Hw C X) s16 false (.fn 10 []) [x19] fun x20 s21 =>
      (extV x20 0).bind fun x22 =>
      (extV x20 1).bind fun x23 =>
      (evBin .neq .int x18 x23).bind fun x24 =>
      (guardR x24 false 4 s21 fun _ =>
          callK C (Hw C X) s21 false (.fn 11 []) [x17, x22] fun x25 s26 =>
          (evUn .not x25).bind fun x27 =>
          some ([x17, x22, x25, x27], s26)).bind fun q28 =>
      (pickV x24 (.bool true) (nthV q28.1 3)).bind fun x29 =>
      condK x29
        (fun _ => finVs p3.keepr [(.bool false)] q28.2)
        (fun _ => callK C (Hw C X) q28.2 false (.fn 12 []) [v1] fun x30 s31 =>
        (extV x30 0).bind fun x32 =>
        (extV x30 1).bind fun x33 =>
        (storeV (s31 ++ [Go.PE.Obj.box [(.str []), (.str []), .nils, .nils, .nils, .nils, (.int .i64 0), .nils, .nils, .nils, .nils, .nils]]) 12 (.ptr s31.length 0) x32).bind fun s34 =>
        callK C (Hw C X) s34 false (.fn 13 []) [v1] fun x35 s36 =>
        (extV x35 0).bind fun x37 =>
        (extV x35 1).bind fun x38 =>
        (storeV (s36 ++ [Go.PE.Obj.box [(.str []), (.str []), .nils, .nils, .nils, .nils, (.int .i64 0), .nils, .nils, .nils, .nils, .nils]]) 12 (.ptr s36.length 0) x37).bind fun s39 =>
        (evBin .neq .int x33 x38).bind fun x40 =>
        (guardR x40 false 4 s39 fun _ =>
            (loadV s39 true 12 (.ptr s31.length 0)).bind fun x41 =>
            (loadV s39 true 12 (.ptr s36.length 0)).bind fun x42 =>
            callK C (Hw C X) s39 false (.fn 14 []) [x41, x42] fun x43 s44 =>
            (evUn .not x43).bind fun x45 =>
            some ([x41, x42, x43, x45], s44)).bind fun q46 =>
        (pickV x40 (.bool true) (nthV q46.1 3)).bind fun x47 =>
        condK x47
          (fun _ => finVs p3.keepr [(.bool false)] q46.2)
          (fun _ => (lenP q46.2 .slice x17).bind fun x48 =>
          (evBin .eql .int (.int .i64 (x48 : Nat)) (.int .i64 0)).bind fun x49 =>
          condK x49
            (fun _ => finVs p3.keepr [(.bool true)] q46.2)
            (fun _ => callK C (Hw C X) q46.2 false (.fn 12 []) [x17] fun x50 s51 =>
            (extV x50 0).bind fun x52 =>
            (extV x50 1).bind fun x53 =>
            (storeV (s51 ++ [Go.PE.Obj.box [(.str []), (.str []), .nils, .nils, .nils, .nils, (.int .i64 0), .nils, .nils, .nils, .nils, .nils]]) 12 (.ptr s51.length 0) x52).bind fun s54 =>
            (evBin .eql .int x53 (.int .i64 0)).bind fun x55 =>
            (guardR x55 true 3 s54 fun _ =>
                (loadV s54 true 12 (.ptr ([] : Heap).length 0)).bind fun x56 =>
                (loadV s54 true 12 (.ptr s51.length 0)).bind fun x57 =>
                callK C (Hw C X) s54 false (.fn 14 []) [x56, x57] fun x58 s59 =>
                some ([x56, x57, x58], s59)).bind fun q60 =>
            (pickV x55 (nthV q60.1 2) (.bool false)).bind fun x61 =>
            (guardR x61 true 3 q60.2 fun _ =>
                (loadV q60.2 true 12 (.ptr ([] : Heap).length 0)).bind fun x62 =>
                (loadV q60.2 true 12 (.ptr s51.length 0)).bind fun x63 =>
                callK C (Hw C X) q60.2 false (.fn 15 []) [x62, x63] fun x64 s65 =>
                some ([x62, x63, x64], s65)).bind fun q66 =>
            (pickV x61 (nthV q66.1 2) (.bool false)).bind fun x67 =>
            finVs p3.keepr [x67] q66.2)))))) := (pure_of C3 (Nat.le_of_ble_eq_true rfl)).trans (by kernel_rfl)
/-! isochronelaw22.ReplayEquals -/
theorem F4 (X : Ext) (v0 v1 : PV) : (Hw C X).pure 4 [v0, v1] =
  ((boxV v0 ([] : Heap)).bind fun s1 =>
  (boxV v1 s1).bind fun s2 =>
  callK C (Hw C X) s2 false (.fn 6 []) [] fun x3 s4 =>
  (evUn .not x3).bind fun x5 =>
  condK x5
    (fun _ => finVs p4.keepr [(.bool false)] s4)
    (fun _ => (loadV s4 true 12 (.ptr ([] : Heap).length 0)).bind fun x6 =>
    callK C (Hw C X) s4 true (.fn 7 []) [x6] fun x7 s8 =>
    (evBin .gtr .int x7 (.int .i64 3000)).bind fun x9 =>
    (guardR x9 false 3 s8 fun _ =>
        (loadV s8 true 12 (.ptr s1.length 0)).bind fun x10 =>
        callK C (Hw C X) s8 true (.fn 7 []) [x10] fun x11 s12 =>
        (evBin .gtr .int x11 (.int .i64 3000)).bind fun x13 =>
        some ([x10, x11, x13], s12)).bind fun q14 =>
    (pickV x9 (.bool true) (nthV q14.1 2)).bind fun x15 =>
    (guardR x15 false 7 q14.2 fun _ =>
        (loadV q14.2 true 12 (.ptr ([] : Heap).length 0)).bind fun x16 =>
        (loadV q14.2 true 12 (.ptr s1.length 0)).bind fun x17 =>
        callK C (Hw C X) q14.2 true (.fn 15 []) [x16, x17] fun x18 s19 =>
        (loadV s19 true 12 (.ptr ([] : Heap).length 0)).bind fun x20 =>
        (loadV s19 true 12 (.ptr s1.length 0)).bind fun x21 =>
        callK C (Hw C X) s19 true (.fn 14 []) [x20, x21] fun x22 s23 =>
        (evBin .eql .bool x18 x22).bind fun x24 =>
        some ([x16, x17, x18, x20, x21, x22, x24], s23)).bind fun q25 =>
    (pickV x15 (.bool true) (nthV q25.1 6)).bind fun x26 =>
    finVs p4.keepr [x26] q25.2)) := (pure_of C4 (Nat.le_of_ble_eq_true rfl)).trans (by kernel_rfl)
/-! isochronelaw22.ReplayLemmas -/
theorem F5 (X : Ext) (v0 : PV) : (Hw C X).pure 5 [v0] =
  ((boxV v0 ([] : Heap)).bind fun s1 =>
  callK C (Hw C X) s1 false (.fn 6 []) [] fun x2 s3 =>
  (evUn .not x2).bind fun x4 =>
  condK x4
    (fun _ => finVs p5.keepr [(.bool false)] s3)
    (fun _ => (loadV s3 true 12 (.ptr ([] : Heap).length 0)).bind fun x5 =>
    callK C (Hw C X) s3 false (.fn 7 []) [x5] fun x6 s7 =>
    (evBin .gtr .int x6 (.int .i64 3000)).bind fun x8 =>
    condK x8
      (fun _ => finVs p5.keepr [(.bool true)] s7)
      (fun _ => (loadV s7 true 12 (.ptr ([] : Heap).length 0)).bind fun x9 =>
      callK C (Hw C X) s7 false (.fn 16 []) [x9] fun x10 s11 =>
      (extV x10 0).bind fun x12 =>
      (extV x10 1).bind fun x13 =>
      (loadV s11 true 12 (.ptr ([] : Heap).length 0)).bind fun x14 =>
      callK C (Hw C X) s11 false (.fn 17 []) [x14] fun x15 s16 =>
      (extV x15 0).bind fun x17 =>
      (extV x15 1).bind fun x18 =>
      (evBin .eql .int x13 x18).bind fun x19 =>
      (guardR x19 true 3 s16 fun _ =>
          callK C (Hw C X) s16 false (.fn 18 []) [x12, x17] fun x20 s21 =>
          some ([x12, x17, x20], s21)).bind fun q22 =>
      (pickV x19 (nthV q22.1 2) (.bool false)).bind fun x23 =>
      finVs p5.keepr [x23] q22.2))) := (pure_of C5 (Nat.le_of_ble_eq_true rfl)).trans (by kernel_rfl)
/-! isochronelaw22.awake -/
theorem F6 (X : Ext)  : (Hw C X).pure 6 [] =
  ((evPrim [] ([] : Heap) (.build [(.str []), (.str []), .nils, .nils, .nils, .nils, (.int .i64 0), .nils, .nils, .nils, .nils, .nils] [(0, 1, (.cst (.str [97, 120, 105, 111, 109]))), (1, 1, (.cst (.str [114, 101, 102, 108])))])).bind fun q1 =>
  (storeV (q1.2 ++ [Go.PE.Obj.box [(.str []), (.str []), .nils, .nils, .nils, .nils, (.int .i64 0), .nils, .nils, .nils, .nils, .nils]]) 12 (.ptr q1.2.length 0) q1.1).bind fun s2 =>
  (loadV s2 true 12 (.ptr q1.2.length 0)).bind fun x3 =>
  (loadV s2 true 12 (.ptr q1.2.length 0)).bind fun x4 =>
  (evPrim [] s2 (.bslice 12 [none, none, (some 6), (some 13), (some 1), (some 1), none, (some 3), (some 2), (some 5), (some 5), (some 12)] [(.str []), (.str []), .nils, .nils, .nils, .nils, (.int .i64 0), .nils, .nils, .nils, .nils, .nils] 2 [(0, (.cst x3)), (1, (.cst x4))])).bind fun q5 =>
  (evPrim [] q5.2 (.build [(.str []), (.str []), .nils, .nils, .nils, .nils, (.int .i64 0), .nils, .nils, .nils, .nils, .nils] [(0, 1, (.cst (.str [109, 112]))), (11, 1, (.cst q5.1))])).bind fun q6 =>
  (storeV (q6.2 ++ [Go.PE.Obj.box [(.str []), (.str []), .nils, .nils, .nils, .nils, (.int .i64 0), .nils, .nils, .nils, .nils, .nils]]) 12 (.ptr q6.2.length 0) q6.1).bind fun s7 =>
  (loadV s7 true 12 (.ptr q6.2.length 0)).bind fun x8 =>
  callK C (Hw C X) s7 false (.fn 9 []) [x8] fun x9 s10 =>
  (extV x9 0).bind fun x11 =>
  (extV x9 1).bind fun x12 =>
  callK C (Hw C X) s10 false (.fn 12 []) [x11] fun x13 s14 =>
  (extV x13 0).bind fun x15 =>
  (extV x13 1).bind fun x16 =>
  (storeV (s14 ++ [Go.PE.Obj.box [(.str []), (.str []), .nils, .nils, .nils, .nils, (.int .i64 0), .nils, .nils, .nils, .nils, .nils]]) 12 (.ptr s14.length 0) x15).bind fun s17 =>
  (evBin .eql .int x12 (.int .i64 0)).bind fun x18 =>
  (guardR x18 true 3 s17 fun _ =>
      (lenP s17 .slice x11).bind fun x19 =>
      (evBin .eql .int (.int .i64 (x19 : Nat)) (.int .i64 2)).bind fun x20 =>
      some ([x11, (.int .i64 (x19 : Nat)), x20], s17)).bind fun q21 =>
  (pickV x18 (nthV q21.1 2) (.bool false)).bind fun x22 =>
  (guardR x22 true 2 q21.2 fun _ =>
      (evBin .eql .int x16 (.int .i64 0)).bind fun x23 =>
      some ([x16, x23], q21.2)).bind fun q24 =>
  (pickV x22 (nthV q24.1 1) (.bool false)).bind fun x25 =>
  (guardR x25 true 3 q24.2 fun _ =>
      (loadV q24.2 true 12 (.ptr q6.2.length 0)).bind fun x26 =>
      (loadV q24.2 true 12 (.ptr s14.length 0)).bind fun x27 =>
      callK C (Hw C X) q24.2 false (.fn 15 []) [x26, x27] fun x28 s29 =>
      some ([x26, x27, x28], s29)).bind fun q30 =>
  (pickV x25 (nthV q30.1 2) (.bool false)).bind fun x31 =>
  (guardR x31 true 4 q30.2 fun _ =>
      (loadV q30.2 true 12 (.ptr q6.2.length 0)).bind fun x32 =>
      (loadV q30.2 true 12 (.ptr q1.2.length 0)).bind fun x33 =>
      callK C (Hw C X) q30.2 false (.fn 15 []) [x32, x33] fun x34 s35 =>
      (evUn .not x34).bind fun x36 =>
      some ([x32, x33, x34, x36], s35)).bind fun q37 =>
  (pickV x31 (nthV q37.1 3) (.bool false)).bind fun x38 =>
  finVs p6.keepr [x38] q37.2) := (pure_of C6 (Nat.le_of_ble_eq_true rfl)).trans (by kernel_rfl)
/-! isochronelaw22.weight -/
noncomputable def k7_1 (X : Ext) : Out → EnvF 98 → Heap → Option (List PV) := finK p7
noncomputable def k7_2 (X : Ext) : Out → EnvF 98 → Heap → Option (List PV) := seqK (fun E σ => evCK C (Hw C X) (.keep [1, 3] cJ7_6) E σ (k7_1 X)) (k7_1 X)
noncomputable def k7_3 (X : Ext) : Out → EnvF 98 → Heap → Option (List PV) := blockK 0 (k7_2 X)
noncomputable def L7_5 (X : Ext) (v1 v3 v4 : PV) (σ : Heap) : Option (List PV) := loopK (Hw C X) cL7_5 (envOf 98 [(1, v1), (3, v3), (4, v4)]) σ (k7_3 X)
noncomputable def J7_6 (X : Ext) (v1 v3 : PV) (σ : Heap) : Option (List PV) := cutK C (Hw C X) cJ7_6 (envOf 98 [(1, v1), (3, v3)]) σ (k7_1 X)
noncomputable def k7_4 (X : Ext) : Out → EnvF 98 → Heap → Option (List PV) := seqK (fun E σ => evCK C (Hw C X) (.keep [1, 3] cJ7_4) E σ (k7_1 X)) (k7_1 X)
noncomputable def k7_5 (X : Ext) : Out → EnvF 98 → Heap → Option (List PV) := blockK 2 (k7_4 X)
noncomputable def L7_2 (X : Ext) (v1 v3 v5 : PV) (σ : Heap) : Option (List PV) := loopK (Hw C X) cL7_2 (envOf 98 [(1, v1), (3, v3), (5, v5)]) σ (k7_5 X)
noncomputable def k7_6 (X : Ext) : Out → EnvF 98 → Heap → Option (List PV) := roundK C X cL7_2 (k7_5 X)
noncomputable def k7_7 (X : Ext) : Out → EnvF 98 → Heap → Option (List PV) := seqK (fun E σ => evCK C (Hw C X) (.ops p7_15) E σ (k7_6 X)) (k7_6 X)
noncomputable def k7_8 (X : Ext) : Out → EnvF 98 → Heap → Option (List PV) := blockK 3 (k7_7 X)
noncomputable def k7_9 (X : Ext) : Out → EnvF 98 → Heap → Option (List PV) := blockK 4 (k7_8 X)
noncomputable def L7_3 (X : Ext) (v1 v3 v5 v6 : PV) (σ : Heap) : Option (List PV) := loopK (Hw C X) cL7_3 (envOf 98 [(1, v1), (3, v3), (5, v5), (6, v6)]) σ (k7_9 X)
noncomputable def J7_4 (X : Ext) (v1 v3 : PV) (σ : Heap) : Option (List PV) := cutK C (Hw C X) cJ7_4 (envOf 98 [(1, v1), (3, v3)]) σ (k7_1 X)
noncomputable def k7_10 (X : Ext) : Out → EnvF 98 → Heap → Option (List PV) := seqK (fun E σ => evCK C (Hw C X) (.seq (.ops p7_22) .ret) E σ (k7_1 X)) (k7_1 X)
noncomputable def k7_11 (X : Ext) : Out → EnvF 98 → Heap → Option (List PV) := blockK 6 (k7_10 X)
noncomputable def L7_1 (X : Ext) (v1 v3 v7 : PV) (σ : Heap) : Option (List PV) := loopK (Hw C X) cL7_1 (envOf 98 [(1, v1), (3, v3), (7, v7)]) σ (k7_11 X)
theorem F7 (X : Ext) (v0 : PV) : (Hw C X).pure 7 [v0] =
  ((boxV v0 ([] : Heap)).bind fun s1 =>
  (faddrV 4 (.ptr ([] : Heap).length 0)).bind fun x2 =>
  (loadV s1 false 1 x2).bind fun x3 =>
  (lenP s1 .slice x3).bind fun x4 =>
  (evBin .add .int (.int .i64 1) (.int .i64 (x4 : Nat))).bind fun x5 =>
  (faddrV 5 (.ptr ([] : Heap).length 0)).bind fun x6 =>
  (loadV s1 false 1 x6).bind fun x7 =>
  (lenP s1 .slice x7).bind fun x8 =>
  (evBin .add .int x5 (.int .i64 (x8 : Nat))).bind fun x9 =>
  (faddrV 6 (.ptr ([] : Heap).length 0)).bind fun x10 =>
  (loadV s1 true 5 x10).bind fun x11 =>
  callK C (Hw C X) s1 true (.fn 19 []) [x11] fun x12 s13 =>
  (evBin .add .int x9 x12).bind fun x14 =>
  L7_5 X (.ptr ([] : Heap).length 0) x14 (.int .i64 0) s13) := (pure_of C7 (Nat.le_of_ble_eq_true rfl)).trans (by kernel_rfl)
theorem L7_5_eq (X : Ext) (v1 v3 v4 : PV) (σ : Heap) : L7_5 X v1 v3 v4 σ =
  ((faddrV 2 v1).bind fun x1 =>
  (loadV σ false 1 x1).bind fun x2 =>
  (lenP σ .slice x2).bind fun x3 =>
  (evBin .lss .int v4 (.int .i64 (x3 : Nat))).bind fun x4 =>
  condK x4
    (fun _ => (faddrV 2 v1).bind fun x5 =>
    (loadV σ false 1 x5).bind fun x6 =>
    (iaddrV σ 6 x6 v4).bind fun x7 =>
    (loadV σ true 6 x7).bind fun x8 =>
    callK C (Hw C X) σ false (.fn 20 []) [x8] fun x9 s10 =>
    (evBin .add .int v3 x9).bind fun x11 =>
    (evBin .add .int v4 (.int .i64 1)).bind fun x12 =>
    L7_5 X v1 x11 x12 s10)
    (fun _ => J7_6 X v1 v3 σ)) := (loopK_keep [1, 3, 4] bL7_5 _ _ _).trans (by kernel_rfl)
theorem J7_6_eq (X : Ext) (v1 v3 : PV) (σ : Heap) : J7_6 X v1 v3 σ =
  (L7_2 X v1 v3 (.int .i64 0) σ) := (cutK_eq _ _ _ _).trans (by kernel_rfl)
theorem L7_2_eq (X : Ext) (v1 v3 v5 : PV) (σ : Heap) : L7_2 X v1 v3 v5 σ =
  ((faddrV 3 v1).bind fun x1 =>
  (loadV σ false 1 x1).bind fun x2 =>
  (lenP σ .slice x2).bind fun x3 =>
  (evBin .lss .int v5 (.int .i64 (x3 : Nat))).bind fun x4 =>
  condK x4
    (fun _ => (faddrV 3 v1).bind fun x5 =>
    (loadV σ false 1 x5).bind fun x6 =>
    (iaddrV σ 13 x6 v5).bind fun x7 =>
    (faddrV 0 x7).bind fun x8 =>
    (loadV σ true 6 x8).bind fun x9 =>
    callK C (Hw C X) σ true (.fn 20 []) [x9] fun x10 s11 =>
    (faddrV 3 v1).bind fun x12 =>
    (loadV s11 false 1 x12).bind fun x13 =>
    (iaddrV s11 13 x13 v5).bind fun x14 =>
    (faddrV 6 x14).bind fun x15 =>
    (loadV s11 true 6 x15).bind fun x16 =>
    callK C (Hw C X) s11 true (.fn 20 []) [x16] fun x17 s18 =>
    (evBin .add .int x10 x17).bind fun x19 =>
    (evBin .add .int v3 x19).bind fun x20 =>
    L7_3 X v1 x20 v5 (.int .i64 0) s18)
    (fun _ => J7_4 X v1 v3 σ)) := (loopK_keep [1, 3, 5] bL7_2 _ _ _).trans (by kernel_rfl)
theorem L7_3_eq (X : Ext) (v1 v3 v5 v6 : PV) (σ : Heap) : L7_3 X v1 v3 v5 v6 σ =
  ((faddrV 3 v1).bind fun x1 =>
  (loadV σ false 1 x1).bind fun x2 =>
  (iaddrV σ 13 x2 v5).bind fun x3 =>
  (faddrV 12 x3).bind fun x4 =>
  (loadV σ false 1 x4).bind fun x5 =>
  (lenP σ .slice x5).bind fun x6 =>
  (evBin .lss .int v6 (.int .i64 (x6 : Nat))).bind fun x7 =>
  condK x7
    (fun _ => (faddrV 3 v1).bind fun x8 =>
    (loadV σ false 1 x8).bind fun x9 =>
    (iaddrV σ 13 x9 v5).bind fun x10 =>
    (faddrV 12 x10).bind fun x11 =>
    (loadV σ false 1 x11).bind fun x12 =>
    (iaddrV σ 6 x12 v6).bind fun x13 =>
    (loadV σ true 6 x13).bind fun x14 =>
    callK C (Hw C X) σ false (.fn 20 []) [x14] fun x15 s16 =>
    (evBin .add .int v3 x15).bind fun x17 =>
    (evBin .add .int v6 (.int .i64 1)).bind fun x18 =>
    L7_3 X v1 x17 v5 x18 s16)
    (fun _ => (evBin .add .int v5 (.int .i64 1)).bind fun x19 =>
    L7_2 X v1 v3 x19 σ)) := (loopK_keep [1, 3, 5, 6] bL7_3 _ _ _).trans (by kernel_rfl)
theorem J7_4_eq (X : Ext) (v1 v3 : PV) (σ : Heap) : J7_4 X v1 v3 σ =
  (L7_1 X v1 v3 (.int .i64 0) σ) := (cutK_eq _ _ _ _).trans (by kernel_rfl)
theorem L7_1_eq (X : Ext) (v1 v3 v7 : PV) (σ : Heap) : L7_1 X v1 v3 v7 σ =
  ((faddrV 11 v1).bind fun x1 =>
  (loadV σ false 1 x1).bind fun x2 =>
  (lenP σ .slice x2).bind fun x3 =>
  (evBin .lss .int v7 (.int .i64 (x3 : Nat))).bind fun x4 =>
  condK x4
    (fun _ => (faddrV 11 v1).bind fun x5 =>
    (loadV σ false 1 x5).bind fun x6 =>
    (iaddrV σ 12 x6 v7).bind fun x7 =>
    (loadV σ true 12 x7).bind fun x8 =>
    callK C (Hw C X) σ false (.fn 7 []) [x8] fun x9 s10 =>
    (evBin .add .int v3 x9).bind fun x11 =>
    (evBin .add .int v7 (.int .i64 1)).bind fun x12 =>
    L7_1 X v1 x11 x12 s10)
    (fun _ => finVs p7.keepr [v3] σ)) := (loopK_keep [1, 3, 7] bL7_1 _ _ _).trans (by kernel_rfl)
/-! isochronelaw22.light -/
noncomputable def k8_1 (X : Ext) : Out → EnvF 38 → Heap → Option (List PV) := finK p8
noncomputable def k8_2 (X : Ext) : Out → EnvF 38 → Heap → Option (List PV) := seqK (fun E σ => evCK C (Hw C X) (.seq (.ops p8_11) .ret) E σ (k8_1 X)) (k8_1 X)
noncomputable def k8_3 (X : Ext) : Out → EnvF 38 → Heap → Option (List PV) := blockK 0 (k8_2 X)
noncomputable def L8_1 (X : Ext) (v0 v3 v4 : PV) (σ : Heap) : Option (List PV) := loopK (Hw C X) cL8_1 (envOf 38 [(0, v0), (3, v3), (4, v4)]) σ (k8_3 X)
theorem F8 (X : Ext) (v0 : PV) : (Hw C X).pure 8 [v0] =
  ((lenP ([] : Heap) .slice v0).bind fun x1 =>
  (evBin .gtr .int (.int .i64 (x1 : Nat)) (.int .i64 200)).bind fun x2 =>
  condK x2
    (fun _ => finVs p8.keepr [(.bool false)] ([] : Heap))
    (fun _ => L8_1 X v0 (.int .i64 0) (.int .i64 0) ([] : Heap))) := (pure_of C8 (Nat.le_of_ble_eq_true rfl)).trans (by kernel_rfl)
theorem L8_1_eq (X : Ext) (v0 v3 v4 : PV) (σ : Heap) : L8_1 X v0 v3 v4 σ =
  ((lenP σ .slice v0).bind fun x1 =>
  (evBin .lss .int v4 (.int .i64 (x1 : Nat))).bind fun x2 =>
  condK x2
    (fun _ => (iaddrV σ 13 v0 v4).bind fun x3 =>
    (faddrV 0 x3).bind fun x4 =>
    (loadV σ true 12 x4).bind fun x5 =>
    callK C (Hw C X) σ true (.fn 7 []) [x5] fun x6 s7 =>
    (iaddrV s7 13 v0 v4).bind fun x8 =>
    (faddrV 12 x8).bind fun x9 =>
    (loadV s7 false 1 x9).bind fun x10 =>
    (lenP s7 .slice x10).bind fun x11 =>
    (evBin .add .int x6 (.int .i64 (x11 : Nat))).bind fun x12 =>
    (evBin .add .int v3 x12).bind fun x13 =>
    (iaddrV s7 13 v0 v4).bind fun x14 =>
    (faddrV 0 x14).bind fun x15 =>
    (loadV s7 true 12 x15).bind fun x16 =>
    callK C (Hw C X) s7 false (.fn 21 []) [x16] fun x17 s18 =>
    (evUn .not x17).bind fun x19 =>
    condK x19
      (fun _ => finVs p8.keepr [(.bool false)] s18)
      (fun _ => (evBin .add .int v4 (.int .i64 1)).bind fun x20 =>
      L8_1 X v0 x13 x20 s18))
    (fun _ => (evBin .leq .int v3 (.int .i64 3000)).bind fun x21 =>
    finVs p8.keepr [x21] σ)) := (loopK_keep [0, 3, 4] bL8_1 _ _ _).trans (by kernel_rfl)
/-! replay.Record -/
theorem F9 (X : Ext) (v0 : PV) : (Hw C X).pure 9 [v0] =
  ((boxV v0 ([] : Heap)).bind fun s1 =>
  (loadV s1 true 12 (.ptr ([] : Heap).length 0)).bind fun x2 =>
  callK C (Hw C X) s1 false (.fn 22 []) [x2] fun x3 s4 =>
  (evUn .not x3).bind fun x5 =>
  condK x5
    (fun _ => finVs p9.keepr [.nils, (.int .i64 2)] s4)
    (fun _ => (storeV (((s4 ++ [Go.PE.Obj.box [.nils]]) ++ [Go.PE.Obj.map []]) ++ [Go.PE.Obj.box [.nilm]]) 1 (.ptr ((s4 ++ [Go.PE.Obj.box [.nils]]) ++ [Go.PE.Obj.map []]).length 0) (.mp (s4 ++ [Go.PE.Obj.box [.nils]]).length)).bind fun s6 =>
    (storeV (s6 ++ [Go.PE.Obj.box [.nilf]]) 1 (.ptr s6.length 0) (.fn 23 [(.ptr s6.length 0), (.ptr ((s4 ++ [Go.PE.Obj.box [.nils]]) ++ [Go.PE.Obj.map []]).length 0), (.ptr s4.length 0)])).bind fun s7 =>
    (loadV s7 false 1 (.ptr s6.length 0)).bind fun x8 =>
    (loadV s7 true 12 (.ptr ([] : Heap).length 0)).bind fun x9 =>
    callK C (Hw C X) s7 false x8 [x9] fun x10 s11 =>
    (loadV s11 false 1 (.ptr s4.length 0)).bind fun x12 =>
    finVs p9.keepr [x12, (.int .i64 0)] s11)) := (pure_of C9 (Nat.le_of_ble_eq_true rfl)).trans (by kernel_rfl)
/-! isochroneref22.Record -/
theorem F10 (X : Ext) (v0 : PV) : (Hw C X).pure 10 [v0] =
  ((boxV v0 ([] : Heap)).bind fun s1 =>
  (loadV s1 true 12 (.ptr ([] : Heap).length 0)).bind fun x2 =>
  callK C (Hw C X) s1 false (.fn 28 []) [x2] fun x3 s4 =>
  condK x3
    (fun _ => finVs p10.keepr [.nils, (.int .i64 2)] s4)
    (fun _ => (loadV s4 true 12 (.ptr ([] : Heap).length 0)).bind fun x5 =>
    callK C (Hw C X) s4 false (.fn 29 []) [.nils, x5] fun x6 s7 =>
    (extV x6 0).bind fun x8 =>
    (extV x6 1).bind fun x9 =>
    finVs p10.keepr [x8, (.int .i64 0)] s7)) := (pure_of C10 (Nat.le_of_ble_eq_true rfl)).trans (by kernel_rfl)
/-! isochroneref22.SameSteps -/
noncomputable def k11_1 (X : Ext) : Out → EnvF 43 → Heap → Option (List PV) := finK p11
noncomputable def k11_2 (X : Ext) : Out → EnvF 43 → Heap → Option (List PV) := seqK (fun E σ => evCK C (Hw C X) (.seq (.ops p11_9) .ret) E σ (k11_1 X)) (k11_1 X)
noncomputable def k11_3 (X : Ext) : Out → EnvF 43 → Heap → Option (List PV) := blockK 0 (k11_2 X)
noncomputable def L11_1 (X : Ext) (v0 v1 v5 : PV) (σ : Heap) : Option (List PV) := loopK (Hw C X) cL11_1 (envOf 43 [(0, v0), (1, v1), (5, v5)]) σ (k11_3 X)
theorem F11 (X : Ext) (v0 v1 : PV) : (Hw C X).pure 11 [v0, v1] =
  ((lenP ([] : Heap) .slice v0).bind fun x1 =>
  (lenP ([] : Heap) .slice v1).bind fun x2 =>
  (evBin .neq .int (.int .i64 (x1 : Nat)) (.int .i64 (x2 : Nat))).bind fun x3 =>
  condK x3
    (fun _ => finVs p11.keepr [(.bool false)] ([] : Heap))
    (fun _ => L11_1 X v0 v1 (.int .i64 0) ([] : Heap))) := (pure_of C11 (Nat.le_of_ble_eq_true rfl)).trans (by kernel_rfl)
theorem L11_1_eq (X : Ext) (v0 v1 v5 : PV) (σ : Heap) : L11_1 X v0 v1 v5 σ =
  ((lenP σ .slice v0).bind fun x1 =>
  (evBin .lss .int v5 (.int .i64 (x1 : Nat))).bind fun x2 =>
  condK x2
    (fun _ => (iaddrV σ 13 v0 v5).bind fun x3 =>
    (faddrV 0 x3).bind fun x4 =>
    (loadV σ true 12 x4).bind fun x5 =>
    (iaddrV σ 13 v1 v5).bind fun x6 =>
    (faddrV 0 x6).bind fun x7 =>
    (loadV σ true 12 x7).bind fun x8 =>
    callK C (Hw C X) σ false (.fn 14 []) [x5, x8] fun x9 s10 =>
    (evUn .not x9).bind fun x11 =>
    (guardR x11 false 12 s10 fun _ =>
        (iaddrV s10 13 v0 v5).bind fun x12 =>
        (faddrV 12 x12).bind fun x13 =>
        (loadV s10 false 1 x13).bind fun x14 =>
        (iaddrV s10 13 v1 v5).bind fun x15 =>
        (faddrV 12 x15).bind fun x16 =>
        (loadV s10 false 1 x16).bind fun x17 =>
        callK C (Hw C X) s10 false (.fn 30 []) [x14, x17] fun x18 s19 =>
        (evUn .not x18).bind fun x20 =>
        some ([v0, v5, x12, x13, x14, v1, v5, x15, x16, x17, x18, x20], s19)).bind fun q21 =>
    (pickV x11 (.bool true) (nthV q21.1 11)).bind fun x22 =>
    condK x22
      (fun _ => finVs p11.keepr [(.bool false)] q21.2)
      (fun _ => (evBin .add .int v5 (.int .i64 1)).bind fun x23 =>
      L11_1 X v0 v1 x23 q21.2))
    (fun _ => finVs p11.keepr [(.bool true)] σ)) := (loopK_keep [0, 1, 5] bL11_1 _ _ _).trans (by kernel_rfl)
/-! replay.Build -/
noncomputable def k12_1 (X : Ext) : Out → EnvF 93 → Heap → Option (List PV) := finK p12
noncomputable def k12_2 (X : Ext) : Out → EnvF 93 → Heap → Option (List PV) := seqK (fun E σ => evCK C (Hw C X) (.keep [1, 2, 5, 6] cJ12_3) E σ (k12_1 X)) (k12_1 X)
noncomputable def k12_3 (X : Ext) : Out → EnvF 93 → Heap → Option (List PV) := blockK 0 (k12_2 X)
noncomputable def L12_1 (X : Ext) (v1 v2 v5 v6 v25 v26 v27 : PV) (σ : Heap) : Option (List PV) := loopK (Hw C X) cL12_1 (envOf 93 [(1, v1), (2, v2), (5, v5), (6, v6), (25, v25), (26, v26), (27, v27)]) σ (k12_3 X)
noncomputable def k12_4 (X : Ext) : Out → EnvF 93 → Heap → Option (List PV) := roundK C X cL12_1 (k12_3 X)
noncomputable def k12_5 (X : Ext) : Out → EnvF 93 → Heap → Option (List PV) := seqK (fun E σ => evCK C (Hw C X) (.ops p12_16) E σ (k12_4 X)) (k12_4 X)
noncomputable def k12_6 (X : Ext) : Out → EnvF 93 → Heap → Option (List PV) := blockK 1 (k12_5 X)
noncomputable def k12_7 (X : Ext) : Out → EnvF 93 → Heap → Option (List PV) := blockK 2 (k12_6 X)
noncomputable def L12_2 (X : Ext) (v1 v2 v5 v6 v7 v25 v26 v27 v39 v40 v41 : PV) (σ : Heap) : Option (List PV) := loopK (Hw C X) cL12_2 (envOf 93 [(1, v1), (2, v2), (5, v5), (6, v6), (7, v7), (25, v25), (26, v26), (27, v27), (39, v39), (40, v40), (41, v41)]) σ (k12_7 X)
noncomputable def J12_3 (X : Ext) (v1 v2 v5 v6 : PV) (σ : Heap) : Option (List PV) := cutK C (Hw C X) cJ12_3 (envOf 93 [(1, v1), (2, v2), (5, v5), (6, v6)]) σ (k12_1 X)
theorem F12 (X : Ext) (v0 : PV) : (Hw C X).pure 12 [v0] =
  ((boxV v0 ([] : Heap)).bind fun s1 =>
  (loadV (s1 ++ [Go.PE.Obj.box [(.str []), (.str []), .nils, .nils, .nils, .nils, (.int .i64 0), .nils, .nils, .nils, .nils, .nils]]) false 1 (.ptr ([] : Heap).length 0)).bind fun x2 =>
  callK C (Hw C X) (s1 ++ [Go.PE.Obj.box [(.str []), (.str []), .nils, .nils, .nils, .nils, (.int .i64 0), .nils, .nils, .nils, .nils, .nils]]) false (.fn 31 []) [x2] fun x3 s4 =>
  (evBin .neq .int x3 (.int .i64 0)).bind fun x5 =>
  condK x5
    (fun _ => (evPrim [] s4 (.build [(.str []), (.str []), .nils, .nils, .nils, .nils, (.int .i64 0), .nils, .nils, .nils, .nils, .nils] [])).bind fun q6 =>
    (storeV q6.2 12 (.ptr s1.length 0) q6.1).bind fun s7 =>
    (loadV s7 true 12 (.ptr s1.length 0)).bind fun x8 => finVs p12.keepr [x8, x3] s7)
    (fun _ => (loadV s4 false 1 (.ptr ([] : Heap).length 0)).bind fun x9 =>
    (lenP s4 .slice x9).bind fun x10 =>
    (evPrim [] s4 (.mkslice 3 1 8 [(.int .i64 0)] (.cst (.int .i64 (x10 : Nat))) (.cst (.int .i64 (x10 : Nat))))).bind fun q11 =>
    (loadV q11.2 false 1 (.ptr ([] : Heap).length 0)).bind fun x12 =>
    (lenP q11.2 .slice x12).bind fun x13 =>
    (evPrim [] q11.2 (.mkslice 3 1 8 [(.int .i64 0)] (.cst (.int .i64 (x13 : Nat))) (.cst (.int .i64 (x13 : Nat))))).bind fun q14 =>
    (loadV q14.2 false 1 (.ptr ([] : Heap).length 0)).bind fun x15 =>
    (lenP q14.2 .slice x15).bind fun x16 =>
    L12_1 X (.ptr ([] : Heap).length 0) (.ptr s1.length 0) q11.1 q14.1 x15 (.int .i64 (x16 : Nat)) (.int .i64 0) q14.2)) := (pure_of C12 (Nat.le_of_ble_eq_true rfl)).trans (by kernel_rfl)
theorem L12_1_eq (X : Ext) (v1 v2 v5 v6 v25 v26 v27 : PV) (σ : Heap) : L12_1 X v1 v2 v5 v6 v25 v26 v27 σ =
  ((evBin .lss .int v27 v26).bind fun x1 =>
  condK x1
    (fun _ => (iaddrV σ 13 v25 v27).bind fun x2 =>
    (loadV σ true 13 x2).bind fun x3 =>
    (storeV (σ ++ [Go.PE.Obj.box [(.str []), (.str []), .nils, .nils, .nils, .nils, (.int .i64 0), .nils, .nils, .nils, .nils, .nils, .nils]]) 13 (.ptr σ.length 0) x3).bind fun s4 =>
    (iaddrV s4 1 v5 v27).bind fun x5 =>
    (storeV s4 1 x5 (.int .i64 1)).bind fun s6 =>
    (iaddrV s6 1 v6 v27).bind fun x7 =>
    (storeV s6 1 x7 (.int .i64 1)).bind fun s8 =>
    (faddrV 12 (.ptr σ.length 0)).bind fun x9 =>
    (loadV s8 false 1 x9).bind fun x10 =>
    (lenP s8 .slice x10).bind fun x11 =>
    L12_2 X v1 v2 v5 v6 v27 v25 v26 v27 x10 (.int .i64 (x11 : Nat)) (.int .i64 0) s8)
    (fun _ => J12_3 X v1 v2 v5 v6 σ)) := (loopK_keep [1, 2, 5, 6, 25, 26, 27] bL12_1 _ _ _).trans (by kernel_rfl)
theorem L12_2_eq (X : Ext) (v1 v2 v5 v6 v7 v25 v26 v27 v39 v40 v41 : PV) (σ : Heap) : L12_2 X v1 v2 v5 v6 v7 v25 v26 v27 v39 v40 v41 σ =
  ((evBin .lss .int v41 v40).bind fun x1 =>
  condK x1
    (fun _ => (iaddrV σ 1 v39 v41).bind fun x2 =>
    (loadV σ false 1 x2).bind fun x3 =>
    (iaddrV σ 1 v5 v7).bind fun x4 =>
    (loadV σ false 1 x4).bind fun x5 =>
    (iaddrV σ 1 v5 x3).bind fun x6 =>
    (loadV σ false 1 x6).bind fun x7 =>
    (evBin .add .int x5 x7).bind fun x8 =>
    (evPrim [] σ (.mn [(.cst x8), (.cst (.int .i64 2001))])).bind fun q9 =>
    (iaddrV q9.2 1 v5 v7).bind fun x10 =>
    (storeV q9.2 1 x10 q9.1).bind fun s11 =>
    (iaddrV s11 1 v6 v7).bind fun x12 =>
    (loadV s11 false 1 x12).bind fun x13 =>
    (iaddrV s11 1 v6 x3).bind fun x14 =>
    (loadV s11 false 1 x14).bind fun x15 =>
    (evBin .add .int x15 (.int .i64 1)).bind fun x16 =>
    (evPrim [] s11 (.mx [(.cst x13), (.cst x16)])).bind fun q17 =>
    (iaddrV q17.2 1 v6 v7).bind fun x18 =>
    (storeV q17.2 1 x18 q17.1).bind fun s19 =>
    (evBin .add .int v41 (.int .i64 1)).bind fun x20 =>
    L12_2 X v1 v2 v5 v6 v7 v25 v26 v27 v39 v40 x20 s19)
    (fun _ => (evBin .add .int v27 (.int .i64 1)).bind fun x21 =>
    L12_1 X v1 v2 v5 v6 v25 v26 x21 σ)) := (loopK_keep [1, 2, 5, 6, 7, 25, 26, 27, 39, 40, 41] bL12_2 _ _ _).trans (by kernel_rfl)
theorem J12_3_eq (X : Ext) (v1 v2 v5 v6 : PV) (σ : Heap) : J12_3 X v1 v2 v5 v6 σ =
  ((loadV σ false 1 v1).bind fun x1 =>
  (lenP σ .slice x1).bind fun x2 =>
  (evBin .sub .int (.int .i64 (x2 : Nat)) (.int .i64 1)).bind fun x3 =>
  (iaddrV σ 1 v5 x3).bind fun x4 =>
  (loadV σ false 1 x4).bind fun x5 =>
  (evBin .gtr .int x5 (.int .i64 2000)).bind fun x6 =>
  (guardR x6 false 5 σ fun _ =>
      (iaddrV σ 1 v6 x3).bind fun x7 =>
      (loadV σ false 1 x7).bind fun x8 =>
      (evBin .gtr .int x8 (.int .i64 60)).bind fun x9 =>
      some ([v6, x3, x7, x8, x9], σ)).bind fun q10 =>
  (pickV x6 (.bool true) (nthV q10.1 4)).bind fun x11 =>
  condK x11
    (fun _ => (evPrim [] q10.2 (.build [(.str []), (.str []), .nils, .nils, .nils, .nils, (.int .i64 0), .nils, .nils, .nils, .nils, .nils] [])).bind fun q12 =>
    (storeV q12.2 12 v2 q12.1).bind fun s13 =>
    (loadV s13 true 12 v2).bind fun x14 => finVs p12.keepr [x14, (.int .i64 2)] s13)
    (fun _ => (storeV (q10.2 ++ [Go.PE.Obj.box [.nilf]]) 1 (.ptr q10.2.length 0) (.fn 32 [v1, (.ptr q10.2.length 0)])).bind fun s15 =>
    (loadV s15 false 1 (.ptr q10.2.length 0)).bind fun x16 =>
    callK C (Hw C X) s15 false x16 [x3] fun x17 s18 =>
    (storeV s18 12 v2 x17).bind fun s19 =>
    (loadV s19 true 12 v2).bind fun x20 => finVs p12.keepr [x20, (.int .i64 0)] s19)) := (cutK_eq _ _ _ _).trans (by kernel_rfl)
/-! isochroneref22.Build -/
noncomputable def k13_1 (X : Ext) : Out → EnvF 84 → Heap → Option (List PV) := finK p13
noncomputable def k13_2 (X : Ext) : Out → EnvF 84 → Heap → Option (List PV) := seqK (fun E σ => evCK C (Hw C X) (.keep [0, 2, 5, 6] cJ13_4) E σ (k13_1 X)) (k13_1 X)
noncomputable def k13_3 (X : Ext) : Out → EnvF 84 → Heap → Option (List PV) := blockK 0 (k13_2 X)
noncomputable def L13_1 (X : Ext) (v0 v2 v5 v6 v7 : PV) (σ : Heap) : Option (List PV) := loopK (Hw C X) cL13_1 (envOf 84 [(0, v0), (2, v2), (5, v5), (6, v6), (7, v7)]) σ (k13_3 X)
noncomputable def k13_4 (X : Ext) : Out → EnvF 84 → Heap → Option (List PV) := roundK C X cL13_1 (k13_3 X)
noncomputable def k13_5 (X : Ext) : Out → EnvF 84 → Heap → Option (List PV) := seqK (fun E σ => evCK C (Hw C X) (.ops p13_16) E σ (k13_4 X)) (k13_4 X)
noncomputable def k13_6 (X : Ext) : Out → EnvF 84 → Heap → Option (List PV) := blockK 1 (k13_5 X)
noncomputable def k13_7 (X : Ext) : Out → EnvF 84 → Heap → Option (List PV) := seqK (fun E σ => evCK C (Hw C X) (.keep [0, 2, 5, 6, 7, 8, 9] cJ13_3) E σ (k13_6 X)) (k13_6 X)
noncomputable def k13_8 (X : Ext) : Out → EnvF 84 → Heap → Option (List PV) := blockK 2 (k13_7 X)
noncomputable def L13_2 (X : Ext) (v0 v2 v5 v6 v7 v8 v9 v10 : PV) (σ : Heap) : Option (List PV) := loopK (Hw C X) cL13_2 (envOf 84 [(0, v0), (2, v2), (5, v5), (6, v6), (7, v7), (8, v8), (9, v9), (10, v10)]) σ (k13_8 X)
noncomputable def J13_4 (X : Ext) (v0 v2 v5 v6 : PV) (σ : Heap) : Option (List PV) := cutK C (Hw C X) cJ13_4 (envOf 84 [(0, v0), (2, v2), (5, v5), (6, v6)]) σ (k13_1 X)
noncomputable def J13_3 (X : Ext) (v0 v2 v5 v6 v7 v8 v9 : PV) (σ : Heap) : Option (List PV) := cutK C (Hw C X) cJ13_3 (envOf 84 [(0, v0), (2, v2), (5, v5), (6, v6), (7, v7), (8, v8), (9, v9)]) σ (k13_6 X)
theorem F13 (X : Ext) (v0 : PV) : (Hw C X).pure 13 [v0] =
  (callK C (Hw C X) (([] : Heap) ++ [Go.PE.Obj.box [(.str []), (.str []), .nils, .nils, .nils, .nils, (.int .i64 0), .nils, .nils, .nils, .nils, .nils]]) false (.fn 33 []) [v0] fun x1 s2 =>
  (evBin .neq .int x1 (.int .i64 0)).bind fun x3 =>
  condK x3
    (fun _ => (evPrim [] s2 (.build [(.str []), (.str []), .nils, .nils, .nils, .nils, (.int .i64 0), .nils, .nils, .nils, .nils, .nils] [])).bind fun q4 =>
    (storeV q4.2 12 (.ptr ([] : Heap).length 0) q4.1).bind fun s5 =>
    (loadV s5 true 12 (.ptr ([] : Heap).length 0)).bind fun x6 => finVs p13.keepr [x6, x1] s5)
    (fun _ => L13_1 X v0 (.ptr ([] : Heap).length 0) .nils .nils (.int .i64 0) s2)) := (pure_of C13 (Nat.le_of_ble_eq_true rfl)).trans (by kernel_rfl)
theorem L13_1_eq (X : Ext) (v0 v2 v5 v6 v7 : PV) (σ : Heap) : L13_1 X v0 v2 v5 v6 v7 σ =
  ((lenP σ .slice v0).bind fun x1 =>
  (evBin .lss .int v7 (.int .i64 (x1 : Nat))).bind fun x2 =>
  condK x2
    (fun _ => L13_2 X v0 v2 v5 v6 v7 (.int .i64 1) (.int .i64 0) (.int .i64 0) σ)
    (fun _ => J13_4 X v0 v2 v5 v6 σ)) := (loopK_keep [0, 2, 5, 6, 7] bL13_1 _ _ _).trans (by kernel_rfl)
theorem L13_2_eq (X : Ext) (v0 v2 v5 v6 v7 v8 v9 v10 : PV) (σ : Heap) : L13_2 X v0 v2 v5 v6 v7 v8 v9 v10 σ =
  ((iaddrV σ 13 v0 v7).bind fun x1 =>
  (faddrV 12 x1).bind fun x2 =>
  (loadV σ false 1 x2).bind fun x3 =>
  (lenP σ .slice x3).bind fun x4 =>
  (evBin .lss .int v10 (.int .i64 (x4 : Nat))).bind fun x5 =>
  condK x5
    (fun _ => (iaddrV σ 13 v0 v7).bind fun x6 =>
    (faddrV 12 x6).bind fun x7 =>
    (loadV σ false 1 x7).bind fun x8 =>
    (iaddrV σ 1 x8 v10).bind fun x9 =>
    (loadV σ false 1 x9).bind fun x10 =>
    (iaddrV σ 1 v5 x10).bind fun x11 =>
    (loadV σ false 1 x11).bind fun x12 =>
    (evBin .add .int v8 x12).bind fun x13 =>
    (evPrim [] σ (.mn [(.cst x13), (.cst (.int .i64 2001))])).bind fun q14 =>
    (iaddrV q14.2 1 v6 x10).bind fun x15 =>
    (loadV q14.2 false 1 x15).bind fun x16 =>
    (evPrim [] q14.2 (.mx [(.cst v9), (.cst x16)])).bind fun q17 =>
    (evBin .add .int v10 (.int .i64 1)).bind fun x18 =>
    L13_2 X v0 v2 v5 v6 v7 q14.1 q17.1 x18 q17.2)
    (fun _ => J13_3 X v0 v2 v5 v6 v7 v8 v9 σ)) := (loopK_keep [0, 2, 5, 6, 7, 8, 9, 10] bL13_2 _ _ _).trans (by kernel_rfl)
theorem J13_4_eq (X : Ext) (v0 v2 v5 v6 : PV) (σ : Heap) : J13_4 X v0 v2 v5 v6 σ =
  ((lenP σ .slice v0).bind fun x1 =>
  (evBin .sub .int (.int .i64 (x1 : Nat)) (.int .i64 1)).bind fun x2 =>
  (iaddrV σ 1 v5 x2).bind fun x3 =>
  (loadV σ false 1 x3).bind fun x4 =>
  (evBin .gtr .int x4 (.int .i64 2000)).bind fun x5 =>
  (guardR x5 false 5 σ fun _ =>
      (iaddrV σ 1 v6 x2).bind fun x6 =>
      (loadV σ false 1 x6).bind fun x7 =>
      (evBin .gtr .int x7 (.int .i64 60)).bind fun x8 =>
      some ([v6, x2, x6, x7, x8], σ)).bind fun q9 =>
  (pickV x5 (.bool true) (nthV q9.1 4)).bind fun x10 =>
  condK x10
    (fun _ => (evPrim [] q9.2 (.build [(.str []), (.str []), .nils, .nils, .nils, .nils, (.int .i64 0), .nils, .nils, .nils, .nils, .nils] [])).bind fun q11 =>
    (storeV q11.2 12 v2 q11.1).bind fun s12 =>
    (loadV s12 true 12 v2).bind fun x13 => finVs p13.keepr [x13, (.int .i64 2)] s12)
    (fun _ => callK C (Hw C X) q9.2 false (.fn 34 []) [v0, x2] fun x14 s15 =>
    (storeV s15 12 v2 x14).bind fun s16 =>
    (loadV s16 true 12 v2).bind fun x17 => finVs p13.keepr [x17, (.int .i64 0)] s16)) := (cutK_eq _ _ _ _).trans (by kernel_rfl)
theorem J13_3_eq (X : Ext) (v0 v2 v5 v6 v7 v8 v9 : PV) (σ : Heap) : J13_3 X v0 v2 v5 v6 v7 v8 v9 σ =
  ((evPrim [] σ (.bslice 1 [none] [(.int .i64 0)] 1 [(0, (.cst v8))])).bind fun q1 =>
  (appendP 3 1 8 q1.2 v5 q1.1).bind fun q2 =>
  (evBin .add .int v9 (.int .i64 1)).bind fun x3 =>
  (evPrim [] q2.2 (.bslice 1 [none] [(.int .i64 0)] 1 [(0, (.cst x3))])).bind fun q4 =>
  (appendP 3 1 8 q4.2 v6 q4.1).bind fun q5 =>
  (evBin .add .int v7 (.int .i64 1)).bind fun x6 =>
  L13_1 X v0 v2 q2.1 q5.1 x6 q5.2) := (cutK_eq _ _ _ _).trans (by kernel_rfl)
/-! isochroneref20.Same -/
noncomputable def k14_1 (X : Ext) : Out → EnvF 38 → Heap → Option (List PV) := finK p14
noncomputable def k14_2 (X : Ext) : Out → EnvF 38 → Heap → Option (List PV) := seqK (fun E σ => evCK C (Hw C X) (.seq (.ops p14_9) .ret) E σ (k14_1 X)) (k14_1 X)
noncomputable def k14_3 (X : Ext) : Out → EnvF 38 → Heap → Option (List PV) := blockK 0 (k14_2 X)
noncomputable def L14_1 (X : Ext) (v2 v3 v5 : PV) (σ : Heap) : Option (List PV) := loopK (Hw C X) cL14_1 (envOf 38 [(2, v2), (3, v3), (5, v5)]) σ (k14_3 X)
theorem F14 (X : Ext) (v0 v1 : PV) : (Hw C X).pure 14 [v0, v1] =
  ((boxV v0 ([] : Heap)).bind fun s1 =>
  (boxV v1 s1).bind fun s2 =>
  (loadV s2 true 12 (.ptr ([] : Heap).length 0)).bind fun x3 =>
  (loadV s2 true 12 (.ptr s1.length 0)).bind fun x4 =>
  callK C (Hw C X) s2 false (.fn 35 []) [x3, x4] fun x5 s6 =>
  (evUn .not x5).bind fun x7 =>
  (guardR x7 false 7 s6 fun _ =>
      (faddrV 11 (.ptr ([] : Heap).length 0)).bind fun x8 =>
      (loadV s6 false 1 x8).bind fun x9 =>
      (lenP s6 .slice x9).bind fun x10 =>
      (faddrV 11 (.ptr s1.length 0)).bind fun x11 =>
      (loadV s6 false 1 x11).bind fun x12 =>
      (lenP s6 .slice x12).bind fun x13 =>
      (evBin .neq .int (.int .i64 (x10 : Nat)) (.int .i64 (x13 : Nat))).bind fun x14 =>
      some ([x8, x9, (.int .i64 (x10 : Nat)), x11, x12, (.int .i64 (x13 : Nat)), x14], s6)).bind fun q15 =>
  (pickV x7 (.bool true) (nthV q15.1 6)).bind fun x16 =>
  condK x16
    (fun _ => finVs p14.keepr [(.bool false)] q15.2)
    (fun _ => L14_1 X (.ptr ([] : Heap).length 0) (.ptr s1.length 0) (.int .i64 0) q15.2)) := (pure_of C14 (Nat.le_of_ble_eq_true rfl)).trans (by kernel_rfl)
theorem L14_1_eq (X : Ext) (v2 v3 v5 : PV) (σ : Heap) : L14_1 X v2 v3 v5 σ =
  ((faddrV 11 v2).bind fun x1 =>
  (loadV σ false 1 x1).bind fun x2 =>
  (lenP σ .slice x2).bind fun x3 =>
  (evBin .lss .int v5 (.int .i64 (x3 : Nat))).bind fun x4 =>
  condK x4
    (fun _ => (faddrV 11 v2).bind fun x5 =>
    (loadV σ false 1 x5).bind fun x6 =>
    (iaddrV σ 12 x6 v5).bind fun x7 =>
    (loadV σ true 12 x7).bind fun x8 =>
    (faddrV 11 v3).bind fun x9 =>
    (loadV σ false 1 x9).bind fun x10 =>
    (iaddrV σ 12 x10 v5).bind fun x11 =>
    (loadV σ true 12 x11).bind fun x12 =>
    callK C (Hw C X) σ false (.fn 14 []) [x8, x12] fun x13 s14 =>
    (evUn .not x13).bind fun x15 =>
    condK x15
      (fun _ => finVs p14.keepr [(.bool false)] s14)
      (fun _ => (evBin .add .int v5 (.int .i64 1)).bind fun x16 =>
      L14_1 X v2 v3 x16 s14))
    (fun _ => finVs p14.keepr [(.bool true)] σ)) := (loopK_keep [2, 3, 5] bL14_1 _ _ _).trans (by kernel_rfl)
/-! replay.Equal -/
noncomputable def k15_1 (X : Ext) : Out → EnvF 38 → Heap → Option (List PV) := finK p15
noncomputable def k15_2 (X : Ext) : Out → EnvF 38 → Heap → Option (List PV) := seqK (fun E σ => evCK C (Hw C X) (.seq (.ops p15_10) .ret) E σ (k15_1 X)) (k15_1 X)
noncomputable def k15_3 (X : Ext) : Out → EnvF 38 → Heap → Option (List PV) := blockK 0 (k15_2 X)
noncomputable def L15_1 (X : Ext) (v2 v3 v21 v22 : PV) (σ : Heap) : Option (List PV) := loopK (Hw C X) cL15_1 (envOf 38 [(2, v2), (3, v3), (21, v21), (22, v22)]) σ (k15_3 X)
theorem F15 (X : Ext) (v0 v1 : PV) : (Hw C X).pure 15 [v0, v1] =
  ((boxV v0 ([] : Heap)).bind fun s1 =>
  (boxV v1 s1).bind fun s2 =>
  (loadV s2 true 12 (.ptr ([] : Heap).length 0)).bind fun x3 =>
  (loadV s2 true 12 (.ptr s1.length 0)).bind fun x4 =>
  callK C (Hw C X) s2 false (.fn 26 []) [x3, x4] fun x5 s6 =>
  (evUn .not x5).bind fun x7 =>
  (guardR x7 false 7 s6 fun _ =>
      (faddrV 11 (.ptr ([] : Heap).length 0)).bind fun x8 =>
      (loadV s6 false 1 x8).bind fun x9 =>
      (lenP s6 .slice x9).bind fun x10 =>
      (faddrV 11 (.ptr s1.length 0)).bind fun x11 =>
      (loadV s6 false 1 x11).bind fun x12 =>
      (lenP s6 .slice x12).bind fun x13 =>
      (evBin .neq .int (.int .i64 (x10 : Nat)) (.int .i64 (x13 : Nat))).bind fun x14 =>
      some ([x8, x9, (.int .i64 (x10 : Nat)), x11, x12, (.int .i64 (x13 : Nat)), x14], s6)).bind fun q15 =>
  (pickV x7 (.bool true) (nthV q15.1 6)).bind fun x16 =>
  condK x16
    (fun _ => finVs p15.keepr [(.bool false)] q15.2)
    (fun _ => (faddrV 11 (.ptr ([] : Heap).length 0)).bind fun x17 =>
    (loadV q15.2 false 1 x17).bind fun x18 =>
    (lenP q15.2 .slice x18).bind fun x19 =>
    L15_1 X (.ptr ([] : Heap).length 0) (.ptr s1.length 0) (.int .i64 (x19 : Nat)) (.int .i64 0) q15.2)) := (pure_of C15 (Nat.le_of_ble_eq_true rfl)).trans (by kernel_rfl)
theorem L15_1_eq (X : Ext) (v2 v3 v21 v22 : PV) (σ : Heap) : L15_1 X v2 v3 v21 v22 σ =
  ((evBin .lss .int v22 v21).bind fun x1 =>
  condK x1
    (fun _ => (faddrV 11 v2).bind fun x2 =>
    (loadV σ false 1 x2).bind fun x3 =>
    (iaddrV σ 12 x3 v22).bind fun x4 =>
    (loadV σ true 12 x4).bind fun x5 =>
    (faddrV 11 v3).bind fun x6 =>
    (loadV σ false 1 x6).bind fun x7 =>
    (iaddrV σ 12 x7 v22).bind fun x8 =>
    (loadV σ true 12 x8).bind fun x9 =>
    callK C (Hw C X) σ false (.fn 15 []) [x5, x9] fun x10 s11 =>
    (evUn .not x10).bind fun x12 =>
    condK x12
      (fun _ => finVs p15.keepr [(.bool false)] s11)
      (fun _ => (evBin .add .int v22 (.int .i64 1)).bind fun x13 =>
      L15_1 X v2 v3 v21 x13 s11))
    (fun _ => finVs p15.keepr [(.bool true)] σ)) := (loopK_keep [2, 3, 21, 22] bL15_1 _ _ _).trans (by kernel_rfl)
/-! replay.Lemmas -/
theorem F16 (X : Ext) (v0 : PV) : (Hw C X).pure 16 [v0] =
  ((boxV v0 ([] : Heap)).bind fun s1 =>
  (loadV s1 true 12 (.ptr ([] : Heap).length 0)).bind fun x2 =>
  callK C (Hw C X) s1 false (.fn 22 []) [x2] fun x3 s4 =>
  (evUn .not x3).bind fun x5 =>
  condK x5
    (fun _ => finVs p16.keepr [.nils, (.int .i64 2)] s4)
    (fun _ => (storeV ((s4 ++ [Go.PE.Obj.map []]) ++ [Go.PE.Obj.box [.nilm]]) 1 (.ptr (s4 ++ [Go.PE.Obj.map []]).length 0) (.mp s4.length)).bind fun s6 =>
    (storeV (s6 ++ [Go.PE.Obj.box [.nilf]]) 1 (.ptr s6.length 0) (.fn 36 [(.ptr (s4 ++ [Go.PE.Obj.map []]).length 0), (.ptr s6.length 0)])).bind fun s7 =>
    (loadV s7 false 1 (.ptr s6.length 0)).bind fun x8 =>
    (loadV s7 true 12 (.ptr ([] : Heap).length 0)).bind fun x9 =>
    callK C (Hw C X) s7 false x8 [x9] fun x10 s11 =>
    (evPrim [] s11 (.keys 9 (.cst (.ptr (s4 ++ [Go.PE.Obj.map []]).length 0)) (.cst .nils) (.cst (.tup [])))).bind fun q12 =>
    finVs p16.keepr [q12.1, (.int .i64 0)] q12.2)) := (pure_of C16 (Nat.le_of_ble_eq_true rfl)).trans (by kernel_rfl)
/-! isochroneref22.Lemmas -/
theorem F17 (X : Ext) (v0 : PV) : (Hw C X).pure 17 [v0] =
  ((boxV v0 ([] : Heap)).bind fun s1 =>
  (loadV s1 true 12 (.ptr ([] : Heap).length 0)).bind fun x2 =>
  callK C (Hw C X) s1 false (.fn 28 []) [x2] fun x3 s4 =>
  condK x3
    (fun _ => finVs p17.keepr [.nils, (.int .i64 2)] s4)
    (fun _ => (loadV s4 true 12 (.ptr ([] : Heap).length 0)).bind fun x5 =>
    callK C (Hw C X) s4 false (.fn 38 []) [.nils, x5] fun x6 s7 =>
    finVs p17.keepr [x6, (.int .i64 0)] s7)) := (pure_of C17 (Nat.le_of_ble_eq_true rfl)).trans (by kernel_rfl)
/-! isochroneref20.SameStrings -/
noncomputable def k18_1 (X : Ext) : Out → EnvF 26 → Heap → Option (List PV) := finK p18
noncomputable def k18_2 (X : Ext) : Out → EnvF 26 → Heap → Option (List PV) := seqK (fun E σ => evCK C (Hw C X) (.seq (.ops p18_9) .ret) E σ (k18_1 X)) (k18_1 X)
noncomputable def k18_3 (X : Ext) : Out → EnvF 26 → Heap → Option (List PV) := blockK 0 (k18_2 X)
noncomputable def L18_1 (X : Ext) (v0 v1 v5 : PV) (σ : Heap) : Option (List PV) := loopK (Hw C X) cL18_1 (envOf 26 [(0, v0), (1, v1), (5, v5)]) σ (k18_3 X)
theorem F18 (X : Ext) (v0 v1 : PV) : (Hw C X).pure 18 [v0, v1] =
  ((lenP ([] : Heap) .slice v0).bind fun x1 =>
  (lenP ([] : Heap) .slice v1).bind fun x2 =>
  (evBin .neq .int (.int .i64 (x1 : Nat)) (.int .i64 (x2 : Nat))).bind fun x3 =>
  condK x3
    (fun _ => finVs p18.keepr [(.bool false)] ([] : Heap))
    (fun _ => L18_1 X v0 v1 (.int .i64 0) ([] : Heap))) := (pure_of C18 (Nat.le_of_ble_eq_true rfl)).trans (by kernel_rfl)
theorem L18_1_eq (X : Ext) (v0 v1 v5 : PV) (σ : Heap) : L18_1 X v0 v1 v5 σ =
  ((lenP σ .slice v0).bind fun x1 =>
  (evBin .lss .int v5 (.int .i64 (x1 : Nat))).bind fun x2 =>
  condK x2
    (fun _ => (iaddrV σ 1 v0 v5).bind fun x3 =>
    (loadV σ false 1 x3).bind fun x4 =>
    (iaddrV σ 1 v1 v5).bind fun x5 =>
    (loadV σ false 1 x5).bind fun x6 =>
    (evBin .neq .str x4 x6).bind fun x7 =>
    condK x7
      (fun _ => finVs p18.keepr [(.bool false)] σ)
      (fun _ => (evBin .add .int v5 (.int .i64 1)).bind fun x8 =>
      L18_1 X v0 v1 x8 σ))
    (fun _ => finVs p18.keepr [(.bool true)] σ)) := (loopK_keep [0, 1, 5] bL18_1 _ _ _).trans (by kernel_rfl)
/-! isochronelaw22.certs -/
noncomputable def k19_1 (X : Ext) : Out → EnvF 103 → Heap → Option (List PV) := finK p19
noncomputable def k19_2 (X : Ext) : Out → EnvF 103 → Heap → Option (List PV) := seqK (fun E σ => evCK C (Hw C X) (.keep [1, 3] cJ19_7) E σ (k19_1 X)) (k19_1 X)
noncomputable def k19_3 (X : Ext) : Out → EnvF 103 → Heap → Option (List PV) := blockK 0 (k19_2 X)
noncomputable def L19_6 (X : Ext) (v1 v3 v4 : PV) (σ : Heap) : Option (List PV) := loopK (Hw C X) cL19_6 (envOf 103 [(1, v1), (3, v3), (4, v4)]) σ (k19_3 X)
noncomputable def J19_7 (X : Ext) (v1 v3 : PV) (σ : Heap) : Option (List PV) := cutK C (Hw C X) cJ19_7 (envOf 103 [(1, v1), (3, v3)]) σ (k19_1 X)
noncomputable def k19_4 (X : Ext) : Out → EnvF 103 → Heap → Option (List PV) := seqK (fun E σ => evCK C (Hw C X) (.keep [1, 3] cJ19_5) E σ (k19_1 X)) (k19_1 X)
noncomputable def k19_5 (X : Ext) : Out → EnvF 103 → Heap → Option (List PV) := blockK 2 (k19_4 X)
noncomputable def L19_4 (X : Ext) (v1 v3 v5 : PV) (σ : Heap) : Option (List PV) := loopK (Hw C X) cL19_4 (envOf 103 [(1, v1), (3, v3), (5, v5)]) σ (k19_5 X)
noncomputable def J19_5 (X : Ext) (v1 v3 : PV) (σ : Heap) : Option (List PV) := cutK C (Hw C X) cJ19_5 (envOf 103 [(1, v1), (3, v3)]) σ (k19_1 X)
noncomputable def k19_6 (X : Ext) : Out → EnvF 103 → Heap → Option (List PV) := seqK (fun E σ => evCK C (Hw C X) (.keep [1, 3] cJ19_3) E σ (k19_1 X)) (k19_1 X)
noncomputable def k19_7 (X : Ext) : Out → EnvF 103 → Heap → Option (List PV) := blockK 4 (k19_6 X)
noncomputable def L19_2 (X : Ext) (v1 v3 v6 : PV) (σ : Heap) : Option (List PV) := loopK (Hw C X) cL19_2 (envOf 103 [(1, v1), (3, v3), (6, v6)]) σ (k19_7 X)
noncomputable def J19_3 (X : Ext) (v1 v3 : PV) (σ : Heap) : Option (List PV) := cutK C (Hw C X) cJ19_3 (envOf 103 [(1, v1), (3, v3)]) σ (k19_1 X)
noncomputable def k19_8 (X : Ext) : Out → EnvF 103 → Heap → Option (List PV) := seqK (fun E σ => evCK C (Hw C X) (.seq (.ops p19_22) .ret) E σ (k19_1 X)) (k19_1 X)
noncomputable def k19_9 (X : Ext) : Out → EnvF 103 → Heap → Option (List PV) := blockK 6 (k19_8 X)
noncomputable def L19_1 (X : Ext) (v1 v3 v7 : PV) (σ : Heap) : Option (List PV) := loopK (Hw C X) cL19_1 (envOf 103 [(1, v1), (3, v3), (7, v7)]) σ (k19_9 X)
theorem F19 (X : Ext) (v0 : PV) : (Hw C X).pure 19 [v0] =
  ((boxV v0 ([] : Heap)).bind fun s1 =>
  L19_6 X (.ptr ([] : Heap).length 0) (.int .i64 0) (.int .i64 0) s1) := (pure_of C19 (Nat.le_of_ble_eq_true rfl)).trans (by kernel_rfl)
theorem L19_6_eq (X : Ext) (v1 v3 v4 : PV) (σ : Heap) : L19_6 X v1 v3 v4 σ =
  ((faddrV 1 v1).bind fun x1 =>
  (loadV σ false 1 x1).bind fun x2 =>
  (lenP σ .slice x2).bind fun x3 =>
  (evBin .lss .int v4 (.int .i64 (x3 : Nat))).bind fun x4 =>
  condK x4
    (fun _ => (faddrV 1 v1).bind fun x5 =>
    (loadV σ false 1 x5).bind fun x6 =>
    (iaddrV σ 3 x6 v4).bind fun x7 =>
    (faddrV 1 x7).bind fun x8 =>
    (loadV σ false 1 x8).bind fun x9 =>
    (lenP σ .slice x9).bind fun x10 =>
    (faddrV 1 v1).bind fun x11 =>
    (loadV σ false 1 x11).bind fun x12 =>
    (iaddrV σ 3 x12 v4).bind fun x13 =>
    (faddrV 2 x13).bind fun x14 =>
    (loadV σ false 1 x14).bind fun x15 =>
    (lenP σ .slice x15).bind fun x16 =>
    (evBin .add .int (.int .i64 (x10 : Nat)) (.int .i64 (x16 : Nat))).bind fun x17 =>
    (evBin .mul .int (.int .i64 4) x17).bind fun x18 =>
    (evBin .add .int (.int .i64 1) x18).bind fun x19 =>
    (evBin .add .int v3 x19).bind fun x20 =>
    (evBin .add .int v4 (.int .i64 1)).bind fun x21 =>
    L19_6 X v1 x20 x21 σ)
    (fun _ => J19_7 X v1 v3 σ)) := (loopK_keep [1, 3, 4] bL19_6 _ _ _).trans (by kernel_rfl)
theorem J19_7_eq (X : Ext) (v1 v3 : PV) (σ : Heap) : J19_7 X v1 v3 σ =
  (L19_4 X v1 v3 (.int .i64 0) σ) := (cutK_eq _ _ _ _).trans (by kernel_rfl)
theorem L19_4_eq (X : Ext) (v1 v3 v5 : PV) (σ : Heap) : L19_4 X v1 v3 v5 σ =
  ((faddrV 2 v1).bind fun x1 =>
  (loadV σ false 1 x1).bind fun x2 =>
  (lenP σ .slice x2).bind fun x3 =>
  (evBin .lss .int v5 (.int .i64 (x3 : Nat))).bind fun x4 =>
  condK x4
    (fun _ => (faddrV 2 v1).bind fun x5 =>
    (loadV σ false 1 x5).bind fun x6 =>
    (iaddrV σ 2 x6 v5).bind fun x7 =>
    (loadV σ true 2 x7).bind fun x8 =>
    callK C (Hw C X) σ false (.fn 39 []) [x8] fun x9 s10 =>
    (evBin .add .int (.int .i64 1) x9).bind fun x11 =>
    (evBin .add .int v3 x11).bind fun x12 =>
    (evBin .add .int v5 (.int .i64 1)).bind fun x13 =>
    L19_4 X v1 x12 x13 s10)
    (fun _ => J19_5 X v1 v3 σ)) := (loopK_keep [1, 3, 5] bL19_4 _ _ _).trans (by kernel_rfl)
theorem J19_5_eq (X : Ext) (v1 v3 : PV) (σ : Heap) : J19_5 X v1 v3 σ =
  (L19_2 X v1 v3 (.int .i64 0) σ) := (cutK_eq _ _ _ _).trans (by kernel_rfl)
theorem L19_2_eq (X : Ext) (v1 v3 v6 : PV) (σ : Heap) : L19_2 X v1 v3 v6 σ =
  ((faddrV 3 v1).bind fun x1 =>
  (loadV σ false 1 x1).bind fun x2 =>
  (lenP σ .slice x2).bind fun x3 =>
  (evBin .lss .int v6 (.int .i64 (x3 : Nat))).bind fun x4 =>
  condK x4
    (fun _ => (faddrV 3 v1).bind fun x5 =>
    (loadV σ false 1 x5).bind fun x6 =>
    (iaddrV σ 5 x6 v6).bind fun x7 =>
    (faddrV 0 x7).bind fun x8 =>
    (faddrV 1 x8).bind fun x9 =>
    (loadV σ false 1 x9).bind fun x10 =>
    (lenP σ .slice x10).bind fun x11 =>
    (faddrV 3 v1).bind fun x12 =>
    (loadV σ false 1 x12).bind fun x13 =>
    (iaddrV σ 5 x13 v6).bind fun x14 =>
    (faddrV 0 x14).bind fun x15 =>
    (faddrV 2 x15).bind fun x16 =>
    (loadV σ false 1 x16).bind fun x17 =>
    (lenP σ .slice x17).bind fun x18 =>
    (evBin .add .int (.int .i64 (x11 : Nat)) (.int .i64 (x18 : Nat))).bind fun x19 =>
    (evBin .mul .int (.int .i64 4) x19).bind fun x20 =>
    (evBin .add .int (.int .i64 1) x20).bind fun x21 =>
    (faddrV 3 v1).bind fun x22 =>
    (loadV σ false 1 x22).bind fun x23 =>
    (iaddrV σ 5 x23 v6).bind fun x24 =>
    (faddrV 3 x24).bind fun x25 =>
    (loadV σ true 2 x25).bind fun x26 =>
    callK C (Hw C X) σ true (.fn 39 []) [x26] fun x27 s28 =>
    (evBin .add .int x21 x27).bind fun x29 =>
    (evBin .add .int v3 x29).bind fun x30 =>
    (evBin .add .int v6 (.int .i64 1)).bind fun x31 =>
    L19_2 X v1 x30 x31 s28)
    (fun _ => J19_3 X v1 v3 σ)) := (loopK_keep [1, 3, 6] bL19_2 _ _ _).trans (by kernel_rfl)
theorem J19_3_eq (X : Ext) (v1 v3 : PV) (σ : Heap) : J19_3 X v1 v3 σ =
  (L19_1 X v1 v3 (.int .i64 0) σ) := (cutK_eq _ _ _ _).trans (by kernel_rfl)
theorem L19_1_eq (X : Ext) (v1 v3 v7 : PV) (σ : Heap) : L19_1 X v1 v3 v7 σ =
  ((faddrV 4 v1).bind fun x1 =>
  (loadV σ false 1 x1).bind fun x2 =>
  (lenP σ .slice x2).bind fun x3 =>
  (evBin .lss .int v7 (.int .i64 (x3 : Nat))).bind fun x4 =>
  condK x4
    (fun _ => (faddrV 4 v1).bind fun x5 =>
    (loadV σ false 1 x5).bind fun x6 =>
    (iaddrV σ 5 x6 v7).bind fun x7 =>
    (loadV σ true 5 x7).bind fun x8 =>
    callK C (Hw C X) σ false (.fn 19 []) [x8] fun x9 s10 =>
    (evBin .add .int (.int .i64 1) x9).bind fun x11 =>
    (evBin .add .int v3 x11).bind fun x12 =>
    (evBin .add .int v7 (.int .i64 1)).bind fun x13 =>
    L19_1 X v1 x12 x13 s10)
    (fun _ => finVs p19.keepr [v3] σ)) := (loopK_keep [1, 3, 7] bL19_1 _ _ _).trans (by kernel_rfl)
/-! isochroneref08.Size -/
noncomputable def k20_1 (X : Ext) : Out → EnvF 21 → Heap → Option (List PV) := finK p20
noncomputable def k20_2 (X : Ext) : Out → EnvF 21 → Heap → Option (List PV) := seqK (fun E σ => evCK C (Hw C X) (.seq (.ops p20_7) .ret) E σ (k20_1 X)) (k20_1 X)
noncomputable def k20_3 (X : Ext) : Out → EnvF 21 → Heap → Option (List PV) := blockK 0 (k20_2 X)
noncomputable def L20_1 (X : Ext) (v1 v3 v4 : PV) (σ : Heap) : Option (List PV) := loopK (Hw C X) cL20_1 (envOf 21 [(1, v1), (3, v3), (4, v4)]) σ (k20_3 X)
theorem F20 (X : Ext) (v0 : PV) : (Hw C X).pure 20 [v0] =
  ((boxV v0 ([] : Heap)).bind fun s1 =>
  L20_1 X (.ptr ([] : Heap).length 0) (.int .i64 1) (.int .i64 0) s1) := (pure_of C20 (Nat.le_of_ble_eq_true rfl)).trans (by kernel_rfl)
theorem L20_1_eq (X : Ext) (v1 v3 v4 : PV) (σ : Heap) : L20_1 X v1 v3 v4 σ =
  ((faddrV 5 v1).bind fun x1 =>
  (loadV σ false 1 x1).bind fun x2 =>
  (lenP σ .slice x2).bind fun x3 =>
  (evBin .lss .int v4 (.int .i64 (x3 : Nat))).bind fun x4 =>
  condK x4
    (fun _ => (faddrV 5 v1).bind fun x5 =>
    (loadV σ false 1 x5).bind fun x6 =>
    (iaddrV σ 6 x6 v4).bind fun x7 =>
    (loadV σ true 6 x7).bind fun x8 =>
    callK C (Hw C X) σ false (.fn 20 []) [x8] fun x9 s10 =>
    (evBin .add .int v3 x9).bind fun x11 =>
    (evBin .add .int v4 (.int .i64 1)).bind fun x12 =>
    L20_1 X v1 x11 x12 s10)
    (fun _ => finVs p20.keepr [v3] σ)) := (loopK_keep [1, 3, 4] bL20_1 _ _ _).trans (by kernel_rfl)
/-! isochroneref20.CalmProof -/
noncomputable def k21_1 (X : Ext) : Out → EnvF 72 → Heap → Option (List PV) := finK p21
noncomputable def k21_2 (X : Ext) : Out → EnvF 72 → Heap → Option (List PV) := seqK (fun E σ => evCK C (Hw C X) (.keep [1] cJ21_6) E σ (k21_1 X)) (k21_1 X)
noncomputable def k21_3 (X : Ext) : Out → EnvF 72 → Heap → Option (List PV) := blockK 0 (k21_2 X)
noncomputable def L21_5 (X : Ext) (v1 v3 : PV) (σ : Heap) : Option (List PV) := loopK (Hw C X) cL21_5 (envOf 72 [(1, v1), (3, v3)]) σ (k21_3 X)
noncomputable def J21_6 (X : Ext) (v1 : PV) (σ : Heap) : Option (List PV) := cutK C (Hw C X) cJ21_6 (envOf 72 [(1, v1)]) σ (k21_1 X)
noncomputable def k21_4 (X : Ext) : Out → EnvF 72 → Heap → Option (List PV) := seqK (fun E σ => evCK C (Hw C X) (.keep [1] cJ21_4) E σ (k21_1 X)) (k21_1 X)
noncomputable def k21_5 (X : Ext) : Out → EnvF 72 → Heap → Option (List PV) := blockK 2 (k21_4 X)
noncomputable def L21_2 (X : Ext) (v1 v4 : PV) (σ : Heap) : Option (List PV) := loopK (Hw C X) cL21_2 (envOf 72 [(1, v1), (4, v4)]) σ (k21_5 X)
noncomputable def k21_6 (X : Ext) : Out → EnvF 72 → Heap → Option (List PV) := roundK C X cL21_2 (k21_5 X)
noncomputable def k21_7 (X : Ext) : Out → EnvF 72 → Heap → Option (List PV) := seqK (fun E σ => evCK C (Hw C X) (.ops p21_17) E σ (k21_6 X)) (k21_6 X)
noncomputable def k21_8 (X : Ext) : Out → EnvF 72 → Heap → Option (List PV) := blockK 3 (k21_7 X)
noncomputable def k21_9 (X : Ext) : Out → EnvF 72 → Heap → Option (List PV) := blockK 4 (k21_8 X)
noncomputable def L21_3 (X : Ext) (v1 v4 v5 : PV) (σ : Heap) : Option (List PV) := loopK (Hw C X) cL21_3 (envOf 72 [(1, v1), (4, v4), (5, v5)]) σ (k21_9 X)
noncomputable def J21_4 (X : Ext) (v1 : PV) (σ : Heap) : Option (List PV) := cutK C (Hw C X) cJ21_4 (envOf 72 [(1, v1)]) σ (k21_1 X)
noncomputable def k21_10 (X : Ext) : Out → EnvF 72 → Heap → Option (List PV) := seqK (fun E σ => evCK C (Hw C X) (.seq (.ops p21_25) .ret) E σ (k21_1 X)) (k21_1 X)
noncomputable def k21_11 (X : Ext) : Out → EnvF 72 → Heap → Option (List PV) := blockK 6 (k21_10 X)
noncomputable def L21_1 (X : Ext) (v1 v6 : PV) (σ : Heap) : Option (List PV) := loopK (Hw C X) cL21_1 (envOf 72 [(1, v1), (6, v6)]) σ (k21_11 X)
theorem F21 (X : Ext) (v0 : PV) : (Hw C X).pure 21 [v0] =
  ((boxV v0 ([] : Heap)).bind fun s1 =>
  L21_5 X (.ptr ([] : Heap).length 0) (.int .i64 0) s1) := (pure_of C21 (Nat.le_of_ble_eq_true rfl)).trans (by kernel_rfl)
theorem L21_5_eq (X : Ext) (v1 v3 : PV) (σ : Heap) : L21_5 X v1 v3 σ =
  ((faddrV 2 v1).bind fun x1 =>
  (loadV σ false 1 x1).bind fun x2 =>
  (lenP σ .slice x2).bind fun x3 =>
  (evBin .lss .int v3 (.int .i64 (x3 : Nat))).bind fun x4 =>
  condK x4
    (fun _ => (faddrV 2 v1).bind fun x5 =>
    (loadV σ false 1 x5).bind fun x6 =>
    (iaddrV σ 6 x6 v3).bind fun x7 =>
    (loadV σ true 6 x7).bind fun x8 =>
    callK C (Hw C X) σ false (.fn 40 []) [x8] fun x9 s10 =>
    (evUn .not x9).bind fun x11 =>
    condK x11
      (fun _ => finVs p21.keepr [(.bool false)] s10)
      (fun _ => (evBin .add .int v3 (.int .i64 1)).bind fun x12 =>
      L21_5 X v1 x12 s10))
    (fun _ => J21_6 X v1 σ)) := (loopK_keep [1, 3] bL21_5 _ _ _).trans (by kernel_rfl)
theorem J21_6_eq (X : Ext) (v1 : PV) (σ : Heap) : J21_6 X v1 σ =
  (L21_2 X v1 (.int .i64 0) σ) := (cutK_eq _ _ _ _).trans (by kernel_rfl)
theorem L21_2_eq (X : Ext) (v1 v4 : PV) (σ : Heap) : L21_2 X v1 v4 σ =
  ((faddrV 3 v1).bind fun x1 =>
  (loadV σ false 1 x1).bind fun x2 =>
  (lenP σ .slice x2).bind fun x3 =>
  (evBin .lss .int v4 (.int .i64 (x3 : Nat))).bind fun x4 =>
  condK x4
    (fun _ => (faddrV 3 v1).bind fun x5 =>
    (loadV σ false 1 x5).bind fun x6 =>
    (iaddrV σ 13 x6 v4).bind fun x7 =>
    (faddrV 6 x7).bind fun x8 =>
    (loadV σ true 6 x8).bind fun x9 =>
    callK C (Hw C X) σ false (.fn 40 []) [x9] fun x10 s11 =>
    (evUn .not x10).bind fun x12 =>
    condK x12
      (fun _ => finVs p21.keepr [(.bool false)] s11)
      (fun _ => L21_3 X v1 v4 (.int .i64 0) s11))
    (fun _ => J21_4 X v1 σ)) := (loopK_keep [1, 4] bL21_2 _ _ _).trans (by kernel_rfl)
theorem L21_3_eq (X : Ext) (v1 v4 v5 : PV) (σ : Heap) : L21_3 X v1 v4 v5 σ =
  ((faddrV 3 v1).bind fun x1 =>
  (loadV σ false 1 x1).bind fun x2 =>
  (iaddrV σ 13 x2 v4).bind fun x3 =>
  (faddrV 12 x3).bind fun x4 =>
  (loadV σ false 1 x4).bind fun x5 =>
  (lenP σ .slice x5).bind fun x6 =>
  (evBin .lss .int v5 (.int .i64 (x6 : Nat))).bind fun x7 =>
  condK x7
    (fun _ => (faddrV 3 v1).bind fun x8 =>
    (loadV σ false 1 x8).bind fun x9 =>
    (iaddrV σ 13 x9 v4).bind fun x10 =>
    (faddrV 12 x10).bind fun x11 =>
    (loadV σ false 1 x11).bind fun x12 =>
    (iaddrV σ 6 x12 v5).bind fun x13 =>
    (loadV σ true 6 x13).bind fun x14 =>
    callK C (Hw C X) σ false (.fn 40 []) [x14] fun x15 s16 =>
    (evUn .not x15).bind fun x17 =>
    condK x17
      (fun _ => finVs p21.keepr [(.bool false)] s16)
      (fun _ => (evBin .add .int v5 (.int .i64 1)).bind fun x18 =>
      L21_3 X v1 v4 x18 s16))
    (fun _ => (evBin .add .int v4 (.int .i64 1)).bind fun x19 =>
    L21_2 X v1 x19 σ)) := (loopK_keep [1, 4, 5] bL21_3 _ _ _).trans (by kernel_rfl)
theorem J21_4_eq (X : Ext) (v1 : PV) (σ : Heap) : J21_4 X v1 σ =
  (L21_1 X v1 (.int .i64 0) σ) := (cutK_eq _ _ _ _).trans (by kernel_rfl)
theorem L21_1_eq (X : Ext) (v1 v6 : PV) (σ : Heap) : L21_1 X v1 v6 σ =
  ((faddrV 11 v1).bind fun x1 =>
  (loadV σ false 1 x1).bind fun x2 =>
  (lenP σ .slice x2).bind fun x3 =>
  (evBin .lss .int v6 (.int .i64 (x3 : Nat))).bind fun x4 =>
  condK x4
    (fun _ => (faddrV 11 v1).bind fun x5 =>
    (loadV σ false 1 x5).bind fun x6 =>
    (iaddrV σ 12 x6 v6).bind fun x7 =>
    (loadV σ true 12 x7).bind fun x8 =>
    callK C (Hw C X) σ false (.fn 21 []) [x8] fun x9 s10 =>
    (evUn .not x9).bind fun x11 =>
    condK x11
      (fun _ => finVs p21.keepr [(.bool false)] s10)
      (fun _ => (evBin .add .int v6 (.int .i64 1)).bind fun x12 =>
      L21_1 X v1 x12 s10))
    (fun _ => finVs p21.keepr [(.bool true)] σ)) := (loopK_keep [1, 6] bL21_1 _ _ _).trans (by kernel_rfl)
/-! proof.Small -/
theorem F22 (X : Ext) (v0 : PV) : (Hw C X).pure 22 [v0] =
  ((boxV v0 ([] : Heap)).bind fun s1 =>
  (storeV (s1 ++ [Go.PE.Obj.box [(.int .i64 0)]]) 1 (.ptr s1.length 0) (.int .i64 2000)).bind fun s2 =>
  (loadV s2 true 12 (.ptr ([] : Heap).length 0)).bind fun x3 =>
  callK C (Hw C X) s2 false (.fn 41 []) [x3, (.ptr s1.length 0), (.int .i64 60)] fun x4 s5 =>
  finVs p22.keepr [x4] s5) := (pure_of C22 (Nat.le_of_ble_eq_true rfl)).trans (by kernel_rfl)
/-! replay.Record$1 -/
noncomputable def k23_1 (X : Ext) : Out → EnvF 79 → Heap → Option (List PV × Heap) := finI p23
noncomputable def k23_2 (X : Ext) : Out → EnvF 79 → Heap → Option (List PV × Heap) := seqK (fun E σ => evCK C (Hw C X) (.keep [2, 3, 6] cJ23_4) E σ (k23_1 X)) (k23_1 X)
noncomputable def k23_3 (X : Ext) : Out → EnvF 79 → Heap → Option (List PV × Heap) := blockK 0 (k23_2 X)
noncomputable def L23_3 (X : Ext) (v1 v2 v3 v6 v17 v18 v19 : PV) (σ : Heap) : Option (List PV × Heap) := loopK (Hw C X) cL23_3 (envOf 79 [(1, v1), (2, v2), (3, v3), (6, v6), (17, v17), (18, v18), (19, v19)]) σ (k23_3 X)
noncomputable def J23_4 (X : Ext) (v2 v3 v6 : PV) (σ : Heap) : Option (List PV × Heap) := cutK C (Hw C X) cJ23_4 (envOf 79 [(2, v2), (3, v3), (6, v6)]) σ (k23_1 X)
noncomputable def k23_4 (X : Ext) : Out → EnvF 79 → Heap → Option (List PV × Heap) := seqK (fun E σ => evCK C (Hw C X) (.keep [2, 3, 6, 10] cJ23_2) E σ (k23_1 X)) (k23_1 X)
noncomputable def k23_5 (X : Ext) : Out → EnvF 79 → Heap → Option (List PV × Heap) := blockK 2 (k23_4 X)
noncomputable def L23_1 (X : Ext) (v2 v3 v6 v10 v37 v38 v39 : PV) (σ : Heap) : Option (List PV × Heap) := loopK (Hw C X) cL23_1 (envOf 79 [(2, v2), (3, v3), (6, v6), (10, v10), (37, v37), (38, v38), (39, v39)]) σ (k23_5 X)
noncomputable def J23_2 (X : Ext) (v2 v3 v6 v10 : PV) (σ : Heap) : Option (List PV × Heap) := cutK C (Hw C X) cJ23_2 (envOf 79 [(2, v2), (3, v3), (6, v6), (10, v10)]) σ (k23_1 X)
theorem F23 (X : Ext) (v0 v1 v2 v3 : PV) (σ : Heap) : (Hw C X).imp 23 [v0, v1, v2, v3] σ =
  ((boxV v0 σ).bind fun s1 =>
  (loadV s1 true 12 (.ptr σ.length 0)).bind fun x2 =>
  callK C (Hw C X) s1 false (.fn 24 []) [x2] fun x3 s4 =>
  (evPrim [] s4 (.build [(.str []), (.str []), .nils, .nils, .nils, .nils, (.int .i64 0), .nils, .nils, .nils, .nils, .nils, .nils] [(0, 12, (.cst x3))])).bind fun q5 =>
  (storeV (q5.2 ++ [Go.PE.Obj.box [(.str []), (.str []), .nils, .nils, .nils, .nils, (.int .i64 0), .nils, .nils, .nils, .nils, .nils, .nils]]) 13 (.ptr q5.2.length 0) q5.1).bind fun s6 =>
  (faddrV 11 (.ptr σ.length 0)).bind fun x7 =>
  (loadV s6 false 1 x7).bind fun x8 =>
  (lenP s6 .slice x8).bind fun x9 =>
  L23_3 X v1 v2 v3 (.ptr q5.2.length 0) x8 (.int .i64 (x9 : Nat)) (.int .i64 0) s6) := (imp_of C23 (Nat.le_of_ble_eq_true rfl)).trans (by kernel_rfl)
theorem L23_3_eq (X : Ext) (v1 v2 v3 v6 v17 v18 v19 : PV) (σ : Heap) : L23_3 X v1 v2 v3 v6 v17 v18 v19 σ =
  ((evBin .lss .int v19 v18).bind fun x1 =>
  condK x1
    (fun _ => (iaddrV σ 12 v17 v19).bind fun x2 =>
    (loadV σ true 12 x2).bind fun x3 =>
    (storeV (σ ++ [Go.PE.Obj.box [(.str []), (.str []), .nils, .nils, .nils, .nils, (.int .i64 0), .nils, .nils, .nils, .nils, .nils]]) 12 (.ptr σ.length 0) x3).bind fun s4 =>
    (loadV s4 false 1 v1).bind fun x5 =>
    (loadV s4 true 12 (.ptr σ.length 0)).bind fun x6 =>
    callK C (Hw C X) s4 false x5 [x6] fun x7 s8 =>
    (faddrV 12 v6).bind fun x9 =>
    (loadV s8 false 1 x9).bind fun x10 =>
    (evPrim [] s8 (.bslice 1 [none] [(.int .i64 0)] 1 [(0, (.cst x7))])).bind fun q11 =>
    (appendP 3 1 8 q11.2 x10 q11.1).bind fun q12 =>
    (faddrV 12 v6).bind fun x13 =>
    (storeV q12.2 1 x13 q12.1).bind fun s14 =>
    (evBin .add .int v19 (.int .i64 1)).bind fun x15 =>
    L23_3 X v1 v2 v3 v6 v17 v18 x15 s14)
    (fun _ => J23_4 X v2 v3 v6 σ)) := (loopK_keep [1, 2, 3, 6, 17, 18, 19] bL23_3 _ _ _).trans (by kernel_rfl)
theorem J23_4_eq (X : Ext) (v2 v3 v6 : PV) (σ : Heap) : J23_4 X v2 v3 v6 σ =
  ((loadV σ true 13 v6).bind fun x1 =>
  callK C (Hw C X) σ false (.fn 25 []) [x1] fun x2 s3 =>
  (loadV s3 false 1 v2).bind fun x4 =>
  (evPrim [] s3 (.lookup .str .nils (.cst x4) (.cst x2) false)).bind fun q5 =>
  (lenP q5.2 .slice q5.1).bind fun x6 =>
  L23_1 X v2 v3 v6 x2 q5.1 (.int .i64 (x6 : Nat)) (.int .i64 0) q5.2) := (cutK_eq _ _ _ _).trans (by kernel_rfl)
theorem L23_1_eq (X : Ext) (v2 v3 v6 v10 v37 v38 v39 : PV) (σ : Heap) : L23_1 X v2 v3 v6 v10 v37 v38 v39 σ =
  ((evBin .lss .int v39 v38).bind fun x1 =>
  condK x1
    (fun _ => (iaddrV σ 1 v37 v39).bind fun x2 =>
    (loadV σ false 1 x2).bind fun x3 =>
    (loadV σ false 1 v3).bind fun x4 =>
    (iaddrV σ 13 x4 x3).bind fun x5 =>
    (faddrV 0 x5).bind fun x6 =>
    (loadV σ true 12 x6).bind fun x7 =>
    (faddrV 0 v6).bind fun x8 =>
    (loadV σ true 12 x8).bind fun x9 =>
    callK C (Hw C X) σ false (.fn 26 []) [x7, x9] fun x10 s11 =>
    (guardR x10 true 8 s11 fun _ =>
        (loadV s11 false 1 v3).bind fun x12 =>
        (iaddrV s11 13 x12 x3).bind fun x13 =>
        (faddrV 12 x13).bind fun x14 =>
        (loadV s11 false 1 x14).bind fun x15 =>
        (faddrV 12 v6).bind fun x16 =>
        (loadV s11 false 1 x16).bind fun x17 =>
        callK C (Hw C X) s11 false (.fn 27 []) [x15, x17] fun x18 s19 =>
        some ([x12, x3, x13, x14, x15, x16, x17, x18], s19)).bind fun q20 =>
    (pickV x10 (nthV q20.1 7) (.bool false)).bind fun x21 =>
    condK x21
      (fun _ => some (keepArgs q20.2 p23.keepr [x3], q20.2))
      (fun _ => (evBin .add .int v39 (.int .i64 1)).bind fun x22 =>
      L23_1 X v2 v3 v6 v10 v37 v38 x22 q20.2))
    (fun _ => J23_2 X v2 v3 v6 v10 σ)) := (loopK_keep [2, 3, 6, 10, 37, 38, 39] bL23_1 _ _ _).trans (by kernel_rfl)
theorem J23_2_eq (X : Ext) (v2 v3 v6 v10 : PV) (σ : Heap) : J23_2 X v2 v3 v6 v10 σ =
  ((loadV σ false 1 v2).bind fun x1 =>
  (loadV σ false 1 v2).bind fun x2 =>
  (evPrim [] σ (.lookup .str .nils (.cst x2) (.cst v10) false)).bind fun q3 =>
  (loadV q3.2 false 1 v3).bind fun x4 =>
  (lenP q3.2 .slice x4).bind fun x5 =>
  (evPrim [] q3.2 (.bslice 1 [none] [(.int .i64 0)] 1 [(0, (.cst (.int .i64 (x5 : Nat))))])).bind fun q6 =>
  (appendP 3 1 8 q6.2 q3.1 q6.1).bind fun q7 =>
  (evPrim [] q7.2 (.mapup .str (.cst x1) (.cst v10) (.cst q7.1))).bind fun q8 =>
  (loadV q8.2 false 1 v3).bind fun x9 =>
  (loadV q8.2 true 13 v6).bind fun x10 =>
  (evPrim [] q8.2 (.bslice 13 [none, none, (some 6), (some 13), (some 1), (some 1), none, (some 3), (some 2), (some 5), (some 5), (some 12), (some 1)] [(.str []), (.str []), .nils, .nils, .nils, .nils, (.int .i64 0), .nils, .nils, .nils, .nils, .nils, .nils] 1 [(0, (.cst x10))])).bind fun q11 =>
  (appendP 61 13 280 q11.2 x9 q11.1).bind fun q12 =>
  (storeV q12.2 1 v3 q12.1).bind fun s13 =>
  (loadV s13 false 1 v3).bind fun x14 =>
  (lenP s13 .slice x14).bind fun x15 =>
  (evBin .sub .int (.int .i64 (x15 : Nat)) (.int .i64 1)).bind fun x16 =>
  some (keepArgs s13 p23.keepr [x16], s13)) := (cutK_eq _ _ _ _).trans (by kernel_rfl)
/-! proof.Bare -/
noncomputable def k24_1 (X : Ext) : Out → EnvF 81 → Heap → Option (List PV) := finK p24
noncomputable def k24_2 (X : Ext) : Out → EnvF 81 → Heap → Option (List PV) := seqK (fun E σ => evCK C (Hw C X) (.keep [1, 2, 3] cJ24_6) E σ (k24_1 X)) (k24_1 X)
noncomputable def k24_3 (X : Ext) : Out → EnvF 81 → Heap → Option (List PV) := blockK 0 (k24_2 X)
noncomputable def L24_5 (X : Ext) (v1 v2 v3 v28 v29 v30 : PV) (σ : Heap) : Option (List PV) := loopK (Hw C X) cL24_5 (envOf 81 [(1, v1), (2, v2), (3, v3), (28, v28), (29, v29), (30, v30)]) σ (k24_3 X)
noncomputable def J24_6 (X : Ext) (v1 v2 v3 : PV) (σ : Heap) : Option (List PV) := cutK C (Hw C X) cJ24_6 (envOf 81 [(1, v1), (2, v2), (3, v3)]) σ (k24_1 X)
noncomputable def k24_4 (X : Ext) : Out → EnvF 81 → Heap → Option (List PV) := seqK (fun E σ => evCK C (Hw C X) (.keep [2, 3] cJ24_4) E σ (k24_1 X)) (k24_1 X)
noncomputable def k24_5 (X : Ext) : Out → EnvF 81 → Heap → Option (List PV) := blockK 2 (k24_4 X)
noncomputable def L24_1 (X : Ext) (v2 v3 v44 v45 v46 : PV) (σ : Heap) : Option (List PV) := loopK (Hw C X) cL24_1 (envOf 81 [(2, v2), (3, v3), (44, v44), (45, v45), (46, v46)]) σ (k24_5 X)
noncomputable def k24_6 (X : Ext) : Out → EnvF 81 → Heap → Option (List PV) := roundK C X cL24_1 (k24_5 X)
noncomputable def k24_7 (X : Ext) : Out → EnvF 81 → Heap → Option (List PV) := seqK (fun E σ => evCK C (Hw C X) (.ops p24_21) E σ (k24_6 X)) (k24_6 X)
noncomputable def k24_8 (X : Ext) : Out → EnvF 81 → Heap → Option (List PV) := blockK 3 (k24_7 X)
noncomputable def k24_9 (X : Ext) : Out → EnvF 81 → Heap → Option (List PV) := seqK (fun E σ => evCK C (Hw C X) (.keep [2, 3, 9, 44, 45, 46] cJ24_3) E σ (k24_8 X)) (k24_8 X)
noncomputable def k24_10 (X : Ext) : Out → EnvF 81 → Heap → Option (List PV) := blockK 4 (k24_9 X)
noncomputable def L24_2 (X : Ext) (v2 v3 v9 v44 v45 v46 v58 v59 v60 : PV) (σ : Heap) : Option (List PV) := loopK (Hw C X) cL24_2 (envOf 81 [(2, v2), (3, v3), (9, v9), (44, v44), (45, v45), (46, v46), (58, v58), (59, v59), (60, v60)]) σ (k24_10 X)
noncomputable def J24_4 (X : Ext) (v2 v3 : PV) (σ : Heap) : Option (List PV) := cutK C (Hw C X) cJ24_4 (envOf 81 [(2, v2), (3, v3)]) σ (k24_1 X)
noncomputable def J24_3 (X : Ext) (v2 v3 v9 v44 v45 v46 : PV) (σ : Heap) : Option (List PV) := cutK C (Hw C X) cJ24_3 (envOf 81 [(2, v2), (3, v3), (9, v9), (44, v44), (45, v45), (46, v46)]) σ (k24_8 X)
theorem F24 (X : Ext) (v0 : PV) : (Hw C X).pure 24 [v0] =
  ((boxV v0 ([] : Heap)).bind fun s1 =>
  (faddrV 0 (.ptr ([] : Heap).length 0)).bind fun x2 =>
  (loadV (s1 ++ [Go.PE.Obj.box [(.str []), (.str []), .nils, .nils, .nils, .nils, (.int .i64 0), .nils, .nils, .nils, .nils, .nils]]) false 1 x2).bind fun x3 =>
  (faddrV 1 (.ptr ([] : Heap).length 0)).bind fun x4 =>
  (loadV (s1 ++ [Go.PE.Obj.box [(.str []), (.str []), .nils, .nils, .nils, .nils, (.int .i64 0), .nils, .nils, .nils, .nils, .nils]]) false 1 x4).bind fun x5 =>
  (faddrV 4 (.ptr ([] : Heap).length 0)).bind fun x6 =>
  (loadV (s1 ++ [Go.PE.Obj.box [(.str []), (.str []), .nils, .nils, .nils, .nils, (.int .i64 0), .nils, .nils, .nils, .nils, .nils]]) false 1 x6).bind fun x7 =>
  (evPrim [] (s1 ++ [Go.PE.Obj.box [(.str []), (.str []), .nils, .nils, .nils, .nils, (.int .i64 0), .nils, .nils, .nils, .nils, .nils]]) (.copy 1 8 (.cst x7))).bind fun q8 =>
  (faddrV 5 (.ptr ([] : Heap).length 0)).bind fun x9 =>
  (loadV q8.2 false 1 x9).bind fun x10 =>
  (evPrim [] q8.2 (.copy 1 16 (.cst x10))).bind fun q11 =>
  (faddrV 6 (.ptr ([] : Heap).length 0)).bind fun x12 =>
  (loadV q11.2 true 5 x12).bind fun x13 =>
  callK C (Hw C X) q11.2 true (.fn 42 []) [x13] fun x14 s15 =>
  (evPrim [] s15 (.build [(.str []), (.str []), .nils, .nils, .nils, .nils, (.int .i64 0), .nils, .nils, .nils, .nils, .nils] [(0, 1, (.cst x3)), (1, 1, (.cst x5)), (4, 1, (.cst q8.1)), (5, 1, (.cst q11.1)), (6, 5, (.cst x14))])).bind fun q16 =>
  (storeV (q16.2 ++ [Go.PE.Obj.box [(.str []), (.str []), .nils, .nils, .nils, .nils, (.int .i64 0), .nils, .nils, .nils, .nils, .nils]]) 12 (.ptr q16.2.length 0) q16.1).bind fun s17 =>
  (faddrV 2 (.ptr ([] : Heap).length 0)).bind fun x18 =>
  (loadV s17 false 1 x18).bind fun x19 =>
  (lenP s17 .slice x19).bind fun x20 =>
  L24_5 X (.ptr ([] : Heap).length 0) (.ptr s1.length 0) (.ptr q16.2.length 0) x19 (.int .i64 (x20 : Nat)) (.int .i64 0) s17) := (pure_of C24 (Nat.le_of_ble_eq_true rfl)).trans (by kernel_rfl)
theorem L24_5_eq (X : Ext) (v1 v2 v3 v28 v29 v30 : PV) (σ : Heap) : L24_5 X v1 v2 v3 v28 v29 v30 σ =
  ((evBin .lss .int v30 v29).bind fun x1 =>
  condK x1
    (fun _ => (iaddrV σ 6 v28 v30).bind fun x2 =>
    (loadV σ true 6 x2).bind fun x3 =>
    (storeV (σ ++ [Go.PE.Obj.box [(.int .i64 0), (.str []), (.bool false), .nils, .nils, .nils]]) 6 (.ptr σ.length 0) x3).bind fun s4 =>
    (loadV s4 true 6 (.ptr σ.length 0)).bind fun x5 =>
    callK C (Hw C X) s4 false (.fn 43 []) [x5] fun x6 s7 =>
    (storeV (s7 ++ [Go.PE.Obj.box [(.int .i64 0), (.str []), (.bool false), .nils, .nils, .nils]]) 6 (.ptr s7.length 0) x6).bind fun s8 =>
    (faddrV 2 v3).bind fun x9 =>
    (loadV s8 false 1 x9).bind fun x10 =>
    (loadV s8 true 6 (.ptr s7.length 0)).bind fun x11 =>
    (evPrim [] s8 (.bslice 6 [none, none, none, (some 1), (some 1), (some 6)] [(.int .i64 0), (.str []), (.bool false), .nils, .nils, .nils] 1 [(0, (.cst x11))])).bind fun q12 =>
    (appendP 57 6 104 q12.2 x10 q12.1).bind fun q13 =>
    (faddrV 2 v3).bind fun x14 =>
    (storeV q13.2 1 x14 q13.1).bind fun s15 =>
    (evBin .add .int v30 (.int .i64 1)).bind fun x16 =>
    L24_5 X v1 v2 v3 v28 v29 x16 s15)
    (fun _ => J24_6 X v1 v2 v3 σ)) := (loopK_keep [1, 2, 3, 28, 29, 30] bL24_5 _ _ _).trans (by kernel_rfl)
theorem J24_6_eq (X : Ext) (v1 v2 v3 : PV) (σ : Heap) : J24_6 X v1 v2 v3 σ =
  ((faddrV 3 v1).bind fun x1 =>
  (loadV σ false 1 x1).bind fun x2 =>
  (lenP σ .slice x2).bind fun x3 =>
  L24_1 X v2 v3 x2 (.int .i64 (x3 : Nat)) (.int .i64 0) σ) := (cutK_eq _ _ _ _).trans (by kernel_rfl)
theorem L24_1_eq (X : Ext) (v2 v3 v44 v45 v46 : PV) (σ : Heap) : L24_1 X v2 v3 v44 v45 v46 σ =
  ((evBin .lss .int v46 v45).bind fun x1 =>
  condK x1
    (fun _ => (iaddrV σ 13 v44 v46).bind fun x2 =>
    (loadV σ true 13 x2).bind fun x3 =>
    (storeV (σ ++ [Go.PE.Obj.box [(.int .i64 0), (.str []), (.bool false), .nils, .nils, .nils, (.int .i64 0), (.str []), (.bool false), .nils, .nils, .nils, .nils]]) 13 (.ptr σ.length 0) x3).bind fun s4 =>
    (faddrV 0 (.ptr σ.length 0)).bind fun x5 =>
    (loadV s4 true 6 x5).bind fun x6 =>
    callK C (Hw C X) s4 true (.fn 43 []) [x6] fun x7 s8 =>
    (faddrV 6 (.ptr σ.length 0)).bind fun x9 =>
    (loadV s8 true 6 x9).bind fun x10 =>
    callK C (Hw C X) s8 true (.fn 43 []) [x10] fun x11 s12 =>
    (evPrim [] s12 (.build [(.int .i64 0), (.str []), (.bool false), .nils, .nils, .nils, (.int .i64 0), (.str []), (.bool false), .nils, .nils, .nils, .nils] [(0, 6, (.cst x7)), (6, 6, (.cst x11))])).bind fun q13 =>
    (storeV (q13.2 ++ [Go.PE.Obj.box [(.int .i64 0), (.str []), (.bool false), .nils, .nils, .nils, (.int .i64 0), (.str []), (.bool false), .nils, .nils, .nils, .nils]]) 13 (.ptr q13.2.length 0) q13.1).bind fun s14 =>
    (faddrV 12 (.ptr σ.length 0)).bind fun x15 =>
    (loadV s14 false 1 x15).bind fun x16 =>
    (lenP s14 .slice x16).bind fun x17 =>
    L24_2 X v2 v3 (.ptr q13.2.length 0) v44 v45 v46 x16 (.int .i64 (x17 : Nat)) (.int .i64 0) s14)
    (fun _ => J24_4 X v2 v3 σ)) := (loopK_keep [2, 3, 44, 45, 46] bL24_1 _ _ _).trans (by kernel_rfl)
theorem L24_2_eq (X : Ext) (v2 v3 v9 v44 v45 v46 v58 v59 v60 : PV) (σ : Heap) : L24_2 X v2 v3 v9 v44 v45 v46 v58 v59 v60 σ =
  ((evBin .lss .int v60 v59).bind fun x1 =>
  condK x1
    (fun _ => (iaddrV σ 6 v58 v60).bind fun x2 =>
    (loadV σ true 6 x2).bind fun x3 =>
    (storeV (σ ++ [Go.PE.Obj.box [(.int .i64 0), (.str []), (.bool false), .nils, .nils, .nils]]) 6 (.ptr σ.length 0) x3).bind fun s4 =>
    (loadV s4 true 6 (.ptr σ.length 0)).bind fun x5 =>
    callK C (Hw C X) s4 false (.fn 43 []) [x5] fun x6 s7 =>
    (storeV (s7 ++ [Go.PE.Obj.box [(.int .i64 0), (.str []), (.bool false), .nils, .nils, .nils]]) 6 (.ptr s7.length 0) x6).bind fun s8 =>
    (faddrV 12 v9).bind fun x9 =>
    (loadV s8 false 1 x9).bind fun x10 =>
    (loadV s8 true 6 (.ptr s7.length 0)).bind fun x11 =>
    (evPrim [] s8 (.bslice 6 [none, none, none, (some 1), (some 1), (some 6)] [(.int .i64 0), (.str []), (.bool false), .nils, .nils, .nils] 1 [(0, (.cst x11))])).bind fun q12 =>
    (appendP 57 6 104 q12.2 x10 q12.1).bind fun q13 =>
    (faddrV 12 v9).bind fun x14 =>
    (storeV q13.2 1 x14 q13.1).bind fun s15 =>
    (evBin .add .int v60 (.int .i64 1)).bind fun x16 =>
    L24_2 X v2 v3 v9 v44 v45 v46 v58 v59 x16 s15)
    (fun _ => J24_3 X v2 v3 v9 v44 v45 v46 σ)) := (loopK_keep [2, 3, 9, 44, 45, 46, 58, 59, 60] bL24_2 _ _ _).trans (by kernel_rfl)
theorem J24_4_eq (X : Ext) (v2 v3 : PV) (σ : Heap) : J24_4 X v2 v3 σ =
  ((loadV σ true 12 v3).bind fun x1 =>
  (storeV σ 12 v2 x1).bind fun s2 =>
  (loadV s2 true 12 v2).bind fun x3 => finVs p24.keepr [x3] s2) := (cutK_eq _ _ _ _).trans (by kernel_rfl)
theorem J24_3_eq (X : Ext) (v2 v3 v9 v44 v45 v46 : PV) (σ : Heap) : J24_3 X v2 v3 v9 v44 v45 v46 σ =
  ((faddrV 3 v3).bind fun x1 =>
  (loadV σ false 1 x1).bind fun x2 =>
  (loadV σ true 13 v9).bind fun x3 =>
  (evPrim [] σ (.bslice 13 [none, none, none, (some 1), (some 1), (some 6), none, none, none, (some 1), (some 1), (some 6), (some 6)] [(.int .i64 0), (.str []), (.bool false), .nils, .nils, .nils, (.int .i64 0), (.str []), (.bool false), .nils, .nils, .nils, .nils] 1 [(0, (.cst x3))])).bind fun q4 =>
  (appendP 59 13 232 q4.2 x2 q4.1).bind fun q5 =>
  (faddrV 3 v3).bind fun x6 =>
  (storeV q5.2 1 x6 q5.1).bind fun s7 =>
  (evBin .add .int v46 (.int .i64 1)).bind fun x8 =>
  L24_1 X v2 v3 v44 v45 x8 s7) := (cutK_eq _ _ _ _).trans (by kernel_rfl)
/-! replay.key -/
noncomputable def k25_1 (X : Ext) : Out → EnvF 28 → Heap → Option (List PV) := finK p25
noncomputable def k25_2 (X : Ext) : Out → EnvF 28 → Heap → Option (List PV) := seqK (fun E σ => evCK C (Hw C X) (.seq (.ops p25_8) .ret) E σ (k25_1 X)) (k25_1 X)
noncomputable def k25_3 (X : Ext) : Out → EnvF 28 → Heap → Option (List PV) := blockK 0 (k25_2 X)
noncomputable def L25_1 (X : Ext) (v3 v15 v16 v17 : PV) (σ : Heap) : Option (List PV) := loopK (Hw C X) cL25_1 (envOf 28 [(3, v3), (15, v15), (16, v16), (17, v17)]) σ (k25_3 X)
theorem F25 (X : Ext) (v0 : PV) : (Hw C X).pure 25 [v0] =
  ((boxV v0 ([] : Heap)).bind fun s1 =>
  (faddrV 0 (.ptr ([] : Heap).length 0)).bind fun x2 =>
  (faddrV 0 x2).bind fun x3 =>
  (loadV s1 false 1 x3).bind fun x4 =>
  (evBin .add .str x4 (.str [0])).bind fun x5 =>
  (faddrV 0 (.ptr ([] : Heap).length 0)).bind fun x6 =>
  (faddrV 1 x6).bind fun x7 =>
  (loadV s1 false 1 x7).bind fun x8 =>
  (evBin .add .str x5 x8).bind fun x9 =>
  (faddrV 12 (.ptr ([] : Heap).length 0)).bind fun x10 =>
  (loadV s1 false 1 x10).bind fun x11 =>
  (lenP s1 .slice x11).bind fun x12 =>
  L25_1 X x9 x11 (.int .i64 (x12 : Nat)) (.int .i64 0) s1) := (pure_of C25 (Nat.le_of_ble_eq_true rfl)).trans (by kernel_rfl)
theorem L25_1_eq (X : Ext) (v3 v15 v16 v17 : PV) (σ : Heap) : L25_1 X v3 v15 v16 v17 σ =
  ((evBin .lss .int v17 v16).bind fun x1 =>
  condK x1
    (fun _ => (iaddrV σ 1 v15 v17).bind fun x2 =>
    (loadV σ false 1 x2).bind fun x3 =>
    callK C (Hw C X) σ false (.fn 44 []) [x3] fun x4 s5 =>
    (evBin .add .str (.str [0]) x4).bind fun x6 =>
    (evBin .add .str v3 x6).bind fun x7 =>
    (evBin .add .int v17 (.int .i64 1)).bind fun x8 =>
    L25_1 X x7 v15 v16 x8 s5)
    (fun _ => finVs p25.keepr [v3] σ)) := (loopK_keep [3, 15, 16, 17] bL25_1 _ _ _).trans (by kernel_rfl)
/-! replay.bare -/
theorem F26 (X : Ext) (v0 v1 : PV) : (Hw C X).pure 26 [v0, v1] =
  ((boxV v0 ([] : Heap)).bind fun s1 =>
  (boxV v1 s1).bind fun s2 =>
  (faddrV 0 (.ptr ([] : Heap).length 0)).bind fun x3 =>
  (loadV s2 false 1 x3).bind fun x4 =>
  (faddrV 0 (.ptr s1.length 0)).bind fun x5 =>
  (loadV s2 false 1 x5).bind fun x6 =>
  (evBin .eql .str x4 x6).bind fun x7 =>
  (guardR x7 true 5 s2 fun _ =>
      (faddrV 1 (.ptr ([] : Heap).length 0)).bind fun x8 =>
      (loadV s2 false 1 x8).bind fun x9 =>
      (faddrV 1 (.ptr s1.length 0)).bind fun x10 =>
      (loadV s2 false 1 x10).bind fun x11 =>
      (evBin .eql .str x9 x11).bind fun x12 =>
      some ([x8, x9, x10, x11, x12], s2)).bind fun q13 =>
  (pickV x7 (nthV q13.1 4) (.bool false)).bind fun x14 =>
  (guardR x14 true 5 q13.2 fun _ =>
      (faddrV 2 (.ptr ([] : Heap).length 0)).bind fun x15 =>
      (loadV q13.2 false 1 x15).bind fun x16 =>
      (faddrV 2 (.ptr s1.length 0)).bind fun x17 =>
      (loadV q13.2 false 1 x17).bind fun x18 =>
      callK C (Hw C X) q13.2 false (.fn 45 []) [x16, x18] fun x19 s20 =>
      some ([x15, x16, x17, x18, x19], s20)).bind fun q21 =>
  (pickV x14 (nthV q21.1 4) (.bool false)).bind fun x22 =>
  (guardR x22 true 5 q21.2 fun _ =>
      (faddrV 3 (.ptr ([] : Heap).length 0)).bind fun x23 =>
      (loadV q21.2 false 1 x23).bind fun x24 =>
      (faddrV 3 (.ptr s1.length 0)).bind fun x25 =>
      (loadV q21.2 false 1 x25).bind fun x26 =>
      callK C (Hw C X) q21.2 false (.fn 46 []) [x24, x26] fun x27 s28 =>
      some ([x23, x24, x25, x26, x27], s28)).bind fun q29 =>
  (pickV x22 (nthV q29.1 4) (.bool false)).bind fun x30 =>
  (guardR x30 true 5 q29.2 fun _ =>
      (faddrV 4 (.ptr ([] : Heap).length 0)).bind fun x31 =>
      (loadV q29.2 false 1 x31).bind fun x32 =>
      (faddrV 4 (.ptr s1.length 0)).bind fun x33 =>
      (loadV q29.2 false 1 x33).bind fun x34 =>
      callK C (Hw C X) q29.2 false (.fn 27 []) [x32, x34] fun x35 s36 =>
      some ([x31, x32, x33, x34, x35], s36)).bind fun q37 =>
  (pickV x30 (nthV q37.1 4) (.bool false)).bind fun x38 =>
  (guardR x38 true 5 q37.2 fun _ =>
      (faddrV 5 (.ptr ([] : Heap).length 0)).bind fun x39 =>
      (loadV q37.2 false 1 x39).bind fun x40 =>
      (faddrV 5 (.ptr s1.length 0)).bind fun x41 =>
      (loadV q37.2 false 1 x41).bind fun x42 =>
      callK C (Hw C X) q37.2 false (.fn 47 []) [x40, x42] fun x43 s44 =>
      some ([x39, x40, x41, x42, x43], s44)).bind fun q45 =>
  (pickV x38 (nthV q45.1 4) (.bool false)).bind fun x46 =>
  (guardR x46 true 5 q45.2 fun _ =>
      (faddrV 6 (.ptr ([] : Heap).length 0)).bind fun x47 =>
      (loadV q45.2 true 5 x47).bind fun x48 =>
      (faddrV 6 (.ptr s1.length 0)).bind fun x49 =>
      (loadV q45.2 true 5 x49).bind fun x50 =>
      callK C (Hw C X) q45.2 false (.fn 48 []) [x48, x50] fun x51 s52 =>
      some ([x47, x48, x49, x50, x51], s52)).bind fun q53 =>
  (pickV x46 (nthV q53.1 4) (.bool false)).bind fun x54 =>
  finVs p26.keepr [x54] q53.2) := (pure_of C26 (Nat.le_of_ble_eq_true rfl)).trans (by kernel_rfl)
/-! replay.ints -/
noncomputable def k27_1 (X : Ext) : Out → EnvF 26 → Heap → Option (List PV) := finK p27
noncomputable def k27_2 (X : Ext) : Out → EnvF 26 → Heap → Option (List PV) := seqK (fun E σ => evCK C (Hw C X) (.seq (.ops p27_10) .ret) E σ (k27_1 X)) (k27_1 X)
noncomputable def k27_3 (X : Ext) : Out → EnvF 26 → Heap → Option (List PV) := blockK 0 (k27_2 X)
noncomputable def L27_1 (X : Ext) (v0 v1 v12 v13 : PV) (σ : Heap) : Option (List PV) := loopK (Hw C X) cL27_1 (envOf 26 [(0, v0), (1, v1), (12, v12), (13, v13)]) σ (k27_3 X)
theorem F27 (X : Ext) (v0 v1 : PV) : (Hw C X).pure 27 [v0, v1] =
  ((lenP ([] : Heap) .slice v0).bind fun x1 =>
  (lenP ([] : Heap) .slice v1).bind fun x2 =>
  (evBin .neq .int (.int .i64 (x1 : Nat)) (.int .i64 (x2 : Nat))).bind fun x3 =>
  condK x3
    (fun _ => finVs p27.keepr [(.bool false)] ([] : Heap))
    (fun _ => (lenP ([] : Heap) .slice v0).bind fun x4 =>
    L27_1 X v0 v1 (.int .i64 (x4 : Nat)) (.int .i64 0) ([] : Heap))) := (pure_of C27 (Nat.le_of_ble_eq_true rfl)).trans (by kernel_rfl)
theorem L27_1_eq (X : Ext) (v0 v1 v12 v13 : PV) (σ : Heap) : L27_1 X v0 v1 v12 v13 σ =
  ((evBin .lss .int v13 v12).bind fun x1 =>
  condK x1
    (fun _ => (iaddrV σ 1 v0 v13).bind fun x2 =>
    (loadV σ false 1 x2).bind fun x3 =>
    (iaddrV σ 1 v1 v13).bind fun x4 =>
    (loadV σ false 1 x4).bind fun x5 =>
    (evBin .neq .int x3 x5).bind fun x6 =>
    condK x6
      (fun _ => finVs p27.keepr [(.bool false)] σ)
      (fun _ => (evBin .add .int v13 (.int .i64 1)).bind fun x7 =>
      L27_1 X v0 v1 v12 x7 σ))
    (fun _ => finVs p27.keepr [(.bool true)] σ)) := (loopK_keep [0, 1, 12, 13] bL27_1 _ _ _).trans (by kernel_rfl)
/-! isochroneref20.Large -/
theorem F28 (X : Ext) (v0 : PV) : (Hw C X).pure 28 [v0] =
  ((boxV v0 ([] : Heap)).bind fun s1 =>
  (loadV s1 true 12 (.ptr ([] : Heap).length 0)).bind fun x2 =>
  callK C (Hw C X) s1 false (.fn 49 []) [x2] fun x3 s4 =>
  (evBin .gtr .int x3 (.int .i64 2000)).bind fun x5 =>
  (guardR x5 false 3 s4 fun _ =>
      (loadV s4 true 12 (.ptr ([] : Heap).length 0)).bind fun x6 =>
      callK C (Hw C X) s4 false (.fn 50 []) [x6] fun x7 s8 =>
      (evBin .gtr .int x7 (.int .i64 60)).bind fun x9 =>
      some ([x6, x7, x9], s8)).bind fun q10 =>
  (pickV x5 (.bool true) (nthV q10.1 2)).bind fun x11 =>
  finVs p28.keepr [x11] q10.2) := (pure_of C28 (Nat.le_of_ble_eq_true rfl)).trans (by kernel_rfl)
/-! isochroneref22.record -/
noncomputable def k29_1 (X : Ext) : Out → EnvF 64 → Heap → Option (List PV × Heap) := finI p29
noncomputable def k29_2 (X : Ext) : Out → EnvF 64 → Heap → Option (List PV × Heap) := seqK (fun E σ => evCK C (Hw C X) (.keep [0, 3, 6] cJ29_4) E σ (k29_1 X)) (k29_1 X)
noncomputable def k29_3 (X : Ext) : Out → EnvF 64 → Heap → Option (List PV × Heap) := blockK 0 (k29_2 X)
noncomputable def L29_3 (X : Ext) (v0 v3 v6 v7 : PV) (σ : Heap) : Option (List PV × Heap) := loopK (Hw C X) cL29_3 (envOf 64 [(0, v0), (3, v3), (6, v6), (7, v7)]) σ (k29_3 X)
noncomputable def J29_4 (X : Ext) (v0 v3 v6 : PV) (σ : Heap) : Option (List PV × Heap) := cutK C (Hw C X) cJ29_4 (envOf 64 [(0, v0), (3, v3), (6, v6)]) σ (k29_1 X)
noncomputable def k29_4 (X : Ext) : Out → EnvF 64 → Heap → Option (List PV × Heap) := seqK (fun E σ => evCK C (Hw C X) (.keep [0, 3, 6] cJ29_2) E σ (k29_1 X)) (k29_1 X)
noncomputable def k29_5 (X : Ext) : Out → EnvF 64 → Heap → Option (List PV × Heap) := blockK 2 (k29_4 X)
noncomputable def L29_1 (X : Ext) (v0 v3 v6 v9 : PV) (σ : Heap) : Option (List PV × Heap) := loopK (Hw C X) cL29_1 (envOf 64 [(0, v0), (3, v3), (6, v6), (9, v9)]) σ (k29_5 X)
noncomputable def J29_2 (X : Ext) (v0 v3 v6 : PV) (σ : Heap) : Option (List PV × Heap) := cutK C (Hw C X) cJ29_2 (envOf 64 [(0, v0), (3, v3), (6, v6)]) σ (k29_1 X)
theorem F29 (X : Ext) (v0 v1 : PV) (σ : Heap) : (Hw C X).imp 29 [v0, v1] σ =
  ((boxV v1 σ).bind fun s1 =>
  L29_3 X v0 (.ptr σ.length 0) .nils (.int .i64 0) s1) := (imp_of C29 (Nat.le_of_ble_eq_true rfl)).trans (by kernel_rfl)
theorem L29_3_eq (X : Ext) (v0 v3 v6 v7 : PV) (σ : Heap) : L29_3 X v0 v3 v6 v7 σ =
  ((faddrV 11 v3).bind fun x1 =>
  (loadV σ false 1 x1).bind fun x2 =>
  (lenP σ .slice x2).bind fun x3 =>
  (evBin .lss .int v7 (.int .i64 (x3 : Nat))).bind fun x4 =>
  condK x4
    (fun _ => (faddrV 11 v3).bind fun x5 =>
    (loadV σ false 1 x5).bind fun x6 =>
    (iaddrV σ 12 x6 v7).bind fun x7 =>
    (loadV σ true 12 x7).bind fun x8 =>
    callK C (Hw C X) σ false (.fn 29 []) [v0, x8] fun x9 s10 =>
    (extV x9 0).bind fun x11 =>
    (extV x9 1).bind fun x12 =>
    (evPrim [] s10 (.bslice 1 [none] [(.int .i64 0)] 1 [(0, (.cst x12))])).bind fun q13 =>
    (appendP 3 1 8 q13.2 v6 q13.1).bind fun q14 =>
    (evBin .add .int v7 (.int .i64 1)).bind fun x15 =>
    L29_3 X x11 v3 q14.1 x15 q14.2)
    (fun _ => J29_4 X v0 v3 v6 σ)) := (loopK_keep [0, 3, 6, 7] bL29_3 _ _ _).trans (by kernel_rfl)
theorem J29_4_eq (X : Ext) (v0 v3 v6 : PV) (σ : Heap) : J29_4 X v0 v3 v6 σ =
  ((faddrV 11 v3).bind fun x1 =>
  (storeV σ 1 x1 .nils).bind fun s2 =>
  L29_1 X v0 v3 v6 (.int .i64 0) s2) := (cutK_eq _ _ _ _).trans (by kernel_rfl)
theorem L29_1_eq (X : Ext) (v0 v3 v6 v9 : PV) (σ : Heap) : L29_1 X v0 v3 v6 v9 σ =
  ((lenP σ .slice v0).bind fun x1 =>
  (evBin .lss .int v9 (.int .i64 (x1 : Nat))).bind fun x2 =>
  condK x2
    (fun _ => (iaddrV σ 13 v0 v9).bind fun x3 =>
    (faddrV 0 x3).bind fun x4 =>
    (loadV σ true 12 x4).bind fun x5 =>
    (loadV σ true 12 v3).bind fun x6 =>
    callK C (Hw C X) σ false (.fn 35 []) [x5, x6] fun x7 s8 =>
    (guardR x7 true 7 s8 fun _ =>
        (iaddrV s8 13 v0 v9).bind fun x9 =>
        (faddrV 12 x9).bind fun x10 =>
        (loadV s8 false 1 x10).bind fun x11 =>
        callK C (Hw C X) s8 false (.fn 30 []) [x11, v6] fun x12 s13 =>
        some ([v0, v9, x9, x10, x11, v6, x12], s13)).bind fun q14 =>
    (pickV x7 (nthV q14.1 6) (.bool false)).bind fun x15 =>
    condK x15
      (fun _ => some (keepArgs q14.2 p29.keepr [v0, v9], q14.2))
      (fun _ => (evBin .add .int v9 (.int .i64 1)).bind fun x16 =>
      L29_1 X v0 v3 v6 x16 q14.2))
    (fun _ => J29_2 X v0 v3 v6 σ)) := (loopK_keep [0, 3, 6, 9] bL29_1 _ _ _).trans (by kernel_rfl)
theorem J29_2_eq (X : Ext) (v0 v3 v6 : PV) (σ : Heap) : J29_2 X v0 v3 v6 σ =
  ((loadV σ true 12 v3).bind fun x1 =>
  (evPrim [] σ (.build [(.str []), (.str []), .nils, .nils, .nils, .nils, (.int .i64 0), .nils, .nils, .nils, .nils, .nils, .nils] [(0, 12, (.cst x1)), (12, 1, (.cst v6))])).bind fun q2 =>
  (evPrim [] q2.2 (.bslice 13 [none, none, (some 6), (some 13), (some 1), (some 1), none, (some 3), (some 2), (some 5), (some 5), (some 12), (some 1)] [(.str []), (.str []), .nils, .nils, .nils, .nils, (.int .i64 0), .nils, .nils, .nils, .nils, .nils, .nils] 1 [(0, (.cst q2.1))])).bind fun q3 =>
  (appendP 61 13 280 q3.2 v0 q3.1).bind fun q4 =>
  (lenP q4.2 .slice v0).bind fun x5 =>
  some (keepArgs q4.2 p29.keepr [q4.1, (.int .i64 (x5 : Nat))], q4.2)) := (cutK_eq _ _ _ _).trans (by kernel_rfl)
/-! isochroneref22.sameInts -/
noncomputable def k30_1 (X : Ext) : Out → EnvF 26 → Heap → Option (List PV) := finK p30
noncomputable def k30_2 (X : Ext) : Out → EnvF 26 → Heap → Option (List PV) := seqK (fun E σ => evCK C (Hw C X) (.seq (.ops p30_9) .ret) E σ (k30_1 X)) (k30_1 X)
noncomputable def k30_3 (X : Ext) : Out → EnvF 26 → Heap → Option (List PV) := blockK 0 (k30_2 X)
noncomputable def L30_1 (X : Ext) (v0 v1 v5 : PV) (σ : Heap) : Option (List PV) := loopK (Hw C X) cL30_1 (envOf 26 [(0, v0), (1, v1), (5, v5)]) σ (k30_3 X)
theorem F30 (X : Ext) (v0 v1 : PV) : (Hw C X).pure 30 [v0, v1] =
  ((lenP ([] : Heap) .slice v0).bind fun x1 =>
  (lenP ([] : Heap) .slice v1).bind fun x2 =>
  (evBin .neq .int (.int .i64 (x1 : Nat)) (.int .i64 (x2 : Nat))).bind fun x3 =>
  condK x3
    (fun _ => finVs p30.keepr [(.bool false)] ([] : Heap))
    (fun _ => L30_1 X v0 v1 (.int .i64 0) ([] : Heap))) := (pure_of C30 (Nat.le_of_ble_eq_true rfl)).trans (by kernel_rfl)
theorem L30_1_eq (X : Ext) (v0 v1 v5 : PV) (σ : Heap) : L30_1 X v0 v1 v5 σ =
  ((lenP σ .slice v0).bind fun x1 =>
  (evBin .lss .int v5 (.int .i64 (x1 : Nat))).bind fun x2 =>
  condK x2
    (fun _ => (iaddrV σ 1 v0 v5).bind fun x3 =>
    (loadV σ false 1 x3).bind fun x4 =>
    (iaddrV σ 1 v1 v5).bind fun x5 =>
    (loadV σ false 1 x5).bind fun x6 =>
    (evBin .neq .int x4 x6).bind fun x7 =>
    condK x7
      (fun _ => finVs p30.keepr [(.bool false)] σ)
      (fun _ => (evBin .add .int v5 (.int .i64 1)).bind fun x8 =>
      L30_1 X v0 v1 x8 σ))
    (fun _ => finVs p30.keepr [(.bool true)] σ)) := (loopK_keep [0, 1, 5] bL30_1 _ _ _).trans (by kernel_rfl)
/-! replay.check -/
noncomputable def k31_1 (X : Ext) : Out → EnvF 41 → Heap → Option (List PV) := finK p31
noncomputable def k31_2 (X : Ext) : Out → EnvF 41 → Heap → Option (List PV) := seqK (fun E σ => evCK C (Hw C X) (.seq (.ops p31_19) .ret) E σ (k31_1 X)) (k31_1 X)
noncomputable def k31_3 (X : Ext) : Out → EnvF 41 → Heap → Option (List PV) := blockK 0 (k31_2 X)
noncomputable def L31_1 (X : Ext) (v13 v14 v15 : PV) (σ : Heap) : Option (List PV) := loopK (Hw C X) cL31_1 (envOf 41 [(13, v13), (14, v14), (15, v15)]) σ (k31_3 X)
noncomputable def k31_4 (X : Ext) : Out → EnvF 41 → Heap → Option (List PV) := roundK C X cL31_1 (k31_3 X)
noncomputable def k31_5 (X : Ext) : Out → EnvF 41 → Heap → Option (List PV) := seqK (fun E σ => evCK C (Hw C X) (.ops p31_17) E σ (k31_4 X)) (k31_4 X)
noncomputable def k31_6 (X : Ext) : Out → EnvF 41 → Heap → Option (List PV) := blockK 1 (k31_5 X)
noncomputable def k31_7 (X : Ext) : Out → EnvF 41 → Heap → Option (List PV) := blockK 2 (k31_6 X)
noncomputable def L31_2 (X : Ext) (v3 v13 v14 v15 v26 v27 v28 : PV) (σ : Heap) : Option (List PV) := loopK (Hw C X) cL31_2 (envOf 41 [(3, v3), (13, v13), (14, v14), (15, v15), (26, v26), (27, v27), (28, v28)]) σ (k31_7 X)
theorem F31 (X : Ext) (v0 : PV) : (Hw C X).pure 31 [v0] =
  ((lenP ([] : Heap) .slice v0).bind fun x1 =>
  (evBin .gtr .int (.int .i64 (x1 : Nat)) (.int .i64 2000)).bind fun x2 =>
  condK x2
    (fun _ => finVs p31.keepr [(.int .i64 2)] ([] : Heap))
    (fun _ => (lenP ([] : Heap) .slice v0).bind fun x3 =>
    (evBin .eql .int (.int .i64 (x3 : Nat)) (.int .i64 0)).bind fun x4 =>
    condK x4
      (fun _ => finVs p31.keepr [(.int .i64 3)] ([] : Heap))
      (fun _ => (lenP ([] : Heap) .slice v0).bind fun x5 =>
      L31_1 X v0 (.int .i64 (x5 : Nat)) (.int .i64 0) ([] : Heap)))) := (pure_of C31 (Nat.le_of_ble_eq_true rfl)).trans (by kernel_rfl)
theorem L31_1_eq (X : Ext) (v13 v14 v15 : PV) (σ : Heap) : L31_1 X v13 v14 v15 σ =
  ((evBin .lss .int v15 v14).bind fun x1 =>
  condK x1
    (fun _ => (iaddrV σ 13 v13 v15).bind fun x2 =>
    (loadV σ true 13 x2).bind fun x3 =>
    (storeV (σ ++ [Go.PE.Obj.box [(.str []), (.str []), .nils, .nils, .nils, .nils, (.int .i64 0), .nils, .nils, .nils, .nils, .nils, .nils]]) 13 (.ptr σ.length 0) x3).bind fun s4 =>
    (faddrV 0 (.ptr σ.length 0)).bind fun x5 =>
    (faddrV 11 x5).bind fun x6 =>
    (loadV s4 false 1 x6).bind fun x7 =>
    (lenP s4 .slice x7).bind fun x8 =>
    (evBin .gtr .int (.int .i64 (x8 : Nat)) (.int .i64 0)).bind fun x9 =>
    condK x9
      (fun _ => finVs p31.keepr [(.int .i64 3)] s4)
      (fun _ => (faddrV 12 (.ptr σ.length 0)).bind fun x10 =>
      (loadV s4 false 1 x10).bind fun x11 =>
      (lenP s4 .slice x11).bind fun x12 =>
      L31_2 X v15 v13 v14 v15 x11 (.int .i64 (x12 : Nat)) (.int .i64 0) s4))
    (fun _ => finVs p31.keepr [(.int .i64 0)] σ)) := (loopK_keep [13, 14, 15] bL31_1 _ _ _).trans (by kernel_rfl)
theorem L31_2_eq (X : Ext) (v3 v13 v14 v15 v26 v27 v28 : PV) (σ : Heap) : L31_2 X v3 v13 v14 v15 v26 v27 v28 σ =
  ((evBin .lss .int v28 v27).bind fun x1 =>
  condK x1
    (fun _ => (iaddrV σ 1 v26 v28).bind fun x2 =>
    (loadV σ false 1 x2).bind fun x3 =>
    (evBin .lss .int x3 (.int .i64 0)).bind fun x4 =>
    (guardR x4 false 3 σ fun _ =>
        (evBin .geq .int x3 v3).bind fun x5 =>
        some ([x3, v3, x5], σ)).bind fun q6 =>
    (pickV x4 (.bool true) (nthV q6.1 2)).bind fun x7 =>
    condK x7
      (fun _ => finVs p31.keepr [(.int .i64 3)] q6.2)
      (fun _ => (evBin .add .int v28 (.int .i64 1)).bind fun x8 =>
      L31_2 X v3 v13 v14 v15 v26 v27 x8 q6.2))
    (fun _ => (evBin .add .int v15 (.int .i64 1)).bind fun x9 =>
    L31_1 X v13 v14 x9 σ)) := (loopK_keep [3, 13, 14, 15, 26, 27, 28] bL31_2 _ _ _).trans (by kernel_rfl)
/-! replay.Build$1 -/
noncomputable def k32_1 (X : Ext) : Out → EnvF 36 → Heap → Option (List PV × Heap) := finI p32
noncomputable def k32_2 (X : Ext) : Out → EnvF 36 → Heap → Option (List PV × Heap) := seqK (fun E σ => evCK C (Hw C X) (.keep [4, 5] cJ32_2) E σ (k32_1 X)) (k32_1 X)
noncomputable def k32_3 (X : Ext) : Out → EnvF 36 → Heap → Option (List PV × Heap) := blockK 0 (k32_2 X)
noncomputable def L32_1 (X : Ext) (v2 v4 v5 v19 v20 v21 : PV) (σ : Heap) : Option (List PV × Heap) := loopK (Hw C X) cL32_1 (envOf 36 [(2, v2), (4, v4), (5, v5), (19, v19), (20, v20), (21, v21)]) σ (k32_3 X)
noncomputable def J32_2 (X : Ext) (v4 v5 : PV) (σ : Heap) : Option (List PV × Heap) := cutK C (Hw C X) cJ32_2 (envOf 36 [(4, v4), (5, v5)]) σ (k32_1 X)
theorem F32 (X : Ext) (v0 v1 v2 : PV) (σ : Heap) : (Hw C X).imp 32 [v0, v1, v2] σ =
  ((loadV (σ ++ [Go.PE.Obj.box [(.str []), (.str []), .nils, .nils, .nils, .nils, (.int .i64 0), .nils, .nils, .nils, .nils, .nils]]) false 1 v1).bind fun x1 =>
  (iaddrV (σ ++ [Go.PE.Obj.box [(.str []), (.str []), .nils, .nils, .nils, .nils, (.int .i64 0), .nils, .nils, .nils, .nils, .nils]]) 13 x1 v0).bind fun x2 =>
  (faddrV 0 x2).bind fun x3 =>
  (loadV (σ ++ [Go.PE.Obj.box [(.str []), (.str []), .nils, .nils, .nils, .nils, (.int .i64 0), .nils, .nils, .nils, .nils, .nils]]) true 12 x3).bind fun x4 =>
  callK C (Hw C X) (σ ++ [Go.PE.Obj.box [(.str []), (.str []), .nils, .nils, .nils, .nils, (.int .i64 0), .nils, .nils, .nils, .nils, .nils]]) false (.fn 24 []) [x4] fun x5 s6 =>
  (storeV (s6 ++ [Go.PE.Obj.box [(.str []), (.str []), .nils, .nils, .nils, .nils, (.int .i64 0), .nils, .nils, .nils, .nils, .nils]]) 12 (.ptr s6.length 0) x5).bind fun s7 =>
  (loadV s7 false 1 v1).bind fun x8 =>
  (iaddrV s7 13 x8 v0).bind fun x9 =>
  (faddrV 12 x9).bind fun x10 =>
  (loadV s7 false 1 x10).bind fun x11 =>
  (lenP s7 .slice x11).bind fun x12 =>
  L32_1 X v2 (.ptr σ.length 0) (.ptr s6.length 0) x11 (.int .i64 (x12 : Nat)) (.int .i64 0) s7) := (imp_of C32 (Nat.le_of_ble_eq_true rfl)).trans (by kernel_rfl)
theorem L32_1_eq (X : Ext) (v2 v4 v5 v19 v20 v21 : PV) (σ : Heap) : L32_1 X v2 v4 v5 v19 v20 v21 σ =
  ((evBin .lss .int v21 v20).bind fun x1 =>
  condK x1
    (fun _ => (iaddrV σ 1 v19 v21).bind fun x2 =>
    (loadV σ false 1 x2).bind fun x3 =>
    (loadV σ false 1 v2).bind fun x4 =>
    callK C (Hw C X) σ false x4 [x3] fun x5 s6 =>
    (storeV (s6 ++ [Go.PE.Obj.box [(.str []), (.str []), .nils, .nils, .nils, .nils, (.int .i64 0), .nils, .nils, .nils, .nils, .nils]]) 12 (.ptr s6.length 0) x5).bind fun s7 =>
    (faddrV 11 v5).bind fun x8 =>
    (loadV s7 false 1 x8).bind fun x9 =>
    (loadV s7 true 12 (.ptr s6.length 0)).bind fun x10 =>
    (evPrim [] s7 (.bslice 12 [none, none, (some 6), (some 13), (some 1), (some 1), none, (some 3), (some 2), (some 5), (some 5), (some 12)] [(.str []), (.str []), .nils, .nils, .nils, .nils, (.int .i64 0), .nils, .nils, .nils, .nils, .nils] 1 [(0, (.cst x10))])).bind fun q11 =>
    (appendP 34 12 256 q11.2 x9 q11.1).bind fun q12 =>
    (faddrV 11 v5).bind fun x13 =>
    (storeV q12.2 1 x13 q12.1).bind fun s14 =>
    (evBin .add .int v21 (.int .i64 1)).bind fun x15 =>
    L32_1 X v2 v4 v5 v19 v20 x15 s14)
    (fun _ => J32_2 X v4 v5 σ)) := (loopK_keep [2, 4, 5, 19, 20, 21] bL32_1 _ _ _).trans (by kernel_rfl)
theorem J32_2_eq (X : Ext) (v4 v5 : PV) (σ : Heap) : J32_2 X v4 v5 σ =
  ((loadV σ true 12 v5).bind fun x1 =>
  (storeV σ 12 v4 x1).bind fun s2 =>
  (loadV s2 true 12 v4).bind fun x3 => some (keepArgs s2 p32.keepr [x3], s2)) := (cutK_eq _ _ _ _).trans (by kernel_rfl)
end Go.Proofs.YtkpbfldnickghaaDoor
