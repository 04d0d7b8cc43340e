/- The program's functions as the evaluator has them, printed by a program of this session; each held against the translation by the kernel. -/
import Derived.Test.YtkpbfldnickghaaDoorProg
import Derived.Test.YtkpbfldnickghaaDoorPEl
import Derived.KernelRfl
set_option maxRecDepth 100000
namespace Go.Proofs.YtkpbfldnickghaaDoor
open Go Go.PE
/-! proof.within -/
def p41_0 : List PO := [⟨(some 3), none, (.box (.tmp 0))⟩, ⟨(some 6), none, (.mov (.cst (.bool false)))⟩]
def p41_1 : List PO := [⟨(some 9), none, (.mov (.tmp 1))⟩, ⟨(some 10), none, (.nilchk (.tmp 9))⟩, ⟨(some 11), none, (.load false 1 (.tmp 10))⟩, ⟨(some 12), none, (.bin .sub .int (.tmp 11) (.cst (.int .i64 1)))⟩, ⟨(some 13), none, (.nilchk (.tmp 9))⟩, ⟨none, none, (.store 1 (.tmp 13) (.tmp 12))⟩]
def p41_2 : List PO := [⟨(some 14), none, (.mov (.tmp 1))⟩, ⟨(some 15), none, (.nilchk (.tmp 14))⟩, ⟨(some 16), none, (.load false 1 (.tmp 15))⟩, ⟨(some 17), none, (.bin .lss .int (.tmp 16) (.cst (.int .i64 0)))⟩, ⟨(some 18), none, (.mov (.tmp 17))⟩, ⟨(some 19), (some (18, false)), (.mov (.tmp 2))⟩, ⟨(some 20), (some (18, false)), (.bin .leq .int (.tmp 19) (.cst (.int .i64 0)))⟩, ⟨(some 21), none, (.pick (.tmp 18) (.cst (.bool true)) (.tmp 20))⟩]
def p41_3 : List PO := [⟨(some 6), none, (.mov (.cst (.bool false)))⟩]
def p41_4 : List PO := [⟨(some 22), none, (.faddr 11 (.tmp 3))⟩, ⟨(some 23), none, (.load false 1 (.tmp 22))⟩, ⟨(some 24), none, (.len .slice (.tmp 23))⟩, ⟨(some 25), none, (.mov (.cst (.int .i64 0)))⟩]
def p41_5 : List PO := [⟨(some 26), none, (.bin .lss .int (.tmp 25) (.tmp 24))⟩]
def p41_6 : List PO := [⟨(some 27), none, (.iaddr 12 (.tmp 23) (.tmp 25))⟩, ⟨(some 28), none, (.load true 12 (.tmp 27))⟩, ⟨(some 8), none, (.new [(.str []), (.str []), .nils, .nils, .nils, .nils, (.int .i64 0), .nils, .nils, .nils, .nils, .nils])⟩, ⟨none, none, (.store 12 (.tmp 8) (.tmp 28))⟩]
def p41_7 : List PO := [⟨(some 29), none, (.load true 12 (.tmp 8))⟩, ⟨(some 30), none, (.mov (.tmp 1))⟩, ⟨(some 31), none, (.mov (.tmp 2))⟩, ⟨(some 32), none, (.bin .sub .int (.tmp 31) (.cst (.int .i64 1)))⟩, ⟨(some 33), none, (.call false (.fn 41) [(.tmp 29), (.tmp 30), (.tmp 32)])⟩, ⟨(some 34), none, (.un .not (.tmp 33))⟩]
def p41_8 : List PO := [⟨(some 6), none, (.mov (.cst (.bool false)))⟩]
def p41_9 : List PO := [⟨(some 35), none, (.bin .add .int (.tmp 25) (.cst (.int .i64 1)))⟩, ⟨(some 25), none, (.mov (.tmp 35))⟩]
def p41_11 : List PO := [⟨(some 6), none, (.mov (.cst (.bool true)))⟩]
def bL41_1 : PC := (.seq (.ops p41_5) (.seq (.cond (.tmp 26) .skip (.exit 0)) (.seq (.block 1 (.seq (.ops p41_6) (.seq (.ops p41_7) (.cond (.tmp 34) (.seq (.ops p41_8) .ret) .skip)))) (.ops p41_9))))
def cL41_1 : PC := (.keep [1, 2, 23, 24, 25] bL41_1)
def p41 : PFunc := { ntmps := 36, results := [(.tmp 6)], body := (.seq (.ops p41_0) (.seq (.ops p41_1) (.seq (.seq (.ops p41_2) (.cond (.tmp 21) (.seq (.ops p41_3) .ret) .skip)) (.seq (.seq (.ops p41_4) (.block 0 (.loop cL41_1))) (.seq (.ops p41_11) .ret))))), keep := [(false, [none, none, (some 6), (some 13), (some 1), (some 1), none, (some 3), (some 2), (some 5), (some 5), (some 12)]), (false, [none]), (false, [none])], keepr := [(false, [none])] }
theorem c41 : compF Tryd.prog Tryd.f41 [] [] = some { p41 with body := p41.body.erase, keep := [(false, [none, none, (some 6), (some 13), (some 1), (some 1), none, (some 3), (some 2), (some 5), (some 5), (some 12)]), (false, [none]), (false, [none])], keepr := [(false, [none])] } := by kernel_rfl
theorem fok41 : FuncOK Tryd.prog 41 p41 := ⟨Tryd.f41, [], [], _, _, Tryd.func41, by kernel_rfl, c41⟩
/-! proof.cert -/
def p42_0 : List PO := [⟨(some 1), none, (.box (.tmp 0))⟩, ⟨(some 2), none, (.new [(.int .i64 0), .nils, .nils, .nils, .nils])⟩]
def p42_1 : List PO := [⟨(some 13), none, (.faddr 0 (.tmp 1))⟩, ⟨(some 14), none, (.load false 1 (.tmp 13))⟩, ⟨(some 15), none, (.build [(.int .i64 0), .nils, .nils, .nils, .nils] [(0, (1, (.tmp 14)))])⟩, ⟨(some 3), none, (.new [(.int .i64 0), .nils, .nils, .nils, .nils])⟩, ⟨none, none, (.store 5 (.tmp 3) (.tmp 15))⟩]
def p42_2 : List PO := [⟨(some 16), none, (.faddr 1 (.tmp 1))⟩, ⟨(some 17), none, (.load false 1 (.tmp 16))⟩, ⟨(some 18), none, (.len .slice (.tmp 17))⟩, ⟨(some 19), none, (.mov (.cst (.int .i64 0)))⟩]
def p42_3 : List PO := [⟨(some 20), none, (.bin .lss .int (.tmp 19) (.tmp 18))⟩]
def p42_4 : List PO := [⟨(some 21), none, (.iaddr 3 (.tmp 17) (.tmp 19))⟩, ⟨(some 22), none, (.load true 3 (.tmp 21))⟩, ⟨(some 5), none, (.new [(.bool false), .nils, .nils])⟩, ⟨none, none, (.store 3 (.tmp 5) (.tmp 22))⟩]
def p42_5 : List PO := [⟨(some 23), none, (.faddr 1 (.tmp 3))⟩, ⟨(some 24), none, (.load false 1 (.tmp 23))⟩, ⟨(some 25), none, (.load true 3 (.tmp 5))⟩, ⟨(some 26), none, (.call true (.fn 58) [(.tmp 25)])⟩, ⟨(some 27), none, (.bslice 3 [none, (some 1), (some 1)] [(.bool false), .nils, .nils] 1 [(0, (.tmp 26))])⟩, ⟨(some 28), none, (.append 55 3 56 (.tmp 24) (.tmp 27))⟩, ⟨(some 29), none, (.faddr 1 (.tmp 3))⟩, ⟨none, none, (.store 1 (.tmp 29) (.tmp 28))⟩]
def p42_6 : List PO := [⟨(some 30), none, (.bin .add .int (.tmp 19) (.cst (.int .i64 1)))⟩, ⟨(some 19), none, (.mov (.tmp 30))⟩]
def p42_8 : List PO := [⟨(some 31), none, (.faddr 2 (.tmp 1))⟩, ⟨(some 32), none, (.load false 1 (.tmp 31))⟩, ⟨(some 33), none, (.len .slice (.tmp 32))⟩, ⟨(some 34), none, (.mov (.cst (.int .i64 0)))⟩]
def p42_9 : List PO := [⟨(some 35), none, (.bin .lss .int (.tmp 34) (.tmp 33))⟩]
def p42_10 : List PO := [⟨(some 36), none, (.iaddr 2 (.tmp 32) (.tmp 34))⟩, ⟨(some 37), none, (.load true 2 (.tmp 36))⟩, ⟨(some 7), none, (.new [(.int .i64 0), .nils])⟩, ⟨none, none, (.store 2 (.tmp 7) (.tmp 37))⟩]
def p42_11 : List PO := [⟨(some 38), none, (.faddr 2 (.tmp 3))⟩, ⟨(some 39), none, (.load false 1 (.tmp 38))⟩, ⟨(some 40), none, (.load true 2 (.tmp 7))⟩, ⟨(some 41), none, (.call true (.fn 59) [(.tmp 40)])⟩, ⟨(some 42), none, (.bslice 2 [none, (some 4)] [(.int .i64 0), .nils] 1 [(0, (.tmp 41))])⟩, ⟨(some 43), none, (.append 78 2 32 (.tmp 39) (.tmp 42))⟩, ⟨(some 44), none, (.faddr 2 (.tmp 3))⟩, ⟨none, none, (.store 1 (.tmp 44) (.tmp 43))⟩]
def p42_12 : List PO := [⟨(some 45), none, (.bin .add .int (.tmp 34) (.cst (.int .i64 1)))⟩, ⟨(some 34), none, (.mov (.tmp 45))⟩]
def p42_14 : List PO := [⟨(some 46), none, (.faddr 3 (.tmp 1))⟩, ⟨(some 47), none, (.load false 1 (.tmp 46))⟩, ⟨(some 48), none, (.len .slice (.tmp 47))⟩, ⟨(some 49), none, (.mov (.cst (.int .i64 0)))⟩]
def p42_15 : List PO := [⟨(some 50), none, (.bin .lss .int (.tmp 49) (.tmp 48))⟩]
def p42_16 : List PO := [⟨(some 51), none, (.iaddr 5 (.tmp 47) (.tmp 49))⟩, ⟨(some 52), none, (.load true 5 (.tmp 51))⟩, ⟨(some 9), none, (.new [(.bool false), .nils, .nils, (.int .i64 0), .nils])⟩, ⟨none, none, (.store 5 (.tmp 9) (.tmp 52))⟩]
def p42_17 : List PO := [⟨(some 53), none, (.faddr 3 (.tmp 3))⟩, ⟨(some 54), none, (.load false 1 (.tmp 53))⟩, ⟨(some 55), none, (.faddr 0 (.tmp 9))⟩, ⟨(some 56), none, (.load true 3 (.tmp 55))⟩, ⟨(some 57), none, (.call true (.fn 58) [(.tmp 56)])⟩, ⟨(some 58), none, (.faddr 3 (.tmp 9))⟩, ⟨(some 59), none, (.load true 2 (.tmp 58))⟩, ⟨(some 60), none, (.call true (.fn 59) [(.tmp 59)])⟩, ⟨(some 61), none, (.build [(.bool false), .nils, .nils, (.int .i64 0), .nils] [(0, (3, (.tmp 57))), (3, (2, (.tmp 60)))])⟩, ⟨(some 62), none, (.bslice 5 [none, (some 1), (some 1), none, (some 4)] [(.bool false), .nils, .nils, (.int .i64 0), .nils] 1 [(0, (.tmp 61))])⟩, ⟨(some 63), none, (.append 80 5 88 (.tmp 54) (.tmp 62))⟩, ⟨(some 64), none, (.faddr 3 (.tmp 3))⟩, ⟨none, none, (.store 1 (.tmp 64) (.tmp 63))⟩]
def p42_18 : List PO := [⟨(some 65), none, (.bin .add .int (.tmp 49) (.cst (.int .i64 1)))⟩, ⟨(some 49), none, (.mov (.tmp 65))⟩]
def p42_20 : List PO := [⟨(some 66), none, (.faddr 4 (.tmp 1))⟩, ⟨(some 67), none, (.load false 1 (.tmp 66))⟩, ⟨(some 68), none, (.len .slice (.tmp 67))⟩, ⟨(some 69), none, (.mov (.cst (.int .i64 0)))⟩]
def p42_21 : List PO := [⟨(some 70), none, (.bin .lss .int (.tmp 69) (.tmp 68))⟩]
def p42_22 : List PO := [⟨(some 71), none, (.iaddr 5 (.tmp 67) (.tmp 69))⟩, ⟨(some 72), none, (.load true 5 (.tmp 71))⟩, ⟨(some 11), none, (.new [(.int .i64 0), .nils, .nils, .nils, .nils])⟩, ⟨none, none, (.store 5 (.tmp 11) (.tmp 72))⟩]
def p42_23 : List PO := [⟨(some 73), none, (.load true 5 (.tmp 11))⟩, ⟨(some 74), none, (.call false (.fn 42) [(.tmp 73)])⟩, ⟨(some 12), none, (.new [(.int .i64 0), .nils, .nils, .nils, .nils])⟩, ⟨none, none, (.store 5 (.tmp 12) (.tmp 74))⟩]
def p42_24 : List PO := [⟨(some 75), none, (.faddr 4 (.tmp 3))⟩, ⟨(some 76), none, (.load false 1 (.tmp 75))⟩, ⟨(some 77), none, (.load true 5 (.tmp 12))⟩, ⟨(some 78), none, (.bslice 5 [none, (some 3), (some 2), (some 5), (some 5)] [(.int .i64 0), .nils, .nils, .nils, .nils] 1 [(0, (.tmp 77))])⟩, ⟨(some 79), none, (.append 31 5 104 (.tmp 76) (.tmp 78))⟩, ⟨(some 80), none, (.faddr 4 (.tmp 3))⟩, ⟨none, none, (.store 1 (.tmp 80) (.tmp 79))⟩]
def p42_25 : List PO := [⟨(some 81), none, (.bin .add .int (.tmp 69) (.cst (.int .i64 1)))⟩, ⟨(some 69), none, (.mov (.tmp 81))⟩]
def p42_27 : List PO := [⟨(some 82), none, (.load true 5 (.tmp 3))⟩, ⟨none, none, (.store 5 (.tmp 2) (.tmp 82))⟩]
def bL42_7 : PC := (.seq (.ops p42_3) (.seq (.cond (.tmp 20) .skip (.exit 0)) (.seq (.block 1 (.seq (.ops p42_4) (.ops p42_5))) (.ops p42_6))))
def cL42_7 : PC := (.keep [1, 2, 3, 17, 18, 19] bL42_7)
def bL42_5 : PC := (.seq (.ops p42_9) (.seq (.cond (.tmp 35) .skip (.exit 2)) (.seq (.block 3 (.seq (.ops p42_10) (.ops p42_11))) (.ops p42_12))))
def cL42_5 : PC := (.keep [1, 2, 3, 32, 33, 34] bL42_5)
def bL42_3 : PC := (.seq (.ops p42_15) (.seq (.cond (.tmp 50) .skip (.exit 4)) (.seq (.block 5 (.seq (.ops p42_16) (.ops p42_17))) (.ops p42_18))))
def cL42_3 : PC := (.keep [1, 2, 3, 47, 48, 49] bL42_3)
def bL42_1 : PC := (.seq (.ops p42_21) (.seq (.cond (.tmp 70) .skip (.exit 6)) (.seq (.block 7 (.seq (.ops p42_22) (.seq (.ops p42_23) (.ops p42_24)))) (.ops p42_25))))
def cL42_1 : PC := (.keep [2, 3, 67, 68, 69] bL42_1)
def cJ42_2 : PC := (.seq (.ops p42_27) .ret)
def cJ42_4 : PC := (.seq (.seq (.ops p42_20) (.block 6 (.loop cL42_1))) (.keep [2, 3] cJ42_2))
def cJ42_6 : PC := (.seq (.seq (.ops p42_14) (.block 4 (.loop cL42_3))) (.keep [1, 2, 3] cJ42_4))
def cJ42_8 : PC := (.seq (.seq (.ops p42_8) (.block 2 (.loop cL42_5))) (.keep [1, 2, 3] cJ42_6))
def p42 : PFunc := { ntmps := 83, results := [(.cell 2 true 5)], body := (.seq (.ops p42_0) (.seq (.ops p42_1) (.seq (.seq (.ops p42_2) (.block 0 (.loop cL42_7))) (.keep [1, 2, 3] cJ42_8)))), keep := [(false, [none, (some 3), (some 2), (some 5), (some 5)])], keepr := [(false, [none, (some 3), (some 2), (some 5), (some 5)])] }
theorem c42 : compF Tryd.prog Tryd.f42 [] [] = some { p42 with body := p42.body.erase, keep := [(false, [none, (some 3), (some 2), (some 5), (some 5)])], keepr := [(false, [none, (some 3), (some 2), (some 5), (some 5)])] } := by kernel_rfl
theorem fok42 : FuncOK Tryd.prog 42 p42 := ⟨Tryd.f42, [], [], _, _, Tryd.func42, by kernel_rfl, c42⟩
/-! tree.Copy -/
def p43_0 : List PO := [⟨(some 1), none, (.box (.tmp 0))⟩, ⟨(some 2), none, (.new [(.int .i64 0), (.str []), (.bool false), .nils, .nils, .nils])⟩]
def p43_1 : List PO := [⟨(some 7), none, (.faddr 0 (.tmp 1))⟩, ⟨(some 8), none, (.load false 1 (.tmp 7))⟩, ⟨(some 9), none, (.faddr 1 (.tmp 1))⟩, ⟨(some 10), none, (.load false 1 (.tmp 9))⟩, ⟨(some 11), none, (.faddr 2 (.tmp 1))⟩, ⟨(some 12), none, (.faddr 0 (.tmp 11))⟩, ⟨(some 13), none, (.load false 1 (.tmp 12))⟩, ⟨(some 14), none, (.build [(.bool false), .nils, .nils] [(0, (1, (.tmp 13)))])⟩, ⟨(some 15), none, (.build [(.int .i64 0), (.str []), (.bool false), .nils, .nils, .nils] [(0, (1, (.tmp 8))), (1, (1, (.tmp 10))), (2, (3, (.tmp 14)))])⟩, ⟨(some 3), none, (.new [(.int .i64 0), (.str []), (.bool false), .nils, .nils, .nils])⟩, ⟨none, none, (.store 6 (.tmp 3) (.tmp 15))⟩]
def p43_2 : List PO := [⟨(some 16), none, (.faddr 2 (.tmp 1))⟩, ⟨(some 17), none, (.faddr 1 (.tmp 16))⟩, ⟨(some 18), none, (.load false 1 (.tmp 17))⟩, ⟨(some 19), none, (.len .slice (.tmp 18))⟩, ⟨(some 20), none, (.bin .gtr .int (.tmp 19) (.cst (.int .i64 0)))⟩]
def p43_3 : List PO := [⟨(some 21), none, (.faddr 2 (.tmp 1))⟩, ⟨(some 22), none, (.faddr 1 (.tmp 21))⟩, ⟨(some 23), none, (.load false 1 (.tmp 22))⟩, ⟨(some 24), none, (.copy 1 4 (.tmp 23))⟩, ⟨(some 25), none, (.faddr 2 (.tmp 3))⟩, ⟨(some 26), none, (.faddr 1 (.tmp 25))⟩, ⟨none, none, (.store 1 (.tmp 26) (.tmp 24))⟩]
def p43_4 : List PO := [⟨(some 27), none, (.faddr 2 (.tmp 1))⟩, ⟨(some 28), none, (.faddr 2 (.tmp 27))⟩, ⟨(some 29), none, (.load false 1 (.tmp 28))⟩, ⟨(some 30), none, (.len .slice (.tmp 29))⟩, ⟨(some 31), none, (.bin .gtr .int (.tmp 30) (.cst (.int .i64 0)))⟩]
def p43_5 : List PO := [⟨(some 32), none, (.faddr 2 (.tmp 1))⟩, ⟨(some 33), none, (.faddr 2 (.tmp 32))⟩, ⟨(some 34), none, (.load false 1 (.tmp 33))⟩, ⟨(some 35), none, (.copy 1 4 (.tmp 34))⟩, ⟨(some 36), none, (.faddr 2 (.tmp 3))⟩, ⟨(some 37), none, (.faddr 2 (.tmp 36))⟩, ⟨none, none, (.store 1 (.tmp 37) (.tmp 35))⟩]
def p43_6 : List PO := [⟨(some 38), none, (.faddr 5 (.tmp 1))⟩, ⟨(some 39), none, (.load false 1 (.tmp 38))⟩, ⟨(some 40), none, (.len .slice (.tmp 39))⟩, ⟨(some 41), none, (.mov (.cst (.int .i64 0)))⟩]
def p43_7 : List PO := [⟨(some 42), none, (.bin .lss .int (.tmp 41) (.tmp 40))⟩]
def p43_8 : List PO := [⟨(some 43), none, (.iaddr 6 (.tmp 39) (.tmp 41))⟩, ⟨(some 44), none, (.load true 6 (.tmp 43))⟩, ⟨(some 5), none, (.new [(.int .i64 0), (.str []), (.bool false), .nils, .nils, .nils])⟩, ⟨none, none, (.store 6 (.tmp 5) (.tmp 44))⟩]
def p43_9 : List PO := [⟨(some 45), none, (.load true 6 (.tmp 5))⟩, ⟨(some 46), none, (.call false (.fn 43) [(.tmp 45)])⟩, ⟨(some 6), none, (.new [(.int .i64 0), (.str []), (.bool false), .nils, .nils, .nils])⟩, ⟨none, none, (.store 6 (.tmp 6) (.tmp 46))⟩]
def p43_10 : List PO := [⟨(some 47), none, (.faddr 5 (.tmp 3))⟩, ⟨(some 48), none, (.load false 1 (.tmp 47))⟩, ⟨(some 49), none, (.load true 6 (.tmp 6))⟩, ⟨(some 50), none, (.bslice 6 [none, none, none, (some 1), (some 1), (some 6)] [(.int .i64 0), (.str []), (.bool false), .nils, .nils, .nils] 1 [(0, (.tmp 49))])⟩, ⟨(some 51), none, (.append 57 6 104 (.tmp 48) (.tmp 50))⟩, ⟨(some 52), none, (.faddr 5 (.tmp 3))⟩, ⟨none, none, (.store 1 (.tmp 52) (.tmp 51))⟩]
def p43_11 : List PO := [⟨(some 53), none, (.bin .add .int (.tmp 41) (.cst (.int .i64 1)))⟩, ⟨(some 41), none, (.mov (.tmp 53))⟩]
def p43_13 : List PO := [⟨(some 54), none, (.load true 6 (.tmp 3))⟩, ⟨none, none, (.store 6 (.tmp 2) (.tmp 54))⟩]
def bL43_1 : PC := (.seq (.ops p43_7) (.seq (.cond (.tmp 42) .skip (.exit 0)) (.seq (.block 1 (.seq (.ops p43_8) (.seq (.ops p43_9) (.ops p43_10)))) (.ops p43_11))))
def cL43_1 : PC := (.keep [2, 3, 39, 40, 41] bL43_1)
def cJ43_2 : PC := (.seq (.ops p43_13) .ret)
def cJ43_3 : PC := (.seq (.seq (.ops p43_6) (.block 0 (.loop cL43_1))) (.keep [2, 3] cJ43_2))
def cJ43_4 : PC := (.seq (.seq (.ops p43_4) (.cond (.tmp 31) (.ops p43_5) .skip)) (.keep [1, 2, 3] cJ43_3))
def p43 : PFunc := { ntmps := 55, results := [(.cell 2 true 6)], body := (.seq (.ops p43_0) (.seq (.ops p43_1) (.seq (.seq (.ops p43_2) (.cond (.tmp 20) (.ops p43_3) .skip)) (.keep [1, 2, 3] cJ43_4)))), keep := [(false, [none, none, none, (some 1), (some 1), (some 6)])], keepr := [(false, [none, none, none, (some 1), (some 1), (some 6)])] }
theorem c43 : compF Tryd.prog Tryd.f43 [] [] = some { p43 with body := p43.body.erase, keep := [(false, [none, none, none, (some 1), (some 1), (some 6)])], keepr := [(false, [none, none, none, (some 1), (some 1), (some 6)])] } := by kernel_rfl
theorem fok43 : FuncOK Tryd.prog 43 p43 := ⟨Tryd.f43, [], [], _, _, Tryd.func43, by kernel_rfl, c43⟩
/-! replay.nodes -/
def p45_0 : List PO := [⟨(some 4), none, (.mov (.cst (.bool false)))⟩]
def p45_1 : List PO := [⟨(some 6), none, (.mov (.tmp 0))⟩, ⟨(some 7), none, (.len .slice (.tmp 6))⟩, ⟨(some 8), none, (.mov (.tmp 1))⟩, ⟨(some 9), none, (.len .slice (.tmp 8))⟩, ⟨(some 10), none, (.bin .neq .int (.tmp 7) (.tmp 9))⟩]
def p45_2 : List PO := [⟨(some 4), none, (.mov (.cst (.bool false)))⟩]
def p45_3 : List PO := [⟨(some 11), none, (.mov (.tmp 0))⟩, ⟨(some 12), none, (.len .slice (.tmp 11))⟩, ⟨(some 13), none, (.mov (.cst (.int .i64 0)))⟩]
def p45_4 : List PO := [⟨(some 14), none, (.bin .lss .int (.tmp 13) (.tmp 12))⟩]
def p45_5 : List PO := [⟨(some 15), none, (.mov (.tmp 13))⟩, ⟨(some 5), none, (.mov (.tmp 15))⟩]
def p45_6 : List PO := [⟨(some 16), none, (.mov (.tmp 0))⟩, ⟨(some 17), none, (.mov (.tmp 5))⟩, ⟨(some 18), none, (.iaddr 6 (.tmp 16) (.tmp 17))⟩, ⟨(some 19), none, (.load true 6 (.tmp 18))⟩, ⟨(some 20), none, (.mov (.tmp 1))⟩, ⟨(some 21), none, (.mov (.tmp 5))⟩, ⟨(some 22), none, (.iaddr 6 (.tmp 20) (.tmp 21))⟩, ⟨(some 23), none, (.load true 6 (.tmp 22))⟩, ⟨(some 24), none, (.call false (.fn 61) [(.tmp 19), (.tmp 23)])⟩, ⟨(some 25), none, (.un .not (.tmp 24))⟩]
def p45_7 : List PO := [⟨(some 4), none, (.mov (.cst (.bool false)))⟩]
def p45_8 : List PO := [⟨(some 26), none, (.bin .add .int (.tmp 13) (.cst (.int .i64 1)))⟩, ⟨(some 13), none, (.mov (.tmp 26))⟩]
def p45_10 : List PO := [⟨(some 4), none, (.mov (.cst (.bool true)))⟩]
def bL45_1 : PC := (.seq (.ops p45_4) (.seq (.cond (.tmp 14) .skip (.exit 0)) (.seq (.block 1 (.seq (.ops p45_5) (.seq (.ops p45_6) (.cond (.tmp 25) (.seq (.ops p45_7) .ret) .skip)))) (.ops p45_8))))
def cL45_1 : PC := (.keep [0, 1, 12, 13] bL45_1)
def p45 : PFunc := { ntmps := 27, results := [(.tmp 4)], body := (.seq (.ops p45_0) (.seq (.seq (.ops p45_1) (.cond (.tmp 10) (.seq (.ops p45_2) .ret) .skip)) (.seq (.seq (.ops p45_3) (.block 0 (.loop cL45_1))) (.seq (.ops p45_10) .ret)))), keep := [(false, [(some 6)]), (false, [(some 6)])], keepr := [(false, [none])] }
theorem c45 : compF Tryd.prog Tryd.f45 [] [] = some { p45 with body := p45.body.erase, keep := [(false, [(some 6)]), (false, [(some 6)])], keepr := [(false, [none])] } := by kernel_rfl
theorem fok45 : FuncOK Tryd.prog 45 p45 := ⟨Tryd.f45, [], [], _, _, Tryd.func45, by kernel_rfl, c45⟩
/-! replay.pairs -/
def p46_0 : List PO := [⟨(some 4), none, (.mov (.cst (.bool false)))⟩]
def p46_1 : List PO := [⟨(some 8), none, (.mov (.tmp 0))⟩, ⟨(some 9), none, (.len .slice (.tmp 8))⟩, ⟨(some 10), none, (.mov (.tmp 1))⟩, ⟨(some 11), none, (.len .slice (.tmp 10))⟩, ⟨(some 12), none, (.bin .neq .int (.tmp 9) (.tmp 11))⟩]
def p46_2 : List PO := [⟨(some 4), none, (.mov (.cst (.bool false)))⟩]
def p46_3 : List PO := [⟨(some 13), none, (.mov (.tmp 0))⟩, ⟨(some 14), none, (.len .slice (.tmp 13))⟩, ⟨(some 15), none, (.mov (.cst (.int .i64 0)))⟩]
def p46_4 : List PO := [⟨(some 16), none, (.bin .lss .int (.tmp 15) (.tmp 14))⟩]
def p46_5 : List PO := [⟨(some 17), none, (.mov (.tmp 15))⟩, ⟨(some 18), none, (.iaddr 13 (.tmp 13) (.tmp 15))⟩, ⟨(some 19), none, (.load true 13 (.tmp 18))⟩, ⟨(some 6), none, (.new [(.int .i64 0), (.str []), (.bool false), .nils, .nils, .nils, (.int .i64 0), (.str []), (.bool false), .nils, .nils, .nils, .nils])⟩, ⟨(some 5), none, (.mov (.tmp 17))⟩, ⟨none, none, (.store 13 (.tmp 6) (.tmp 19))⟩]
def p46_6 : List PO := [⟨(some 20), none, (.mov (.tmp 1))⟩, ⟨(some 21), none, (.mov (.tmp 5))⟩, ⟨(some 22), none, (.iaddr 13 (.tmp 20) (.tmp 21))⟩, ⟨(some 23), none, (.load true 13 (.tmp 22))⟩, ⟨(some 7), none, (.new [(.int .i64 0), (.str []), (.bool false), .nils, .nils, .nils, (.int .i64 0), (.str []), (.bool false), .nils, .nils, .nils, .nils])⟩, ⟨none, none, (.store 13 (.tmp 7) (.tmp 23))⟩]
def p46_7 : List PO := [⟨(some 24), none, (.faddr 0 (.tmp 6))⟩, ⟨(some 25), none, (.load true 6 (.tmp 24))⟩, ⟨(some 26), none, (.faddr 0 (.tmp 7))⟩, ⟨(some 27), none, (.load true 6 (.tmp 26))⟩, ⟨(some 28), none, (.call false (.fn 61) [(.tmp 25), (.tmp 27)])⟩, ⟨(some 29), none, (.un .not (.tmp 28))⟩, ⟨(some 30), none, (.mov (.tmp 29))⟩, ⟨(some 31), (some (30, false)), (.faddr 6 (.tmp 6))⟩, ⟨(some 32), (some (30, false)), (.load true 6 (.tmp 31))⟩, ⟨(some 33), (some (30, false)), (.faddr 6 (.tmp 7))⟩, ⟨(some 34), (some (30, false)), (.load true 6 (.tmp 33))⟩, ⟨(some 35), (some (30, false)), (.call false (.fn 61) [(.tmp 32), (.tmp 34)])⟩, ⟨(some 36), (some (30, false)), (.un .not (.tmp 35))⟩, ⟨(some 37), none, (.pick (.tmp 30) (.cst (.bool true)) (.tmp 36))⟩, ⟨(some 38), none, (.mov (.tmp 37))⟩, ⟨(some 39), (some (38, false)), (.faddr 12 (.tmp 6))⟩, ⟨(some 40), (some (38, false)), (.load false 1 (.tmp 39))⟩, ⟨(some 41), (some (38, false)), (.faddr 12 (.tmp 7))⟩, ⟨(some 42), (some (38, false)), (.load false 1 (.tmp 41))⟩, ⟨(some 43), (some (38, false)), (.call false (.fn 45) [(.tmp 40), (.tmp 42)])⟩, ⟨(some 44), (some (38, false)), (.un .not (.tmp 43))⟩, ⟨(some 45), none, (.pick (.tmp 38) (.cst (.bool true)) (.tmp 44))⟩]
def p46_8 : List PO := [⟨(some 4), none, (.mov (.cst (.bool false)))⟩]
def p46_9 : List PO := [⟨(some 46), none, (.bin .add .int (.tmp 15) (.cst (.int .i64 1)))⟩, ⟨(some 15), none, (.mov (.tmp 46))⟩]
def p46_11 : List PO := [⟨(some 4), none, (.mov (.cst (.bool true)))⟩]
def bL46_1 : PC := (.seq (.ops p46_4) (.seq (.cond (.tmp 16) .skip (.exit 0)) (.seq (.block 1 (.seq (.ops p46_5) (.seq (.ops p46_6) (.seq (.ops p46_7) (.cond (.tmp 45) (.seq (.ops p46_8) .ret) .skip))))) (.ops p46_9))))
def cL46_1 : PC := (.keep [1, 13, 14, 15] bL46_1)
def p46 : PFunc := { ntmps := 47, results := [(.tmp 4)], body := (.seq (.ops p46_0) (.seq (.seq (.ops p46_1) (.cond (.tmp 12) (.seq (.ops p46_2) .ret) .skip)) (.seq (.seq (.ops p46_3) (.block 0 (.loop cL46_1))) (.seq (.ops p46_11) .ret)))), keep := [(false, [(some 13)]), (false, [(some 13)])], keepr := [(false, [none])] }
theorem c46 : compF Tryd.prog Tryd.f46 [] [] = some { p46 with body := p46.body.erase, keep := [(false, [(some 13)]), (false, [(some 13)])], keepr := [(false, [none])] } := by kernel_rfl
theorem fok46 : FuncOK Tryd.prog 46 p46 := ⟨Tryd.f46, [], [], _, _, Tryd.func46, by kernel_rfl, c46⟩
/-! replay.texts -/
def p47_0 : List PO := [⟨(some 4), none, (.mov (.cst (.bool false)))⟩]
def p47_1 : List PO := [⟨(some 6), none, (.mov (.tmp 0))⟩, ⟨(some 7), none, (.len .slice (.tmp 6))⟩, ⟨(some 8), none, (.mov (.tmp 1))⟩, ⟨(some 9), none, (.len .slice (.tmp 8))⟩, ⟨(some 10), none, (.bin .neq .int (.tmp 7) (.tmp 9))⟩]
def p47_2 : List PO := [⟨(some 4), none, (.mov (.cst (.bool false)))⟩]
def p47_3 : List PO := [⟨(some 11), none, (.mov (.tmp 0))⟩, ⟨(some 12), none, (.len .slice (.tmp 11))⟩, ⟨(some 13), none, (.mov (.cst (.int .i64 0)))⟩]
def p47_4 : List PO := [⟨(some 14), none, (.bin .lss .int (.tmp 13) (.tmp 12))⟩]
def p47_5 : List PO := [⟨(some 15), none, (.mov (.tmp 13))⟩, ⟨(some 5), none, (.mov (.tmp 15))⟩]
def p47_6 : List PO := [⟨(some 16), none, (.mov (.tmp 0))⟩, ⟨(some 17), none, (.mov (.tmp 5))⟩, ⟨(some 18), none, (.iaddr 1 (.tmp 16) (.tmp 17))⟩, ⟨(some 19), none, (.load false 1 (.tmp 18))⟩, ⟨(some 20), none, (.mov (.tmp 1))⟩, ⟨(some 21), none, (.mov (.tmp 5))⟩, ⟨(some 22), none, (.iaddr 1 (.tmp 20) (.tmp 21))⟩, ⟨(some 23), none, (.load false 1 (.tmp 22))⟩, ⟨(some 24), none, (.bin .neq .str (.tmp 19) (.tmp 23))⟩]
def p47_7 : List PO := [⟨(some 4), none, (.mov (.cst (.bool false)))⟩]
def p47_8 : List PO := [⟨(some 25), none, (.bin .add .int (.tmp 13) (.cst (.int .i64 1)))⟩, ⟨(some 13), none, (.mov (.tmp 25))⟩]
def p47_10 : List PO := [⟨(some 4), none, (.mov (.cst (.bool true)))⟩]
def bL47_1 : PC := (.seq (.ops p47_4) (.seq (.cond (.tmp 14) .skip (.exit 0)) (.seq (.block 1 (.seq (.ops p47_5) (.seq (.ops p47_6) (.cond (.tmp 24) (.seq (.ops p47_7) .ret) .skip)))) (.ops p47_8))))
def cL47_1 : PC := (.keep [0, 1, 12, 13] bL47_1)
def p47 : PFunc := { ntmps := 26, results := [(.tmp 4)], body := (.seq (.ops p47_0) (.seq (.seq (.ops p47_1) (.cond (.tmp 10) (.seq (.ops p47_2) .ret) .skip)) (.seq (.seq (.ops p47_3) (.block 0 (.loop cL47_1))) (.seq (.ops p47_10) .ret)))), keep := [(false, [(some 1)]), (false, [(some 1)])], keepr := [(false, [none])] }
theorem c47 : compF Tryd.prog Tryd.f47 [] [] = some { p47 with body := p47.body.erase, keep := [(false, [(some 1)]), (false, [(some 1)])], keepr := [(false, [none])] } := by kernel_rfl
theorem fok47 : FuncOK Tryd.prog 47 p47 := ⟨Tryd.f47, [], [], _, _, Tryd.func47, by kernel_rfl, c47⟩
/-! replay.certs -/
def p48_0 : List PO := [⟨(some 2), none, (.box (.tmp 0))⟩, ⟨(some 3), none, (.box (.tmp 1))⟩, ⟨(some 4), none, (.mov (.cst (.bool false)))⟩]
def p48_1 : List PO := [⟨(some 9), none, (.faddr 0 (.tmp 2))⟩, ⟨(some 10), none, (.load false 1 (.tmp 9))⟩, ⟨(some 11), none, (.faddr 0 (.tmp 3))⟩, ⟨(some 12), none, (.load false 1 (.tmp 11))⟩, ⟨(some 13), none, (.bin .neq .int (.tmp 10) (.tmp 12))⟩, ⟨(some 14), none, (.mov (.tmp 13))⟩, ⟨(some 15), (some (14, false)), (.faddr 1 (.tmp 2))⟩, ⟨(some 16), (some (14, false)), (.load false 1 (.tmp 15))⟩, ⟨(some 17), (some (14, false)), (.len .slice (.tmp 16))⟩, ⟨(some 18), (some (14, false)), (.faddr 1 (.tmp 3))⟩, ⟨(some 19), (some (14, false)), (.load false 1 (.tmp 18))⟩, ⟨(some 20), (some (14, false)), (.len .slice (.tmp 19))⟩, ⟨(some 21), (some (14, false)), (.bin .neq .int (.tmp 17) (.tmp 20))⟩, ⟨(some 22), none, (.pick (.tmp 14) (.cst (.bool true)) (.tmp 21))⟩, ⟨(some 23), none, (.mov (.tmp 22))⟩, ⟨(some 24), (some (23, false)), (.faddr 2 (.tmp 2))⟩, ⟨(some 25), (some (23, false)), (.load false 1 (.tmp 24))⟩, ⟨(some 26), (some (23, false)), (.len .slice (.tmp 25))⟩, ⟨(some 27), (some (23, false)), (.faddr 2 (.tmp 3))⟩, ⟨(some 28), (some (23, false)), (.load false 1 (.tmp 27))⟩, ⟨(some 29), (some (23, false)), (.len .slice (.tmp 28))⟩, ⟨(some 30), (some (23, false)), (.bin .neq .int (.tmp 26) (.tmp 29))⟩, ⟨(some 31), none, (.pick (.tmp 23) (.cst (.bool true)) (.tmp 30))⟩, ⟨(some 32), none, (.mov (.tmp 31))⟩, ⟨(some 33), (some (32, false)), (.faddr 3 (.tmp 2))⟩, ⟨(some 34), (some (32, false)), (.load false 1 (.tmp 33))⟩, ⟨(some 35), (some (32, false)), (.len .slice (.tmp 34))⟩, ⟨(some 36), (some (32, false)), (.faddr 3 (.tmp 3))⟩, ⟨(some 37), (some (32, false)), (.load false 1 (.tmp 36))⟩, ⟨(some 38), (some (32, false)), (.len .slice (.tmp 37))⟩, ⟨(some 39), (some (32, false)), (.bin .neq .int (.tmp 35) (.tmp 38))⟩, ⟨(some 40), none, (.pick (.tmp 32) (.cst (.bool true)) (.tmp 39))⟩, ⟨(some 41), none, (.mov (.tmp 40))⟩, ⟨(some 42), (some (41, false)), (.faddr 4 (.tmp 2))⟩, ⟨(some 43), (some (41, false)), (.load false 1 (.tmp 42))⟩, ⟨(some 44), (some (41, false)), (.len .slice (.tmp 43))⟩, ⟨(some 45), (some (41, false)), (.faddr 4 (.tmp 3))⟩, ⟨(some 46), (some (41, false)), (.load false 1 (.tmp 45))⟩, ⟨(some 47), (some (41, false)), (.len .slice (.tmp 46))⟩, ⟨(some 48), (some (41, false)), (.bin .neq .int (.tmp 44) (.tmp 47))⟩, ⟨(some 49), none, (.pick (.tmp 41) (.cst (.bool true)) (.tmp 48))⟩]
def p48_2 : List PO := [⟨(some 4), none, (.mov (.cst (.bool false)))⟩]
def p48_3 : List PO := [⟨(some 50), none, (.faddr 1 (.tmp 2))⟩, ⟨(some 51), none, (.load false 1 (.tmp 50))⟩, ⟨(some 52), none, (.len .slice (.tmp 51))⟩, ⟨(some 53), none, (.mov (.cst (.int .i64 0)))⟩]
def p48_4 : List PO := [⟨(some 54), none, (.bin .lss .int (.tmp 53) (.tmp 52))⟩]
def p48_5 : List PO := [⟨(some 55), none, (.mov (.tmp 53))⟩, ⟨(some 5), none, (.mov (.tmp 55))⟩]
def p48_6 : List PO := [⟨(some 56), none, (.faddr 1 (.tmp 2))⟩, ⟨(some 57), none, (.load false 1 (.tmp 56))⟩, ⟨(some 58), none, (.mov (.tmp 5))⟩, ⟨(some 59), none, (.iaddr 3 (.tmp 57) (.tmp 58))⟩, ⟨(some 60), none, (.load true 3 (.tmp 59))⟩, ⟨(some 61), none, (.faddr 1 (.tmp 3))⟩, ⟨(some 62), none, (.load false 1 (.tmp 61))⟩, ⟨(some 63), none, (.mov (.tmp 5))⟩, ⟨(some 64), none, (.iaddr 3 (.tmp 62) (.tmp 63))⟩, ⟨(some 65), none, (.load true 3 (.tmp 64))⟩, ⟨(some 66), none, (.call false (.fn 62) [(.tmp 60), (.tmp 65)])⟩, ⟨(some 67), none, (.un .not (.tmp 66))⟩]
def p48_7 : List PO := [⟨(some 4), none, (.mov (.cst (.bool false)))⟩]
def p48_8 : List PO := [⟨(some 68), none, (.bin .add .int (.tmp 53) (.cst (.int .i64 1)))⟩, ⟨(some 53), none, (.mov (.tmp 68))⟩]
def p48_10 : List PO := [⟨(some 69), none, (.faddr 2 (.tmp 2))⟩, ⟨(some 70), none, (.load false 1 (.tmp 69))⟩, ⟨(some 71), none, (.len .slice (.tmp 70))⟩, ⟨(some 72), none, (.mov (.cst (.int .i64 0)))⟩]
def p48_11 : List PO := [⟨(some 73), none, (.bin .lss .int (.tmp 72) (.tmp 71))⟩]
def p48_12 : List PO := [⟨(some 74), none, (.mov (.tmp 72))⟩, ⟨(some 6), none, (.mov (.tmp 74))⟩]
def p48_13 : List PO := [⟨(some 75), none, (.faddr 2 (.tmp 2))⟩, ⟨(some 76), none, (.load false 1 (.tmp 75))⟩, ⟨(some 77), none, (.mov (.tmp 6))⟩, ⟨(some 78), none, (.iaddr 2 (.tmp 76) (.tmp 77))⟩, ⟨(some 79), none, (.load true 2 (.tmp 78))⟩, ⟨(some 80), none, (.faddr 2 (.tmp 3))⟩, ⟨(some 81), none, (.load false 1 (.tmp 80))⟩, ⟨(some 82), none, (.mov (.tmp 6))⟩, ⟨(some 83), none, (.iaddr 2 (.tmp 81) (.tmp 82))⟩, ⟨(some 84), none, (.load true 2 (.tmp 83))⟩, ⟨(some 85), none, (.call false (.fn 63) [(.tmp 79), (.tmp 84)])⟩, ⟨(some 86), none, (.un .not (.tmp 85))⟩]
def p48_14 : List PO := [⟨(some 4), none, (.mov (.cst (.bool false)))⟩]
def p48_15 : List PO := [⟨(some 87), none, (.bin .add .int (.tmp 72) (.cst (.int .i64 1)))⟩, ⟨(some 72), none, (.mov (.tmp 87))⟩]
def p48_17 : List PO := [⟨(some 88), none, (.faddr 3 (.tmp 2))⟩, ⟨(some 89), none, (.load false 1 (.tmp 88))⟩, ⟨(some 90), none, (.len .slice (.tmp 89))⟩, ⟨(some 91), none, (.mov (.cst (.int .i64 0)))⟩]
def p48_18 : List PO := [⟨(some 92), none, (.bin .lss .int (.tmp 91) (.tmp 90))⟩]
def p48_19 : List PO := [⟨(some 93), none, (.mov (.tmp 91))⟩, ⟨(some 7), none, (.mov (.tmp 93))⟩]
def p48_20 : List PO := [⟨(some 94), none, (.faddr 3 (.tmp 2))⟩, ⟨(some 95), none, (.load false 1 (.tmp 94))⟩, ⟨(some 96), none, (.mov (.tmp 7))⟩, ⟨(some 97), none, (.iaddr 5 (.tmp 95) (.tmp 96))⟩, ⟨(some 98), none, (.faddr 0 (.tmp 97))⟩, ⟨(some 99), none, (.load true 3 (.tmp 98))⟩, ⟨(some 100), none, (.faddr 3 (.tmp 3))⟩, ⟨(some 101), none, (.load false 1 (.tmp 100))⟩, ⟨(some 102), none, (.mov (.tmp 7))⟩, ⟨(some 103), none, (.iaddr 5 (.tmp 101) (.tmp 102))⟩, ⟨(some 104), none, (.faddr 0 (.tmp 103))⟩, ⟨(some 105), none, (.load true 3 (.tmp 104))⟩, ⟨(some 106), none, (.call false (.fn 62) [(.tmp 99), (.tmp 105)])⟩, ⟨(some 107), none, (.un .not (.tmp 106))⟩, ⟨(some 108), none, (.mov (.tmp 107))⟩, ⟨(some 109), (some (108, false)), (.faddr 3 (.tmp 2))⟩, ⟨(some 110), (some (108, false)), (.load false 1 (.tmp 109))⟩, ⟨(some 111), (some (108, false)), (.mov (.tmp 7))⟩, ⟨(some 112), (some (108, false)), (.iaddr 5 (.tmp 110) (.tmp 111))⟩, ⟨(some 113), (some (108, false)), (.faddr 3 (.tmp 112))⟩, ⟨(some 114), (some (108, false)), (.load true 2 (.tmp 113))⟩, ⟨(some 115), (some (108, false)), (.faddr 3 (.tmp 3))⟩, ⟨(some 116), (some (108, false)), (.load false 1 (.tmp 115))⟩, ⟨(some 117), (some (108, false)), (.mov (.tmp 7))⟩, ⟨(some 118), (some (108, false)), (.iaddr 5 (.tmp 116) (.tmp 117))⟩, ⟨(some 119), (some (108, false)), (.faddr 3 (.tmp 118))⟩, ⟨(some 120), (some (108, false)), (.load true 2 (.tmp 119))⟩, ⟨(some 121), (some (108, false)), (.call false (.fn 63) [(.tmp 114), (.tmp 120)])⟩, ⟨(some 122), (some (108, false)), (.un .not (.tmp 121))⟩, ⟨(some 123), none, (.pick (.tmp 108) (.cst (.bool true)) (.tmp 122))⟩]
def p48_21 : List PO := [⟨(some 4), none, (.mov (.cst (.bool false)))⟩]
def p48_22 : List PO := [⟨(some 124), none, (.bin .add .int (.tmp 91) (.cst (.int .i64 1)))⟩, ⟨(some 91), none, (.mov (.tmp 124))⟩]
def p48_24 : List PO := [⟨(some 125), none, (.faddr 4 (.tmp 2))⟩, ⟨(some 126), none, (.load false 1 (.tmp 125))⟩, ⟨(some 127), none, (.len .slice (.tmp 126))⟩, ⟨(some 128), none, (.mov (.cst (.int .i64 0)))⟩]
def p48_25 : List PO := [⟨(some 129), none, (.bin .lss .int (.tmp 128) (.tmp 127))⟩]
def p48_26 : List PO := [⟨(some 130), none, (.mov (.tmp 128))⟩, ⟨(some 8), none, (.mov (.tmp 130))⟩]
def p48_27 : List PO := [⟨(some 131), none, (.faddr 4 (.tmp 2))⟩, ⟨(some 132), none, (.load false 1 (.tmp 131))⟩, ⟨(some 133), none, (.mov (.tmp 8))⟩, ⟨(some 134), none, (.iaddr 5 (.tmp 132) (.tmp 133))⟩, ⟨(some 135), none, (.load true 5 (.tmp 134))⟩, ⟨(some 136), none, (.faddr 4 (.tmp 3))⟩, ⟨(some 137), none, (.load false 1 (.tmp 136))⟩, ⟨(some 138), none, (.mov (.tmp 8))⟩, ⟨(some 139), none, (.iaddr 5 (.tmp 137) (.tmp 138))⟩, ⟨(some 140), none, (.load true 5 (.tmp 139))⟩, ⟨(some 141), none, (.call false (.fn 48) [(.tmp 135), (.tmp 140)])⟩, ⟨(some 142), none, (.un .not (.tmp 141))⟩]
def p48_28 : List PO := [⟨(some 4), none, (.mov (.cst (.bool false)))⟩]
def p48_29 : List PO := [⟨(some 143), none, (.bin .add .int (.tmp 128) (.cst (.int .i64 1)))⟩, ⟨(some 128), none, (.mov (.tmp 143))⟩]
def p48_31 : List PO := [⟨(some 4), none, (.mov (.cst (.bool true)))⟩]
def bL48_6 : PC := (.seq (.ops p48_4) (.seq (.cond (.tmp 54) .skip (.exit 0)) (.seq (.block 1 (.seq (.ops p48_5) (.seq (.ops p48_6) (.cond (.tmp 67) (.seq (.ops p48_7) .ret) .skip)))) (.ops p48_8))))
def cL48_6 : PC := (.keep [2, 3, 52, 53] bL48_6)
def bL48_4 : PC := (.seq (.ops p48_11) (.seq (.cond (.tmp 73) .skip (.exit 2)) (.seq (.block 3 (.seq (.ops p48_12) (.seq (.ops p48_13) (.cond (.tmp 86) (.seq (.ops p48_14) .ret) .skip)))) (.ops p48_15))))
def cL48_4 : PC := (.keep [2, 3, 71, 72] bL48_4)
def bL48_2 : PC := (.seq (.ops p48_18) (.seq (.cond (.tmp 92) .skip (.exit 4)) (.seq (.block 5 (.seq (.ops p48_19) (.seq (.ops p48_20) (.cond (.tmp 123) (.seq (.ops p48_21) .ret) .skip)))) (.ops p48_22))))
def cL48_2 : PC := (.keep [2, 3, 90, 91] bL48_2)
def bL48_1 : PC := (.seq (.ops p48_25) (.seq (.cond (.tmp 129) .skip (.exit 6)) (.seq (.block 7 (.seq (.ops p48_26) (.seq (.ops p48_27) (.cond (.tmp 142) (.seq (.ops p48_28) .ret) .skip)))) (.ops p48_29))))
def cL48_1 : PC := (.keep [2, 3, 127, 128] bL48_1)
def cJ48_3 : PC := (.seq (.seq (.ops p48_24) (.block 6 (.loop cL48_1))) (.seq (.ops p48_31) .ret))
def cJ48_5 : PC := (.seq (.seq (.ops p48_17) (.block 4 (.loop cL48_2))) (.keep [2, 3] cJ48_3))
def cJ48_7 : PC := (.seq (.seq (.ops p48_10) (.block 2 (.loop cL48_4))) (.keep [2, 3] cJ48_5))
def p48 : PFunc := { ntmps := 144, results := [(.tmp 4)], body := (.seq (.ops p48_0) (.seq (.seq (.ops p48_1) (.cond (.tmp 49) (.seq (.ops p48_2) .ret) .skip)) (.seq (.seq (.ops p48_3) (.block 0 (.loop cL48_6))) (.keep [2, 3] cJ48_7)))), keep := [(false, [none, (some 3), (some 2), (some 5), (some 5)]), (false, [none, (some 3), (some 2), (some 5), (some 5)])], keepr := [(false, [none])] }
theorem c48 : compF Tryd.prog Tryd.f48 [] [] = some { p48 with body := p48.body.erase, keep := [(false, [none, (some 3), (some 2), (some 5), (some 5)]), (false, [none, (some 3), (some 2), (some 5), (some 5)])], keepr := [(false, [none])] } := by kernel_rfl
theorem fok48 : FuncOK Tryd.prog 48 p48 := ⟨Tryd.f48, [], [], _, _, Tryd.func48, by kernel_rfl, c48⟩
/-! isochroneref20.Size -/
def p49_0 : List PO := [⟨(some 1), none, (.box (.tmp 0))⟩, ⟨(some 2), none, (.mov (.cst (.int .i64 0)))⟩]
def p49_1 : List PO := [⟨(some 3), none, (.mov (.cst (.int .i64 1)))⟩]
def p49_2 : List PO := [⟨(some 4), none, (.mov (.cst (.int .i64 0)))⟩]
def p49_3 : List PO := [⟨(some 5), none, (.mov (.tmp 4))⟩, ⟨(some 6), none, (.faddr 11 (.tmp 1))⟩, ⟨(some 7), none, (.load false 1 (.tmp 6))⟩, ⟨(some 8), none, (.len .slice (.tmp 7))⟩, ⟨(some 9), none, (.bin .lss .int (.tmp 5) (.tmp 8))⟩]
def p49_4 : List PO := [⟨(some 12), none, (.mov (.tmp 3))⟩, ⟨(some 13), none, (.faddr 11 (.tmp 1))⟩, ⟨(some 14), none, (.load false 1 (.tmp 13))⟩, ⟨(some 15), none, (.mov (.tmp 4))⟩, ⟨(some 16), none, (.iaddr 12 (.tmp 14) (.tmp 15))⟩, ⟨(some 17), none, (.load true 12 (.tmp 16))⟩, ⟨(some 18), none, (.call false (.fn 49) [(.tmp 17)])⟩, ⟨(some 19), none, (.bin .add .int (.tmp 12) (.tmp 18))⟩, ⟨(some 3), none, (.mov (.tmp 19))⟩]
def p49_5 : List PO := [⟨(some 10), none, (.mov (.tmp 4))⟩, ⟨(some 11), none, (.bin .add .int (.tmp 10) (.cst (.int .i64 1)))⟩, ⟨(some 4), none, (.mov (.tmp 11))⟩]
def p49_7 : List PO := [⟨(some 20), none, (.mov (.tmp 3))⟩, ⟨(some 2), none, (.mov (.tmp 20))⟩]
def bL49_1 : PC := (.seq (.seq (.ops p49_3) (.cond (.tmp 9) .skip (.exit 0))) (.seq (.block 1 (.ops p49_4)) (.ops p49_5)))
def cL49_1 : PC := (.keep [1, 3, 4] bL49_1)
def p49 : PFunc := { ntmps := 21, results := [(.tmp 2)], body := (.seq (.ops p49_0) (.seq (.ops p49_1) (.seq (.seq (.ops p49_2) (.block 0 (.loop cL49_1))) (.seq (.ops p49_7) .ret)))), keep := [(false, [none, none, (some 6), (some 13), (some 1), (some 1), none, (some 3), (some 2), (some 5), (some 5), (some 12)])], keepr := [(false, [none])] }
theorem c49 : compF Tryd.prog Tryd.f49 [] [] = some { p49 with body := p49.body.erase, keep := [(false, [none, none, (some 6), (some 13), (some 1), (some 1), none, (some 3), (some 2), (some 5), (some 5), (some 12)])], keepr := [(false, [none])] } := by kernel_rfl
theorem fok49 : FuncOK Tryd.prog 49 p49 := ⟨Tryd.f49, [], [], _, _, Tryd.func49, by kernel_rfl, c49⟩
/-! isochroneref20.Levels -/
def p50_0 : List PO := [⟨(some 1), none, (.box (.tmp 0))⟩, ⟨(some 2), none, (.mov (.cst (.int .i64 0)))⟩]
def p50_1 : List PO := [⟨(some 3), none, (.mov (.cst (.int .i64 0)))⟩]
def p50_2 : List PO := [⟨(some 4), none, (.mov (.cst (.int .i64 0)))⟩]
def p50_3 : List PO := [⟨(some 5), none, (.mov (.tmp 4))⟩, ⟨(some 6), none, (.faddr 11 (.tmp 1))⟩, ⟨(some 7), none, (.load false 1 (.tmp 6))⟩, ⟨(some 8), none, (.len .slice (.tmp 7))⟩, ⟨(some 9), none, (.bin .lss .int (.tmp 5) (.tmp 8))⟩]
def p50_4 : List PO := [⟨(some 12), none, (.mov (.tmp 3))⟩, ⟨(some 13), none, (.faddr 11 (.tmp 1))⟩, ⟨(some 14), none, (.load false 1 (.tmp 13))⟩, ⟨(some 15), none, (.mov (.tmp 4))⟩, ⟨(some 16), none, (.iaddr 12 (.tmp 14) (.tmp 15))⟩, ⟨(some 17), none, (.load true 12 (.tmp 16))⟩, ⟨(some 18), none, (.call false (.fn 50) [(.tmp 17)])⟩, ⟨(some 19), none, (.mx [(.tmp 12), (.tmp 18)])⟩, ⟨(some 3), none, (.mov (.tmp 19))⟩]
def p50_5 : List PO := [⟨(some 10), none, (.mov (.tmp 4))⟩, ⟨(some 11), none, (.bin .add .int (.tmp 10) (.cst (.int .i64 1)))⟩, ⟨(some 4), none, (.mov (.tmp 11))⟩]
def p50_7 : List PO := [⟨(some 20), none, (.mov (.tmp 3))⟩, ⟨(some 21), none, (.bin .add .int (.tmp 20) (.cst (.int .i64 1)))⟩, ⟨(some 2), none, (.mov (.tmp 21))⟩]
def bL50_1 : PC := (.seq (.seq (.ops p50_3) (.cond (.tmp 9) .skip (.exit 0))) (.seq (.block 1 (.ops p50_4)) (.ops p50_5)))
def cL50_1 : PC := (.keep [1, 3, 4] bL50_1)
def p50 : PFunc := { ntmps := 22, results := [(.tmp 2)], body := (.seq (.ops p50_0) (.seq (.ops p50_1) (.seq (.seq (.ops p50_2) (.block 0 (.loop cL50_1))) (.seq (.ops p50_7) .ret)))), keep := [(false, [none, none, (some 6), (some 13), (some 1), (some 1), none, (some 3), (some 2), (some 5), (some 5), (some 12)])], keepr := [(false, [none])] }
theorem c50 : compF Tryd.prog Tryd.f50 [] [] = some { p50 with body := p50.body.erase, keep := [(false, [none, none, (some 6), (some 13), (some 1), (some 1), none, (some 3), (some 2), (some 5), (some 5), (some 12)])], keepr := [(false, [none])] } := by kernel_rfl
theorem fok50 : FuncOK Tryd.prog 50 p50 := ⟨Tryd.f50, [], [], _, _, Tryd.func50, by kernel_rfl, c50⟩
/-! isochroneref08.SameNodes -/
def p51_0 : List PO := [⟨(some 4), none, (.mov (.cst (.bool false)))⟩]
def p51_1 : List PO := [⟨(some 6), none, (.mov (.tmp 0))⟩, ⟨(some 7), none, (.len .slice (.tmp 6))⟩, ⟨(some 8), none, (.mov (.tmp 1))⟩, ⟨(some 9), none, (.len .slice (.tmp 8))⟩, ⟨(some 10), none, (.bin .neq .int (.tmp 7) (.tmp 9))⟩]
def p51_2 : List PO := [⟨(some 4), none, (.mov (.cst (.bool false)))⟩]
def p51_3 : List PO := [⟨(some 5), none, (.mov (.cst (.int .i64 0)))⟩]
def p51_4 : List PO := [⟨(some 11), none, (.mov (.tmp 5))⟩, ⟨(some 12), none, (.mov (.tmp 0))⟩, ⟨(some 13), none, (.len .slice (.tmp 12))⟩, ⟨(some 14), none, (.bin .lss .int (.tmp 11) (.tmp 13))⟩]
def p51_5 : List PO := [⟨(some 17), none, (.mov (.tmp 0))⟩, ⟨(some 18), none, (.mov (.tmp 5))⟩, ⟨(some 19), none, (.iaddr 6 (.tmp 17) (.tmp 18))⟩, ⟨(some 20), none, (.load true 6 (.tmp 19))⟩, ⟨(some 21), none, (.mov (.tmp 1))⟩, ⟨(some 22), none, (.mov (.tmp 5))⟩, ⟨(some 23), none, (.iaddr 6 (.tmp 21) (.tmp 22))⟩, ⟨(some 24), none, (.load true 6 (.tmp 23))⟩, ⟨(some 25), none, (.call false (.fn 64) [(.tmp 20), (.tmp 24)])⟩, ⟨(some 26), none, (.un .not (.tmp 25))⟩]
def p51_6 : List PO := [⟨(some 4), none, (.mov (.cst (.bool false)))⟩]
def p51_7 : List PO := [⟨(some 15), none, (.mov (.tmp 5))⟩, ⟨(some 16), none, (.bin .add .int (.tmp 15) (.cst (.int .i64 1)))⟩, ⟨(some 5), none, (.mov (.tmp 16))⟩]
def p51_9 : List PO := [⟨(some 4), none, (.mov (.cst (.bool true)))⟩]
def bL51_1 : PC := (.seq (.seq (.ops p51_4) (.cond (.tmp 14) .skip (.exit 0))) (.seq (.block 1 (.seq (.ops p51_5) (.cond (.tmp 26) (.seq (.ops p51_6) .ret) .skip))) (.ops p51_7)))
def cL51_1 : PC := (.keep [0, 1, 5] bL51_1)
def p51 : PFunc := { ntmps := 27, results := [(.tmp 4)], body := (.seq (.ops p51_0) (.seq (.seq (.ops p51_1) (.cond (.tmp 10) (.seq (.ops p51_2) .ret) .skip)) (.seq (.seq (.ops p51_3) (.block 0 (.loop cL51_1))) (.seq (.ops p51_9) .ret)))), keep := [(false, [(some 6)]), (false, [(some 6)])], keepr := [(false, [none])] }
theorem c51 : compF Tryd.prog Tryd.f51 [] [] = some { p51 with body := p51.body.erase, keep := [(false, [(some 6)]), (false, [(some 6)])], keepr := [(false, [none])] } := by kernel_rfl
theorem fok51 : FuncOK Tryd.prog 51 p51 := ⟨Tryd.f51, [], [], _, _, Tryd.func51, by kernel_rfl, c51⟩
/-! isochroneref17.SamePairs -/
def p52_0 : List PO := [⟨(some 4), none, (.mov (.cst (.bool false)))⟩]
def p52_1 : List PO := [⟨(some 6), none, (.mov (.tmp 0))⟩, ⟨(some 7), none, (.len .slice (.tmp 6))⟩, ⟨(some 8), none, (.mov (.tmp 1))⟩, ⟨(some 9), none, (.len .slice (.tmp 8))⟩, ⟨(some 10), none, (.bin .neq .int (.tmp 7) (.tmp 9))⟩]
def p52_2 : List PO := [⟨(some 4), none, (.mov (.cst (.bool false)))⟩]
def p52_3 : List PO := [⟨(some 5), none, (.mov (.cst (.int .i64 0)))⟩]
def p52_4 : List PO := [⟨(some 11), none, (.mov (.tmp 5))⟩, ⟨(some 12), none, (.mov (.tmp 0))⟩, ⟨(some 13), none, (.len .slice (.tmp 12))⟩, ⟨(some 14), none, (.bin .lss .int (.tmp 11) (.tmp 13))⟩]
def p52_5 : List PO := [⟨(some 17), none, (.mov (.tmp 0))⟩, ⟨(some 18), none, (.mov (.tmp 5))⟩, ⟨(some 19), none, (.iaddr 13 (.tmp 17) (.tmp 18))⟩, ⟨(some 20), none, (.faddr 0 (.tmp 19))⟩, ⟨(some 21), none, (.load true 6 (.tmp 20))⟩, ⟨(some 22), none, (.mov (.tmp 1))⟩, ⟨(some 23), none, (.mov (.tmp 5))⟩, ⟨(some 24), none, (.iaddr 13 (.tmp 22) (.tmp 23))⟩, ⟨(some 25), none, (.faddr 0 (.tmp 24))⟩, ⟨(some 26), none, (.load true 6 (.tmp 25))⟩, ⟨(some 27), none, (.call false (.fn 64) [(.tmp 21), (.tmp 26)])⟩, ⟨(some 28), none, (.un .not (.tmp 27))⟩, ⟨(some 29), none, (.mov (.tmp 28))⟩, ⟨(some 30), (some (29, false)), (.mov (.tmp 0))⟩, ⟨(some 31), (some (29, false)), (.mov (.tmp 5))⟩, ⟨(some 32), (some (29, false)), (.iaddr 13 (.tmp 30) (.tmp 31))⟩, ⟨(some 33), (some (29, false)), (.faddr 6 (.tmp 32))⟩, ⟨(some 34), (some (29, false)), (.load true 6 (.tmp 33))⟩, ⟨(some 35), (some (29, false)), (.mov (.tmp 1))⟩, ⟨(some 36), (some (29, false)), (.mov (.tmp 5))⟩, ⟨(some 37), (some (29, false)), (.iaddr 13 (.tmp 35) (.tmp 36))⟩, ⟨(some 38), (some (29, false)), (.faddr 6 (.tmp 37))⟩, ⟨(some 39), (some (29, false)), (.load true 6 (.tmp 38))⟩, ⟨(some 40), (some (29, false)), (.call false (.fn 64) [(.tmp 34), (.tmp 39)])⟩, ⟨(some 41), (some (29, false)), (.un .not (.tmp 40))⟩, ⟨(some 42), none, (.pick (.tmp 29) (.cst (.bool true)) (.tmp 41))⟩, ⟨(some 43), none, (.mov (.tmp 42))⟩, ⟨(some 44), (some (43, false)), (.mov (.tmp 0))⟩, ⟨(some 45), (some (43, false)), (.mov (.tmp 5))⟩, ⟨(some 46), (some (43, false)), (.iaddr 13 (.tmp 44) (.tmp 45))⟩, ⟨(some 47), (some (43, false)), (.faddr 12 (.tmp 46))⟩, ⟨(some 48), (some (43, false)), (.load false 1 (.tmp 47))⟩, ⟨(some 49), (some (43, false)), (.mov (.tmp 1))⟩, ⟨(some 50), (some (43, false)), (.mov (.tmp 5))⟩, ⟨(some 51), (some (43, false)), (.iaddr 13 (.tmp 49) (.tmp 50))⟩, ⟨(some 52), (some (43, false)), (.faddr 12 (.tmp 51))⟩, ⟨(some 53), (some (43, false)), (.load false 1 (.tmp 52))⟩, ⟨(some 54), (some (43, false)), (.call false (.fn 51) [(.tmp 48), (.tmp 53)])⟩, ⟨(some 55), (some (43, false)), (.un .not (.tmp 54))⟩, ⟨(some 56), none, (.pick (.tmp 43) (.cst (.bool true)) (.tmp 55))⟩]
def p52_6 : List PO := [⟨(some 4), none, (.mov (.cst (.bool false)))⟩]
def p52_7 : List PO := [⟨(some 15), none, (.mov (.tmp 5))⟩, ⟨(some 16), none, (.bin .add .int (.tmp 15) (.cst (.int .i64 1)))⟩, ⟨(some 5), none, (.mov (.tmp 16))⟩]
def p52_9 : List PO := [⟨(some 4), none, (.mov (.cst (.bool true)))⟩]
def bL52_1 : PC := (.seq (.seq (.ops p52_4) (.cond (.tmp 14) .skip (.exit 0))) (.seq (.block 1 (.seq (.ops p52_5) (.cond (.tmp 56) (.seq (.ops p52_6) .ret) .skip))) (.ops p52_7)))
def cL52_1 : PC := (.keep [0, 1, 5] bL52_1)
def p52 : PFunc := { ntmps := 57, results := [(.tmp 4)], body := (.seq (.ops p52_0) (.seq (.seq (.ops p52_1) (.cond (.tmp 10) (.seq (.ops p52_2) .ret) .skip)) (.seq (.seq (.ops p52_3) (.block 0 (.loop cL52_1))) (.seq (.ops p52_9) .ret)))), keep := [(false, [(some 13)]), (false, [(some 13)])], keepr := [(false, [none])] }
theorem c52 : compF Tryd.prog Tryd.f52 [] [] = some { p52 with body := p52.body.erase, keep := [(false, [(some 13)]), (false, [(some 13)])], keepr := [(false, [none])] } := by kernel_rfl
theorem fok52 : FuncOK Tryd.prog 52 p52 := ⟨Tryd.f52, [], [], _, _, Tryd.func52, by kernel_rfl, c52⟩
/-! isochroneref08.SamePath -/
def p53_0 : List PO := [⟨(some 4), none, (.mov (.cst (.bool false)))⟩]
def p53_1 : List PO := [⟨(some 6), none, (.mov (.tmp 0))⟩, ⟨(some 7), none, (.len .slice (.tmp 6))⟩, ⟨(some 8), none, (.mov (.tmp 1))⟩, ⟨(some 9), none, (.len .slice (.tmp 8))⟩, ⟨(some 10), none, (.bin .neq .int (.tmp 7) (.tmp 9))⟩]
def p53_2 : List PO := [⟨(some 4), none, (.mov (.cst (.bool false)))⟩]
def p53_3 : List PO := [⟨(some 5), none, (.mov (.cst (.int .i64 0)))⟩]
def p53_4 : List PO := [⟨(some 11), none, (.mov (.tmp 5))⟩, ⟨(some 12), none, (.mov (.tmp 0))⟩, ⟨(some 13), none, (.len .slice (.tmp 12))⟩, ⟨(some 14), none, (.bin .lss .int (.tmp 11) (.tmp 13))⟩]
def p53_5 : List PO := [⟨(some 17), none, (.mov (.tmp 0))⟩, ⟨(some 18), none, (.mov (.tmp 5))⟩, ⟨(some 19), none, (.iaddr 1 (.tmp 17) (.tmp 18))⟩, ⟨(some 20), none, (.load false 1 (.tmp 19))⟩, ⟨(some 21), none, (.mov (.tmp 1))⟩, ⟨(some 22), none, (.mov (.tmp 5))⟩, ⟨(some 23), none, (.iaddr 1 (.tmp 21) (.tmp 22))⟩, ⟨(some 24), none, (.load false 1 (.tmp 23))⟩, ⟨(some 25), none, (.bin .neq .int (.tmp 20) (.tmp 24))⟩]
def p53_6 : List PO := [⟨(some 4), none, (.mov (.cst (.bool false)))⟩]
def p53_7 : List PO := [⟨(some 15), none, (.mov (.tmp 5))⟩, ⟨(some 16), none, (.bin .add .int (.tmp 15) (.cst (.int .i64 1)))⟩, ⟨(some 5), none, (.mov (.tmp 16))⟩]
def p53_9 : List PO := [⟨(some 4), none, (.mov (.cst (.bool true)))⟩]
def bL53_1 : PC := (.seq (.seq (.ops p53_4) (.cond (.tmp 14) .skip (.exit 0))) (.seq (.block 1 (.seq (.ops p53_5) (.cond (.tmp 25) (.seq (.ops p53_6) .ret) .skip))) (.ops p53_7)))
def cL53_1 : PC := (.keep [0, 1, 5] bL53_1)
def p53 : PFunc := { ntmps := 26, results := [(.tmp 4)], body := (.seq (.ops p53_0) (.seq (.seq (.ops p53_1) (.cond (.tmp 10) (.seq (.ops p53_2) .ret) .skip)) (.seq (.seq (.ops p53_3) (.block 0 (.loop cL53_1))) (.seq (.ops p53_9) .ret)))), keep := [(false, [(some 1)]), (false, [(some 1)])], keepr := [(false, [none])] }
theorem c53 : compF Tryd.prog Tryd.f53 [] [] = some { p53 with body := p53.body.erase, keep := [(false, [(some 1)]), (false, [(some 1)])], keepr := [(false, [none])] } := by kernel_rfl
theorem fok53 : FuncOK Tryd.prog 53 p53 := ⟨Tryd.f53, [], [], _, _, Tryd.func53, by kernel_rfl, c53⟩
/-! isochroneref20.SameCert -/
def p54_0 : List PO := [⟨(some 2), none, (.box (.tmp 0))⟩, ⟨(some 3), none, (.box (.tmp 1))⟩, ⟨(some 4), none, (.mov (.cst (.bool false)))⟩]
def p54_1 : List PO := [⟨(some 8), none, (.faddr 0 (.tmp 2))⟩, ⟨(some 9), none, (.load false 1 (.tmp 8))⟩, ⟨(some 10), none, (.faddr 0 (.tmp 3))⟩, ⟨(some 11), none, (.load false 1 (.tmp 10))⟩, ⟨(some 12), none, (.bin .neq .int (.tmp 9) (.tmp 11))⟩, ⟨(some 13), none, (.mov (.tmp 12))⟩, ⟨(some 14), (some (13, false)), (.faddr 1 (.tmp 2))⟩, ⟨(some 15), (some (13, false)), (.load false 1 (.tmp 14))⟩, ⟨(some 16), (some (13, false)), (.faddr 1 (.tmp 3))⟩, ⟨(some 17), (some (13, false)), (.load false 1 (.tmp 16))⟩, ⟨(some 18), (some (13, false)), (.call false (.fn 65) [(.tmp 15), (.tmp 17)])⟩, ⟨(some 19), (some (13, false)), (.un .not (.tmp 18))⟩, ⟨(some 20), none, (.pick (.tmp 13) (.cst (.bool true)) (.tmp 19))⟩, ⟨(some 21), none, (.mov (.tmp 20))⟩, ⟨(some 22), (some (21, false)), (.faddr 2 (.tmp 2))⟩, ⟨(some 23), (some (21, false)), (.load false 1 (.tmp 22))⟩, ⟨(some 24), (some (21, false)), (.len .slice (.tmp 23))⟩, ⟨(some 25), (some (21, false)), (.faddr 2 (.tmp 3))⟩, ⟨(some 26), (some (21, false)), (.load false 1 (.tmp 25))⟩, ⟨(some 27), (some (21, false)), (.len .slice (.tmp 26))⟩, ⟨(some 28), (some (21, false)), (.bin .neq .int (.tmp 24) (.tmp 27))⟩, ⟨(some 29), none, (.pick (.tmp 21) (.cst (.bool true)) (.tmp 28))⟩, ⟨(some 30), none, (.mov (.tmp 29))⟩, ⟨(some 31), (some (30, false)), (.faddr 3 (.tmp 2))⟩, ⟨(some 32), (some (30, false)), (.load false 1 (.tmp 31))⟩, ⟨(some 33), (some (30, false)), (.len .slice (.tmp 32))⟩, ⟨(some 34), (some (30, false)), (.faddr 3 (.tmp 3))⟩, ⟨(some 35), (some (30, false)), (.load false 1 (.tmp 34))⟩, ⟨(some 36), (some (30, false)), (.len .slice (.tmp 35))⟩, ⟨(some 37), (some (30, false)), (.bin .neq .int (.tmp 33) (.tmp 36))⟩, ⟨(some 38), none, (.pick (.tmp 30) (.cst (.bool true)) (.tmp 37))⟩, ⟨(some 39), none, (.mov (.tmp 38))⟩, ⟨(some 40), (some (39, false)), (.faddr 4 (.tmp 2))⟩, ⟨(some 41), (some (39, false)), (.load false 1 (.tmp 40))⟩, ⟨(some 42), (some (39, false)), (.len .slice (.tmp 41))⟩, ⟨(some 43), (some (39, false)), (.faddr 4 (.tmp 3))⟩, ⟨(some 44), (some (39, false)), (.load false 1 (.tmp 43))⟩, ⟨(some 45), (some (39, false)), (.len .slice (.tmp 44))⟩, ⟨(some 46), (some (39, false)), (.bin .neq .int (.tmp 42) (.tmp 45))⟩, ⟨(some 47), none, (.pick (.tmp 39) (.cst (.bool true)) (.tmp 46))⟩]
def p54_2 : List PO := [⟨(some 4), none, (.mov (.cst (.bool false)))⟩]
def p54_3 : List PO := [⟨(some 5), none, (.mov (.cst (.int .i64 0)))⟩]
def p54_4 : List PO := [⟨(some 48), none, (.mov (.tmp 5))⟩, ⟨(some 49), none, (.faddr 2 (.tmp 2))⟩, ⟨(some 50), none, (.load false 1 (.tmp 49))⟩, ⟨(some 51), none, (.len .slice (.tmp 50))⟩, ⟨(some 52), none, (.bin .lss .int (.tmp 48) (.tmp 51))⟩]
def p54_5 : List PO := [⟨(some 55), none, (.faddr 2 (.tmp 2))⟩, ⟨(some 56), none, (.load false 1 (.tmp 55))⟩, ⟨(some 57), none, (.mov (.tmp 5))⟩, ⟨(some 58), none, (.iaddr 2 (.tmp 56) (.tmp 57))⟩, ⟨(some 59), none, (.load true 2 (.tmp 58))⟩, ⟨(some 60), none, (.faddr 2 (.tmp 3))⟩, ⟨(some 61), none, (.load false 1 (.tmp 60))⟩, ⟨(some 62), none, (.mov (.tmp 5))⟩, ⟨(some 63), none, (.iaddr 2 (.tmp 61) (.tmp 62))⟩, ⟨(some 64), none, (.load true 2 (.tmp 63))⟩, ⟨(some 65), none, (.call false (.fn 66) [(.tmp 59), (.tmp 64)])⟩, ⟨(some 66), none, (.un .not (.tmp 65))⟩]
def p54_6 : List PO := [⟨(some 4), none, (.mov (.cst (.bool false)))⟩]
def p54_7 : List PO := [⟨(some 53), none, (.mov (.tmp 5))⟩, ⟨(some 54), none, (.bin .add .int (.tmp 53) (.cst (.int .i64 1)))⟩, ⟨(some 5), none, (.mov (.tmp 54))⟩]
def p54_9 : List PO := [⟨(some 6), none, (.mov (.cst (.int .i64 0)))⟩]
def p54_10 : List PO := [⟨(some 67), none, (.mov (.tmp 6))⟩, ⟨(some 68), none, (.faddr 3 (.tmp 2))⟩, ⟨(some 69), none, (.load false 1 (.tmp 68))⟩, ⟨(some 70), none, (.len .slice (.tmp 69))⟩, ⟨(some 71), none, (.bin .lss .int (.tmp 67) (.tmp 70))⟩]
def p54_11 : List PO := [⟨(some 74), none, (.faddr 3 (.tmp 2))⟩, ⟨(some 75), none, (.load false 1 (.tmp 74))⟩, ⟨(some 76), none, (.mov (.tmp 6))⟩, ⟨(some 77), none, (.iaddr 5 (.tmp 75) (.tmp 76))⟩, ⟨(some 78), none, (.faddr 0 (.tmp 77))⟩, ⟨(some 79), none, (.load true 3 (.tmp 78))⟩, ⟨(some 80), none, (.faddr 3 (.tmp 3))⟩, ⟨(some 81), none, (.load false 1 (.tmp 80))⟩, ⟨(some 82), none, (.mov (.tmp 6))⟩, ⟨(some 83), none, (.iaddr 5 (.tmp 81) (.tmp 82))⟩, ⟨(some 84), none, (.faddr 0 (.tmp 83))⟩, ⟨(some 85), none, (.load true 3 (.tmp 84))⟩, ⟨(some 86), none, (.call false (.fn 67) [(.tmp 79), (.tmp 85)])⟩, ⟨(some 87), none, (.un .not (.tmp 86))⟩, ⟨(some 88), none, (.mov (.tmp 87))⟩, ⟨(some 89), (some (88, false)), (.faddr 3 (.tmp 2))⟩, ⟨(some 90), (some (88, false)), (.load false 1 (.tmp 89))⟩, ⟨(some 91), (some (88, false)), (.mov (.tmp 6))⟩, ⟨(some 92), (some (88, false)), (.iaddr 5 (.tmp 90) (.tmp 91))⟩, ⟨(some 93), (some (88, false)), (.faddr 3 (.tmp 92))⟩, ⟨(some 94), (some (88, false)), (.load true 2 (.tmp 93))⟩, ⟨(some 95), (some (88, false)), (.faddr 3 (.tmp 3))⟩, ⟨(some 96), (some (88, false)), (.load false 1 (.tmp 95))⟩, ⟨(some 97), (some (88, false)), (.mov (.tmp 6))⟩, ⟨(some 98), (some (88, false)), (.iaddr 5 (.tmp 96) (.tmp 97))⟩, ⟨(some 99), (some (88, false)), (.faddr 3 (.tmp 98))⟩, ⟨(some 100), (some (88, false)), (.load true 2 (.tmp 99))⟩, ⟨(some 101), (some (88, false)), (.call false (.fn 66) [(.tmp 94), (.tmp 100)])⟩, ⟨(some 102), (some (88, false)), (.un .not (.tmp 101))⟩, ⟨(some 103), none, (.pick (.tmp 88) (.cst (.bool true)) (.tmp 102))⟩]
def p54_12 : List PO := [⟨(some 4), none, (.mov (.cst (.bool false)))⟩]
def p54_13 : List PO := [⟨(some 72), none, (.mov (.tmp 6))⟩, ⟨(some 73), none, (.bin .add .int (.tmp 72) (.cst (.int .i64 1)))⟩, ⟨(some 6), none, (.mov (.tmp 73))⟩]
def p54_15 : List PO := [⟨(some 7), none, (.mov (.cst (.int .i64 0)))⟩]
def p54_16 : List PO := [⟨(some 104), none, (.mov (.tmp 7))⟩, ⟨(some 105), none, (.faddr 4 (.tmp 2))⟩, ⟨(some 106), none, (.load false 1 (.tmp 105))⟩, ⟨(some 107), none, (.len .slice (.tmp 106))⟩, ⟨(some 108), none, (.bin .lss .int (.tmp 104) (.tmp 107))⟩]
def p54_17 : List PO := [⟨(some 111), none, (.faddr 4 (.tmp 2))⟩, ⟨(some 112), none, (.load false 1 (.tmp 111))⟩, ⟨(some 113), none, (.mov (.tmp 7))⟩, ⟨(some 114), none, (.iaddr 5 (.tmp 112) (.tmp 113))⟩, ⟨(some 115), none, (.load true 5 (.tmp 114))⟩, ⟨(some 116), none, (.faddr 4 (.tmp 3))⟩, ⟨(some 117), none, (.load false 1 (.tmp 116))⟩, ⟨(some 118), none, (.mov (.tmp 7))⟩, ⟨(some 119), none, (.iaddr 5 (.tmp 117) (.tmp 118))⟩, ⟨(some 120), none, (.load true 5 (.tmp 119))⟩, ⟨(some 121), none, (.call false (.fn 54) [(.tmp 115), (.tmp 120)])⟩, ⟨(some 122), none, (.un .not (.tmp 121))⟩]
def p54_18 : List PO := [⟨(some 4), none, (.mov (.cst (.bool false)))⟩]
def p54_19 : List PO := [⟨(some 109), none, (.mov (.tmp 7))⟩, ⟨(some 110), none, (.bin .add .int (.tmp 109) (.cst (.int .i64 1)))⟩, ⟨(some 7), none, (.mov (.tmp 110))⟩]
def p54_21 : List PO := [⟨(some 4), none, (.mov (.cst (.bool true)))⟩]
def bL54_4 : PC := (.seq (.seq (.ops p54_4) (.cond (.tmp 52) .skip (.exit 0))) (.seq (.block 1 (.seq (.ops p54_5) (.cond (.tmp 66) (.seq (.ops p54_6) .ret) .skip))) (.ops p54_7)))
def cL54_4 : PC := (.keep [2, 3, 5] bL54_4)
def bL54_2 : PC := (.seq (.seq (.ops p54_10) (.cond (.tmp 71) .skip (.exit 2))) (.seq (.block 3 (.seq (.ops p54_11) (.cond (.tmp 103) (.seq (.ops p54_12) .ret) .skip))) (.ops p54_13)))
def cL54_2 : PC := (.keep [2, 3, 6] bL54_2)
def bL54_1 : PC := (.seq (.seq (.ops p54_16) (.cond (.tmp 108) .skip (.exit 4))) (.seq (.block 5 (.seq (.ops p54_17) (.cond (.tmp 122) (.seq (.ops p54_18) .ret) .skip))) (.ops p54_19)))
def cL54_1 : PC := (.keep [2, 3, 7] bL54_1)
def cJ54_3 : PC := (.seq (.seq (.ops p54_15) (.block 4 (.loop cL54_1))) (.seq (.ops p54_21) .ret))
def cJ54_5 : PC := (.seq (.seq (.ops p54_9) (.block 2 (.loop cL54_2))) (.keep [2, 3] cJ54_3))
def p54 : PFunc := { ntmps := 123, results := [(.tmp 4)], body := (.seq (.ops p54_0) (.seq (.seq (.ops p54_1) (.cond (.tmp 47) (.seq (.ops p54_2) .ret) .skip)) (.seq (.seq (.ops p54_3) (.block 0 (.loop cL54_4))) (.keep [2, 3] cJ54_5)))), keep := [(false, [none, (some 3), (some 2), (some 5), (some 5)]), (false, [none, (some 3), (some 2), (some 5), (some 5)])], keepr := [(false, [none])] }
theorem c54 : compF Tryd.prog Tryd.f54 [] [] = some { p54 with body := p54.body.erase, keep := [(false, [none, (some 3), (some 2), (some 5), (some 5)]), (false, [none, (some 3), (some 2), (some 5), (some 5)])], keepr := [(false, [none])] } := by kernel_rfl
theorem fok54 : FuncOK Tryd.prog 54 p54 := ⟨Tryd.f54, [], [], _, _, Tryd.func54, by kernel_rfl, c54⟩
/-! isochroneref08.Sort -/
def p56_0 : List PO := [⟨(some 2), none, (.mov (.cst (.int .i64 0)))⟩]
def p56_1 : List PO := [⟨(some 4), none, (.mov (.tmp 0))⟩, ⟨(some 5), none, (.bin .geq .int (.tmp 4) (.cst (.int .i64 1)))⟩, ⟨(some 6), none, (.mov (.tmp 5))⟩, ⟨(some 7), (some (6, true)), (.mov (.tmp 0))⟩, ⟨(some 8), (some (6, true)), (.bin .leq .int (.tmp 7) (.cst (.int .i64 13)))⟩, ⟨(some 9), none, (.pick (.tmp 6) (.tmp 8) (.cst (.bool false)))⟩, ⟨(some 3), none, (.mov (.tmp 9))⟩]
def p56_2 : List PO := [⟨(some 2), none, (.mov (.cst (.int .i64 1)))⟩]
def p56_3 : List PO := [⟨(some 11), none, (.mov (.tmp 0))⟩, ⟨(some 12), none, (.bin .geq .int (.tmp 11) (.cst (.int .i64 20)))⟩, ⟨(some 13), none, (.mov (.tmp 12))⟩, ⟨(some 14), (some (13, true)), (.mov (.tmp 0))⟩, ⟨(some 15), (some (13, true)), (.bin .leq .int (.tmp 14) (.cst (.int .i64 39)))⟩, ⟨(some 16), none, (.pick (.tmp 13) (.tmp 15) (.cst (.bool false)))⟩, ⟨(some 10), none, (.mov (.tmp 16))⟩]
def p56_4 : List PO := [⟨(some 2), none, (.mov (.cst (.int .i64 2)))⟩]
def p56_5 : List PO := [⟨(some 18), none, (.mov (.tmp 0))⟩, ⟨(some 19), none, (.bin .eql .int (.tmp 18) (.cst (.int .i64 55)))⟩, ⟨(some 20), none, (.mov (.tmp 19))⟩, ⟨(some 21), (some (20, false)), (.mov (.tmp 0))⟩, ⟨(some 22), (some (20, false)), (.bin .eql .int (.tmp 21) (.cst (.int .i64 56)))⟩, ⟨(some 23), none, (.pick (.tmp 20) (.cst (.bool true)) (.tmp 22))⟩, ⟨(some 17), none, (.mov (.tmp 23))⟩]
def p56_6 : List PO := [⟨(some 2), none, (.mov (.cst (.int .i64 4)))⟩]
def p56_7 : List PO := [⟨(some 25), none, (.mov (.tmp 0))⟩, ⟨(some 26), none, (.bin .geq .int (.tmp 25) (.cst (.int .i64 50)))⟩, ⟨(some 27), none, (.mov (.tmp 26))⟩, ⟨(some 28), (some (27, true)), (.mov (.tmp 0))⟩, ⟨(some 29), (some (27, true)), (.bin .leq .int (.tmp 28) (.cst (.int .i64 62)))⟩, ⟨(some 30), none, (.pick (.tmp 27) (.tmp 29) (.cst (.bool false)))⟩, ⟨(some 24), none, (.mov (.tmp 30))⟩]
def p56_8 : List PO := [⟨(some 2), none, (.mov (.cst (.int .i64 3)))⟩]
def p56_9 : List PO := [⟨(some 2), none, (.mov (.cst (.int .i64 0)))⟩]
def p56 : PFunc := { ntmps := 31, results := [(.tmp 2)], body := (.seq (.ops p56_0) (.seq (.block 0 (.seq (.ops p56_1) (.cond (.tmp 3) (.seq (.ops p56_2) .ret) (.seq (.ops p56_3) (.cond (.tmp 10) (.seq (.ops p56_4) .ret) (.seq (.ops p56_5) (.cond (.tmp 17) (.seq (.ops p56_6) .ret) (.seq (.ops p56_7) (.cond (.tmp 24) (.seq (.ops p56_8) .ret) .skip))))))))) (.seq (.ops p56_9) .ret))), keep := [(false, [none])], keepr := [(false, [none])] }
theorem c56 : compF Tryd.prog Tryd.f56 [] [] = some { p56 with body := p56.body.erase, keep := [(false, [none])], keepr := [(false, [none])] } := by kernel_rfl
theorem fok56 : FuncOK Tryd.prog 56 p56 := ⟨Tryd.f56, [], [], _, _, Tryd.func56, by kernel_rfl, c56⟩
/-! isochroneref20.degree -/
def p57_0 : List PO := [⟨(some 1), none, (.box (.tmp 0))⟩, ⟨(some 2), none, (.mov (.cst (.int .i64 0)))⟩]
def p57_1 : List PO := [⟨(some 3), none, (.mov (.cst (.int .i64 0)))⟩]
def p57_2 : List PO := [⟨(some 4), none, (.mov (.cst (.int .i64 0)))⟩]
def p57_3 : List PO := [⟨(some 7), none, (.mov (.tmp 4))⟩, ⟨(some 8), none, (.faddr 5 (.tmp 1))⟩, ⟨(some 9), none, (.load false 1 (.tmp 8))⟩, ⟨(some 10), none, (.len .slice (.tmp 9))⟩, ⟨(some 11), none, (.bin .lss .int (.tmp 7) (.tmp 10))⟩]
def p57_4 : List PO := [⟨(some 14), none, (.faddr 5 (.tmp 1))⟩, ⟨(some 15), none, (.load false 1 (.tmp 14))⟩, ⟨(some 16), none, (.mov (.tmp 4))⟩, ⟨(some 17), none, (.iaddr 6 (.tmp 15) (.tmp 16))⟩, ⟨(some 18), none, (.load true 6 (.tmp 17))⟩, ⟨(some 19), none, (.call false (.fn 57) [(.tmp 18)])⟩, ⟨(some 5), none, (.mov (.tmp 19))⟩]
def p57_5 : List PO := [⟨(some 24), none, (.faddr 0 (.tmp 1))⟩, ⟨(some 25), none, (.load false 1 (.tmp 24))⟩, ⟨(some 26), none, (.bin .eql .int (.tmp 25) (.cst (.int .i64 7)))⟩, ⟨(some 23), none, (.mov (.tmp 26))⟩]
def p57_6 : List PO := [⟨(some 27), none, (.mov (.tmp 3))⟩, ⟨(some 28), none, (.mov (.tmp 5))⟩, ⟨(some 29), none, (.bin .add .int (.tmp 27) (.tmp 28))⟩, ⟨(some 30), none, (.mn [(.cst (.int .i64 1000)), (.tmp 29)])⟩, ⟨(some 3), none, (.mov (.tmp 30))⟩]
def p57_7 : List PO := [⟨(some 32), none, (.faddr 0 (.tmp 1))⟩, ⟨(some 33), none, (.load false 1 (.tmp 32))⟩, ⟨(some 34), none, (.bin .eql .int (.tmp 33) (.cst (.int .i64 9)))⟩, ⟨(some 35), none, (.mov (.tmp 34))⟩, ⟨(some 36), (some (35, true)), (.mov (.tmp 4))⟩, ⟨(some 37), (some (35, true)), (.bin .eql .int (.tmp 36) (.cst (.int .i64 1)))⟩, ⟨(some 38), none, (.pick (.tmp 35) (.tmp 37) (.cst (.bool false)))⟩, ⟨(some 31), none, (.mov (.tmp 38))⟩]
def p57_8 : List PO := [⟨(some 39), none, (.faddr 5 (.tmp 1))⟩, ⟨(some 40), none, (.load false 1 (.tmp 39))⟩, ⟨(some 41), none, (.iaddr 6 (.tmp 40) (.cst (.int .i64 1)))⟩, ⟨(some 42), none, (.faddr 2 (.tmp 41))⟩, ⟨(some 43), none, (.load true 3 (.tmp 42))⟩, ⟨(some 44), none, (.call false (.fn 70) [(.tmp 43), (.cst (.int .i64 20))])⟩, ⟨(some 6), none, (.mov (.tmp 44))⟩]
def p57_9 : List PO := [⟨(some 45), none, (.mov (.tmp 6))⟩, ⟨(some 46), none, (.bin .lss .int (.tmp 45) (.cst (.int .i64 0)))⟩]
def p57_10 : List PO := [⟨(some 6), none, (.mov (.cst (.int .i64 1000)))⟩]
def p57_11 : List PO := [⟨(some 47), none, (.mov (.tmp 3))⟩, ⟨(some 48), none, (.mx [(.cst (.int .i64 1)), (.tmp 47)])⟩, ⟨(some 49), none, (.mov (.tmp 6))⟩, ⟨(some 50), none, (.bin .mul .int (.tmp 48) (.tmp 49))⟩, ⟨(some 51), none, (.mn [(.cst (.int .i64 1000)), (.tmp 50)])⟩, ⟨(some 3), none, (.mov (.tmp 51))⟩]
def p57_12 : List PO := [⟨(some 20), none, (.mov (.tmp 3))⟩, ⟨(some 21), none, (.mov (.tmp 5))⟩, ⟨(some 22), none, (.mx [(.tmp 20), (.tmp 21)])⟩, ⟨(some 3), none, (.mov (.tmp 22))⟩]
def p57_13 : List PO := [⟨(some 12), none, (.mov (.tmp 4))⟩, ⟨(some 13), none, (.bin .add .int (.tmp 12) (.cst (.int .i64 1)))⟩, ⟨(some 4), none, (.mov (.tmp 13))⟩]
def p57_15 : List PO := [⟨(some 52), none, (.faddr 0 (.tmp 1))⟩, ⟨(some 53), none, (.load false 1 (.tmp 52))⟩, ⟨(some 54), none, (.bin .eql .int (.tmp 53) (.cst (.int .i64 2)))⟩, ⟨(some 55), none, (.mov (.tmp 54))⟩, ⟨(some 56), (some (55, false)), (.faddr 0 (.tmp 1))⟩, ⟨(some 57), (some (55, false)), (.load false 1 (.tmp 56))⟩, ⟨(some 58), (some (55, false)), (.bin .eql .int (.tmp 57) (.cst (.int .i64 3)))⟩, ⟨(some 59), none, (.pick (.tmp 55) (.cst (.bool true)) (.tmp 58))⟩, ⟨(some 60), none, (.mov (.tmp 59))⟩, ⟨(some 61), (some (60, false)), (.faddr 0 (.tmp 1))⟩, ⟨(some 62), (some (60, false)), (.load false 1 (.tmp 61))⟩, ⟨(some 63), (some (60, false)), (.bin .eql .int (.tmp 62) (.cst (.int .i64 10)))⟩, ⟨(some 64), none, (.pick (.tmp 60) (.cst (.bool true)) (.tmp 63))⟩, ⟨(some 65), none, (.mov (.tmp 64))⟩, ⟨(some 66), (some (65, false)), (.faddr 0 (.tmp 1))⟩, ⟨(some 67), (some (65, false)), (.load false 1 (.tmp 66))⟩, ⟨(some 68), (some (65, false)), (.bin .eql .int (.tmp 67) (.cst (.int .i64 11)))⟩, ⟨(some 69), none, (.pick (.tmp 65) (.cst (.bool true)) (.tmp 68))⟩]
def p57_16 : List PO := [⟨(some 70), none, (.mov (.tmp 3))⟩, ⟨(some 71), none, (.mx [(.tmp 70), (.cst (.int .i64 1))])⟩, ⟨(some 3), none, (.mov (.tmp 71))⟩]
def p57_17 : List PO := [⟨(some 72), none, (.mov (.tmp 3))⟩, ⟨(some 2), none, (.mov (.tmp 72))⟩]
def cJ57_2 : PC := (.ops p57_11)
def bL57_1 : PC := (.seq (.seq (.ops p57_3) (.cond (.tmp 11) .skip (.exit 0))) (.seq (.block 1 (.seq (.ops p57_4) (.block 2 (.seq (.ops p57_5) (.cond (.tmp 23) (.ops p57_6) (.seq (.ops p57_7) (.cond (.tmp 31) (.seq (.ops p57_8) (.seq (.seq (.ops p57_9) (.cond (.tmp 46) (.ops p57_10) .skip)) (.keep [1, 3, 4, 6] cJ57_2))) (.ops p57_12)))))))) (.ops p57_13)))
def cL57_1 : PC := (.keep [1, 3, 4] bL57_1)
def cJ57_3 : PC := (.seq (.seq (.ops p57_15) (.cond (.tmp 69) (.ops p57_16) .skip)) (.seq (.ops p57_17) .ret))
def p57 : PFunc := { ntmps := 73, results := [(.tmp 2)], body := (.seq (.ops p57_0) (.seq (.ops p57_1) (.seq (.seq (.ops p57_2) (.block 0 (.loop cL57_1))) (.keep [1, 3] cJ57_3)))), keep := [(false, [none, none, none, (some 1), (some 1), (some 6)])], keepr := [(false, [none])] }
theorem c57 : compF Tryd.prog Tryd.f57 [] [] = some { p57 with body := p57.body.erase, keep := [(false, [none, none, none, (some 1), (some 1), (some 6)])], keepr := [(false, [none])] } := by kernel_rfl
theorem fok57 : FuncOK Tryd.prog 57 p57 := ⟨Tryd.f57, [], [], _, _, Tryd.func57, by kernel_rfl, c57⟩
/-! proof.ratOf -/
def p58_0 : List PO := [⟨(some 1), none, (.box (.tmp 0))⟩, ⟨(some 2), none, (.new [(.bool false), .nils, .nils])⟩]
def p58_1 : List PO := [⟨(some 3), none, (.faddr 0 (.tmp 1))⟩, ⟨(some 4), none, (.load false 1 (.tmp 3))⟩, ⟨(some 5), none, (.faddr 1 (.tmp 1))⟩, ⟨(some 6), none, (.load false 1 (.tmp 5))⟩, ⟨(some 7), none, (.copy 1 4 (.tmp 6))⟩, ⟨(some 8), none, (.faddr 2 (.tmp 1))⟩, ⟨(some 9), none, (.load false 1 (.tmp 8))⟩, ⟨(some 10), none, (.copy 1 4 (.tmp 9))⟩, ⟨(some 11), none, (.build [(.bool false), .nils, .nils] [(0, (1, (.tmp 4))), (1, (1, (.tmp 7))), (2, (1, (.tmp 10)))])⟩, ⟨none, none, (.store 3 (.tmp 2) (.tmp 11))⟩]
def p58 : PFunc := { ntmps := 12, results := [(.cell 2 true 3)], body := (.seq (.ops p58_0) (.seq (.ops p58_1) .ret)), keep := [(false, [none, (some 1), (some 1)])], keepr := [(false, [none, (some 1), (some 1)])] }
theorem c58 : compF Tryd.prog Tryd.f58 [] [] = some { p58 with body := p58.body.erase, keep := [(false, [none, (some 1), (some 1)])], keepr := [(false, [none, (some 1), (some 1)])] } := by kernel_rfl
theorem fok58 : FuncOK Tryd.prog 58 p58 := ⟨Tryd.f58, [], [], _, _, Tryd.func58, by kernel_rfl, c58⟩
/-! proof.polyOf -/
def p59_0 : List PO := [⟨(some 1), none, (.box (.tmp 0))⟩, ⟨(some 2), none, (.new [(.int .i64 0), .nils])⟩]
def p59_1 : List PO := [⟨(some 6), none, (.faddr 0 (.tmp 1))⟩, ⟨(some 7), none, (.load false 1 (.tmp 6))⟩, ⟨(some 8), none, (.build [(.int .i64 0), .nils] [(0, (1, (.tmp 7)))])⟩, ⟨(some 3), none, (.new [(.int .i64 0), .nils])⟩, ⟨none, none, (.store 2 (.tmp 3) (.tmp 8))⟩]
def p59_2 : List PO := [⟨(some 9), none, (.faddr 1 (.tmp 1))⟩, ⟨(some 10), none, (.load false 1 (.tmp 9))⟩, ⟨(some 11), none, (.len .slice (.tmp 10))⟩, ⟨(some 12), none, (.mov (.cst (.int .i64 0)))⟩]
def p59_3 : List PO := [⟨(some 13), none, (.bin .lss .int (.tmp 12) (.tmp 11))⟩]
def p59_4 : List PO := [⟨(some 14), none, (.iaddr 4 (.tmp 10) (.tmp 12))⟩, ⟨(some 15), none, (.load true 4 (.tmp 14))⟩, ⟨(some 5), none, (.new [.nils, (.bool false), .nils, .nils])⟩, ⟨none, none, (.store 4 (.tmp 5) (.tmp 15))⟩]
def p59_5 : List PO := [⟨(some 16), none, (.faddr 1 (.tmp 3))⟩, ⟨(some 17), none, (.load false 1 (.tmp 16))⟩, ⟨(some 18), none, (.faddr 0 (.tmp 5))⟩, ⟨(some 19), none, (.load false 1 (.tmp 18))⟩, ⟨(some 20), none, (.copy 1 8 (.tmp 19))⟩, ⟨(some 21), none, (.faddr 1 (.tmp 5))⟩, ⟨(some 22), none, (.load true 3 (.tmp 21))⟩, ⟨(some 23), none, (.call true (.fn 58) [(.tmp 22)])⟩, ⟨(some 24), none, (.build [.nils, (.bool false), .nils, .nils] [(0, (1, (.tmp 20))), (1, (3, (.tmp 23)))])⟩, ⟨(some 25), none, (.bslice 4 [(some 1), none, (some 1), (some 1)] [.nils, (.bool false), .nils, .nils] 1 [(0, (.tmp 24))])⟩, ⟨(some 26), none, (.append 91 4 80 (.tmp 17) (.tmp 25))⟩, ⟨(some 27), none, (.faddr 1 (.tmp 3))⟩, ⟨none, none, (.store 1 (.tmp 27) (.tmp 26))⟩]
def p59_6 : List PO := [⟨(some 28), none, (.bin .add .int (.tmp 12) (.cst (.int .i64 1)))⟩, ⟨(some 12), none, (.mov (.tmp 28))⟩]
def p59_8 : List PO := [⟨(some 29), none, (.load true 2 (.tmp 3))⟩, ⟨none, none, (.store 2 (.tmp 2) (.tmp 29))⟩]
def bL59_1 : PC := (.seq (.ops p59_3) (.seq (.cond (.tmp 13) .skip (.exit 0)) (.seq (.block 1 (.seq (.ops p59_4) (.ops p59_5))) (.ops p59_6))))
def cL59_1 : PC := (.keep [2, 3, 10, 11, 12] bL59_1)
def cJ59_2 : PC := (.seq (.ops p59_8) .ret)
def p59 : PFunc := { ntmps := 30, results := [(.cell 2 true 2)], body := (.seq (.ops p59_0) (.seq (.ops p59_1) (.seq (.seq (.ops p59_2) (.block 0 (.loop cL59_1))) (.keep [2, 3] cJ59_2)))), keep := [(false, [none, (some 4)])], keepr := [(false, [none, (some 4)])] }
theorem c59 : compF Tryd.prog Tryd.f59 [] [] = some { p59 with body := p59.body.erase, keep := [(false, [none, (some 4)])], keepr := [(false, [none, (some 4)])] } := by kernel_rfl
theorem fok59 : FuncOK Tryd.prog 59 p59 := ⟨Tryd.f59, [], [], _, _, Tryd.func59, by kernel_rfl, c59⟩
/-! tree.Equal -/
def p61_0 : List PO := [⟨(some 2), none, (.box (.tmp 0))⟩, ⟨(some 3), none, (.box (.tmp 1))⟩, ⟨(some 4), none, (.mov (.cst (.bool false)))⟩]
def p61_1 : List PO := [⟨(some 5), none, (.load true 6 (.tmp 2))⟩, ⟨(some 6), none, (.load true 6 (.tmp 3))⟩, ⟨(some 7), none, (.call false (.fn 72) [(.tmp 5), (.tmp 6)])⟩, ⟨(some 8), none, (.bin .eql .int (.tmp 7) (.cst (.int .i64 0)))⟩, ⟨(some 4), none, (.mov (.tmp 8))⟩]
def p61 : PFunc := { ntmps := 9, results := [(.tmp 4)], body := (.seq (.ops p61_0) (.seq (.ops p61_1) .ret)), keep := [(false, [none, none, none, (some 1), (some 1), (some 6)]), (false, [none, none, none, (some 1), (some 1), (some 6)])], keepr := [(false, [none])] }
theorem c61 : compF Tryd.prog Tryd.f61 [] [] = some { p61 with body := p61.body.erase, keep := [(false, [none, none, none, (some 1), (some 1), (some 6)]), (false, [none, none, none, (some 1), (some 1), (some 6)])], keepr := [(false, [none])] } := by kernel_rfl
theorem fok61 : FuncOK Tryd.prog 61 p61 := ⟨Tryd.f61, [], [], _, _, Tryd.func61, by kernel_rfl, c61⟩
/-! replay.rats -/
def p62_0 : List PO := [⟨(some 2), none, (.box (.tmp 0))⟩, ⟨(some 3), none, (.box (.tmp 1))⟩, ⟨(some 4), none, (.mov (.cst (.bool false)))⟩]
def p62_1 : List PO := [⟨(some 5), none, (.load true 3 (.tmp 2))⟩, ⟨(some 6), none, (.build [(.int .i64 0), (.str []), (.bool false), .nils, .nils, .nils] [(2, (3, (.tmp 5)))])⟩, ⟨(some 7), none, (.load true 3 (.tmp 3))⟩, ⟨(some 8), none, (.build [(.int .i64 0), (.str []), (.bool false), .nils, .nils, .nils] [(2, (3, (.tmp 7)))])⟩, ⟨(some 9), none, (.call false (.fn 61) [(.tmp 6), (.tmp 8)])⟩, ⟨(some 4), none, (.mov (.tmp 9))⟩]
def p62 : PFunc := { ntmps := 10, results := [(.tmp 4)], body := (.seq (.ops p62_0) (.seq (.ops p62_1) .ret)), keep := [(false, [none, (some 1), (some 1)]), (false, [none, (some 1), (some 1)])], keepr := [(false, [none])] }
theorem c62 : compF Tryd.prog Tryd.f62 [] [] = some { p62 with body := p62.body.erase, keep := [(false, [none, (some 1), (some 1)]), (false, [none, (some 1), (some 1)])], keepr := [(false, [none])] } := by kernel_rfl
theorem fok62 : FuncOK Tryd.prog 62 p62 := ⟨Tryd.f62, [], [], _, _, Tryd.func62, by kernel_rfl, c62⟩
/-! replay.polys -/
def p63_0 : List PO := [⟨(some 2), none, (.box (.tmp 0))⟩, ⟨(some 3), none, (.box (.tmp 1))⟩, ⟨(some 4), none, (.mov (.cst (.bool false)))⟩]
def p63_1 : List PO := [⟨(some 7), none, (.faddr 0 (.tmp 2))⟩, ⟨(some 8), none, (.load false 1 (.tmp 7))⟩, ⟨(some 9), none, (.faddr 0 (.tmp 3))⟩, ⟨(some 10), none, (.load false 1 (.tmp 9))⟩, ⟨(some 11), none, (.bin .neq .int (.tmp 8) (.tmp 10))⟩, ⟨(some 12), none, (.mov (.tmp 11))⟩, ⟨(some 13), (some (12, false)), (.faddr 1 (.tmp 2))⟩, ⟨(some 14), (some (12, false)), (.load false 1 (.tmp 13))⟩, ⟨(some 15), (some (12, false)), (.len .slice (.tmp 14))⟩, ⟨(some 16), (some (12, false)), (.faddr 1 (.tmp 3))⟩, ⟨(some 17), (some (12, false)), (.load false 1 (.tmp 16))⟩, ⟨(some 18), (some (12, false)), (.len .slice (.tmp 17))⟩, ⟨(some 19), (some (12, false)), (.bin .neq .int (.tmp 15) (.tmp 18))⟩, ⟨(some 20), none, (.pick (.tmp 12) (.cst (.bool true)) (.tmp 19))⟩]
def p63_2 : List PO := [⟨(some 4), none, (.mov (.cst (.bool false)))⟩]
def p63_3 : List PO := [⟨(some 21), none, (.faddr 1 (.tmp 2))⟩, ⟨(some 22), none, (.load false 1 (.tmp 21))⟩, ⟨(some 23), none, (.len .slice (.tmp 22))⟩, ⟨(some 24), none, (.mov (.cst (.int .i64 0)))⟩]
def p63_4 : List PO := [⟨(some 25), none, (.bin .lss .int (.tmp 24) (.tmp 23))⟩]
def p63_5 : List PO := [⟨(some 26), none, (.mov (.tmp 24))⟩, ⟨(some 27), none, (.iaddr 4 (.tmp 22) (.tmp 24))⟩, ⟨(some 28), none, (.load true 4 (.tmp 27))⟩, ⟨(some 6), none, (.new [.nils, (.bool false), .nils, .nils])⟩, ⟨(some 5), none, (.mov (.tmp 26))⟩, ⟨none, none, (.store 4 (.tmp 6) (.tmp 28))⟩]
def p63_6 : List PO := [⟨(some 29), none, (.faddr 0 (.tmp 6))⟩, ⟨(some 30), none, (.load false 1 (.tmp 29))⟩, ⟨(some 31), none, (.faddr 1 (.tmp 3))⟩, ⟨(some 32), none, (.load false 1 (.tmp 31))⟩, ⟨(some 33), none, (.mov (.tmp 5))⟩, ⟨(some 34), none, (.iaddr 4 (.tmp 32) (.tmp 33))⟩, ⟨(some 35), none, (.faddr 0 (.tmp 34))⟩, ⟨(some 36), none, (.load false 1 (.tmp 35))⟩, ⟨(some 37), none, (.call false (.fn 27) [(.tmp 30), (.tmp 36)])⟩, ⟨(some 38), none, (.un .not (.tmp 37))⟩, ⟨(some 39), none, (.mov (.tmp 38))⟩, ⟨(some 40), (some (39, false)), (.faddr 1 (.tmp 6))⟩, ⟨(some 41), (some (39, false)), (.load true 3 (.tmp 40))⟩, ⟨(some 42), (some (39, false)), (.faddr 1 (.tmp 3))⟩, ⟨(some 43), (some (39, false)), (.load false 1 (.tmp 42))⟩, ⟨(some 44), (some (39, false)), (.mov (.tmp 5))⟩, ⟨(some 45), (some (39, false)), (.iaddr 4 (.tmp 43) (.tmp 44))⟩, ⟨(some 46), (some (39, false)), (.faddr 1 (.tmp 45))⟩, ⟨(some 47), (some (39, false)), (.load true 3 (.tmp 46))⟩, ⟨(some 48), (some (39, false)), (.call false (.fn 62) [(.tmp 41), (.tmp 47)])⟩, ⟨(some 49), (some (39, false)), (.un .not (.tmp 48))⟩, ⟨(some 50), none, (.pick (.tmp 39) (.cst (.bool true)) (.tmp 49))⟩]
def p63_7 : List PO := [⟨(some 4), none, (.mov (.cst (.bool false)))⟩]
def p63_8 : List PO := [⟨(some 51), none, (.bin .add .int (.tmp 24) (.cst (.int .i64 1)))⟩, ⟨(some 24), none, (.mov (.tmp 51))⟩]
def p63_10 : List PO := [⟨(some 4), none, (.mov (.cst (.bool true)))⟩]
def bL63_1 : PC := (.seq (.ops p63_4) (.seq (.cond (.tmp 25) .skip (.exit 0)) (.seq (.block 1 (.seq (.ops p63_5) (.seq (.ops p63_6) (.cond (.tmp 50) (.seq (.ops p63_7) .ret) .skip)))) (.ops p63_8))))
def cL63_1 : PC := (.keep [3, 22, 23, 24] bL63_1)
def p63 : PFunc := { ntmps := 52, results := [(.tmp 4)], body := (.seq (.ops p63_0) (.seq (.seq (.ops p63_1) (.cond (.tmp 20) (.seq (.ops p63_2) .ret) .skip)) (.seq (.seq (.ops p63_3) (.block 0 (.loop cL63_1))) (.seq (.ops p63_10) .ret)))), keep := [(false, [none, (some 4)]), (false, [none, (some 4)])], keepr := [(false, [none])] }
theorem c63 : compF Tryd.prog Tryd.f63 [] [] = some { p63 with body := p63.body.erase, keep := [(false, [none, (some 4)]), (false, [none, (some 4)])], keepr := [(false, [none])] } := by kernel_rfl
theorem fok63 : FuncOK Tryd.prog 63 p63 := ⟨Tryd.f63, [], [], _, _, Tryd.func63, by kernel_rfl, c63⟩
/-! isochroneref08.Equal -/
def p64_0 : List PO := [⟨(some 2), none, (.box (.tmp 0))⟩, ⟨(some 3), none, (.box (.tmp 1))⟩, ⟨(some 4), none, (.mov (.cst (.bool false)))⟩]
def p64_1 : List PO := [⟨(some 5), none, (.load true 6 (.tmp 2))⟩, ⟨(some 6), none, (.load true 6 (.tmp 3))⟩, ⟨(some 7), none, (.call false (.fn 73) [(.tmp 5), (.tmp 6)])⟩, ⟨(some 8), none, (.bin .eql .int (.tmp 7) (.cst (.int .i64 0)))⟩, ⟨(some 4), none, (.mov (.tmp 8))⟩]
def p64 : PFunc := { ntmps := 9, results := [(.tmp 4)], body := (.seq (.ops p64_0) (.seq (.ops p64_1) .ret)), keep := [(false, [none, none, none, (some 1), (some 1), (some 6)]), (false, [none, none, none, (some 1), (some 1), (some 6)])], keepr := [(false, [none])] }
theorem c64 : compF Tryd.prog Tryd.f64 [] [] = some { p64 with body := p64.body.erase, keep := [(false, [none, none, none, (some 1), (some 1), (some 6)]), (false, [none, none, none, (some 1), (some 1), (some 6)])], keepr := [(false, [none])] } := by kernel_rfl
theorem fok64 : FuncOK Tryd.prog 64 p64 := ⟨Tryd.f64, [], [], _, _, Tryd.func64, by kernel_rfl, c64⟩
/-! isochroneref20.sameRats -/
def p65_0 : List PO := [⟨(some 4), none, (.mov (.cst (.bool false)))⟩]
def p65_1 : List PO := [⟨(some 6), none, (.mov (.tmp 0))⟩, ⟨(some 7), none, (.len .slice (.tmp 6))⟩, ⟨(some 8), none, (.mov (.tmp 1))⟩, ⟨(some 9), none, (.len .slice (.tmp 8))⟩, ⟨(some 10), none, (.bin .neq .int (.tmp 7) (.tmp 9))⟩]
def p65_2 : List PO := [⟨(some 4), none, (.mov (.cst (.bool false)))⟩]
def p65_3 : List PO := [⟨(some 5), none, (.mov (.cst (.int .i64 0)))⟩]
def p65_4 : List PO := [⟨(some 11), none, (.mov (.tmp 5))⟩, ⟨(some 12), none, (.mov (.tmp 0))⟩, ⟨(some 13), none, (.len .slice (.tmp 12))⟩, ⟨(some 14), none, (.bin .lss .int (.tmp 11) (.tmp 13))⟩]
def p65_5 : List PO := [⟨(some 17), none, (.mov (.tmp 0))⟩, ⟨(some 18), none, (.mov (.tmp 5))⟩, ⟨(some 19), none, (.iaddr 3 (.tmp 17) (.tmp 18))⟩, ⟨(some 20), none, (.load true 3 (.tmp 19))⟩, ⟨(some 21), none, (.mov (.tmp 1))⟩, ⟨(some 22), none, (.mov (.tmp 5))⟩, ⟨(some 23), none, (.iaddr 3 (.tmp 21) (.tmp 22))⟩, ⟨(some 24), none, (.load true 3 (.tmp 23))⟩, ⟨(some 25), none, (.call false (.fn 67) [(.tmp 20), (.tmp 24)])⟩, ⟨(some 26), none, (.un .not (.tmp 25))⟩]
def p65_6 : List PO := [⟨(some 4), none, (.mov (.cst (.bool false)))⟩]
def p65_7 : List PO := [⟨(some 15), none, (.mov (.tmp 5))⟩, ⟨(some 16), none, (.bin .add .int (.tmp 15) (.cst (.int .i64 1)))⟩, ⟨(some 5), none, (.mov (.tmp 16))⟩]
def p65_9 : List PO := [⟨(some 4), none, (.mov (.cst (.bool true)))⟩]
def bL65_1 : PC := (.seq (.seq (.ops p65_4) (.cond (.tmp 14) .skip (.exit 0))) (.seq (.block 1 (.seq (.ops p65_5) (.cond (.tmp 26) (.seq (.ops p65_6) .ret) .skip))) (.ops p65_7)))
def cL65_1 : PC := (.keep [0, 1, 5] bL65_1)
def p65 : PFunc := { ntmps := 27, results := [(.tmp 4)], body := (.seq (.ops p65_0) (.seq (.seq (.ops p65_1) (.cond (.tmp 10) (.seq (.ops p65_2) .ret) .skip)) (.seq (.seq (.ops p65_3) (.block 0 (.loop cL65_1))) (.seq (.ops p65_9) .ret)))), keep := [(false, [(some 3)]), (false, [(some 3)])], keepr := [(false, [none])] }
theorem c65 : compF Tryd.prog Tryd.f65 [] [] = some { p65 with body := p65.body.erase, keep := [(false, [(some 3)]), (false, [(some 3)])], keepr := [(false, [none])] } := by kernel_rfl
theorem fok65 : FuncOK Tryd.prog 65 p65 := ⟨Tryd.f65, [], [], _, _, Tryd.func65, by kernel_rfl, c65⟩
/-! isochroneref03.Same -/
def p66_0 : List PO := [⟨(some 2), none, (.box (.tmp 0))⟩, ⟨(some 3), none, (.box (.tmp 1))⟩, ⟨(some 4), none, (.mov (.cst (.bool false)))⟩]
def p66_1 : List PO := [⟨(some 9), none, (.faddr 0 (.tmp 2))⟩, ⟨(some 10), none, (.load false 1 (.tmp 9))⟩, ⟨(some 11), none, (.faddr 0 (.tmp 3))⟩, ⟨(some 12), none, (.load false 1 (.tmp 11))⟩, ⟨(some 13), none, (.bin .neq .int (.tmp 10) (.tmp 12))⟩, ⟨(some 14), none, (.mov (.tmp 13))⟩, ⟨(some 15), (some (14, false)), (.faddr 1 (.tmp 2))⟩, ⟨(some 16), (some (14, false)), (.load false 1 (.tmp 15))⟩, ⟨(some 17), (some (14, false)), (.len .slice (.tmp 16))⟩, ⟨(some 18), (some (14, false)), (.faddr 1 (.tmp 3))⟩, ⟨(some 19), (some (14, false)), (.load false 1 (.tmp 18))⟩, ⟨(some 20), (some (14, false)), (.len .slice (.tmp 19))⟩, ⟨(some 21), (some (14, false)), (.bin .neq .int (.tmp 17) (.tmp 20))⟩, ⟨(some 22), none, (.pick (.tmp 14) (.cst (.bool true)) (.tmp 21))⟩]
def p66_2 : List PO := [⟨(some 4), none, (.mov (.cst (.bool false)))⟩]
def p66_3 : List PO := [⟨(some 23), none, (.faddr 1 (.tmp 2))⟩, ⟨(some 24), none, (.load false 1 (.tmp 23))⟩, ⟨(some 25), none, (.len .slice (.tmp 24))⟩, ⟨(some 26), none, (.mov (.cst (.int .i64 0)))⟩]
def p66_4 : List PO := [⟨(some 27), none, (.bin .lss .int (.tmp 26) (.tmp 25))⟩]
def p66_5 : List PO := [⟨(some 28), none, (.mov (.tmp 26))⟩, ⟨(some 29), none, (.iaddr 4 (.tmp 24) (.tmp 26))⟩, ⟨(some 30), none, (.load true 4 (.tmp 29))⟩, ⟨(some 6), none, (.new [.nils, (.bool false), .nils, .nils])⟩, ⟨(some 5), none, (.mov (.tmp 28))⟩, ⟨none, none, (.store 4 (.tmp 6) (.tmp 30))⟩]
def p66_6 : List PO := [⟨(some 31), none, (.faddr 1 (.tmp 3))⟩, ⟨(some 32), none, (.load false 1 (.tmp 31))⟩, ⟨(some 33), none, (.mov (.tmp 5))⟩, ⟨(some 34), none, (.iaddr 4 (.tmp 32) (.tmp 33))⟩, ⟨(some 35), none, (.load true 4 (.tmp 34))⟩, ⟨(some 7), none, (.new [.nils, (.bool false), .nils, .nils])⟩, ⟨none, none, (.store 4 (.tmp 7) (.tmp 35))⟩]
def p66_7 : List PO := [⟨(some 36), none, (.faddr 0 (.tmp 6))⟩, ⟨(some 37), none, (.load false 1 (.tmp 36))⟩, ⟨(some 38), none, (.len .slice (.tmp 37))⟩, ⟨(some 39), none, (.faddr 0 (.tmp 7))⟩, ⟨(some 40), none, (.load false 1 (.tmp 39))⟩, ⟨(some 41), none, (.len .slice (.tmp 40))⟩, ⟨(some 42), none, (.bin .neq .int (.tmp 38) (.tmp 41))⟩, ⟨(some 43), none, (.mov (.tmp 42))⟩, ⟨(some 44), (some (43, false)), (.faddr 1 (.tmp 6))⟩, ⟨(some 45), (some (43, false)), (.load true 3 (.tmp 44))⟩, ⟨(some 46), (some (43, false)), (.faddr 1 (.tmp 7))⟩, ⟨(some 47), (some (43, false)), (.load true 3 (.tmp 46))⟩, ⟨(some 48), (some (43, false)), (.call false (.fn 67) [(.tmp 45), (.tmp 47)])⟩, ⟨(some 49), (some (43, false)), (.un .not (.tmp 48))⟩, ⟨(some 50), none, (.pick (.tmp 43) (.cst (.bool true)) (.tmp 49))⟩]
def p66_8 : List PO := [⟨(some 4), none, (.mov (.cst (.bool false)))⟩]
def p66_9 : List PO := [⟨(some 51), none, (.faddr 0 (.tmp 6))⟩, ⟨(some 52), none, (.load false 1 (.tmp 51))⟩, ⟨(some 53), none, (.len .slice (.tmp 52))⟩, ⟨(some 54), none, (.mov (.cst (.int .i64 0)))⟩]
def p66_10 : List PO := [⟨(some 55), none, (.bin .lss .int (.tmp 54) (.tmp 53))⟩]
def p66_11 : List PO := [⟨(some 56), none, (.mov (.tmp 54))⟩, ⟨(some 8), none, (.mov (.tmp 56))⟩]
def p66_12 : List PO := [⟨(some 57), none, (.faddr 0 (.tmp 6))⟩, ⟨(some 58), none, (.load false 1 (.tmp 57))⟩, ⟨(some 59), none, (.mov (.tmp 8))⟩, ⟨(some 60), none, (.iaddr 1 (.tmp 58) (.tmp 59))⟩, ⟨(some 61), none, (.load false 1 (.tmp 60))⟩, ⟨(some 62), none, (.faddr 0 (.tmp 7))⟩, ⟨(some 63), none, (.load false 1 (.tmp 62))⟩, ⟨(some 64), none, (.mov (.tmp 8))⟩, ⟨(some 65), none, (.iaddr 1 (.tmp 63) (.tmp 64))⟩, ⟨(some 66), none, (.load false 1 (.tmp 65))⟩, ⟨(some 67), none, (.bin .neq .int (.tmp 61) (.tmp 66))⟩]
def p66_13 : List PO := [⟨(some 4), none, (.mov (.cst (.bool false)))⟩]
def p66_14 : List PO := [⟨(some 68), none, (.bin .add .int (.tmp 54) (.cst (.int .i64 1)))⟩, ⟨(some 54), none, (.mov (.tmp 68))⟩]
def p66_16 : List PO := [⟨(some 69), none, (.bin .add .int (.tmp 26) (.cst (.int .i64 1)))⟩, ⟨(some 26), none, (.mov (.tmp 69))⟩]
def p66_18 : List PO := [⟨(some 4), none, (.mov (.cst (.bool true)))⟩]
def bL66_2 : PC := (.seq (.ops p66_10) (.seq (.cond (.tmp 55) .skip (.exit 2)) (.seq (.block 3 (.seq (.ops p66_11) (.seq (.ops p66_12) (.cond (.tmp 67) (.seq (.ops p66_13) .ret) .skip)))) (.ops p66_14))))
def cL66_2 : PC := (.keep [3, 6, 7, 24, 25, 26, 53, 54] bL66_2)
def bL66_1 : PC := (.seq (.ops p66_4) (.seq (.cond (.tmp 27) .skip (.exit 0)) (.seq (.block 1 (.seq (.ops p66_5) (.seq (.ops p66_6) (.seq (.seq (.ops p66_7) (.cond (.tmp 50) (.seq (.ops p66_8) .ret) .skip)) (.seq (.ops p66_9) (.block 2 (.loop cL66_2))))))) (.ops p66_16))))
def cL66_1 : PC := (.keep [3, 24, 25, 26] bL66_1)
def p66 : PFunc := { ntmps := 70, results := [(.tmp 4)], body := (.seq (.ops p66_0) (.seq (.seq (.ops p66_1) (.cond (.tmp 22) (.seq (.ops p66_2) .ret) .skip)) (.seq (.seq (.ops p66_3) (.block 0 (.loop cL66_1))) (.seq (.ops p66_18) .ret)))), keep := [(false, [none, (some 4)]), (false, [none, (some 4)])], keepr := [(false, [none])] }
theorem c66 : compF Tryd.prog Tryd.f66 [] [] = some { p66 with body := p66.body.erase, keep := [(false, [none, (some 4)]), (false, [none, (some 4)])], keepr := [(false, [none])] } := by kernel_rfl
theorem fok66 : FuncOK Tryd.prog 66 p66 := ⟨Tryd.f66, [], [], _, _, Tryd.func66, by kernel_rfl, c66⟩
/-! isochroneref02.Same -/
def p67_0 : List PO := [⟨(some 2), none, (.box (.tmp 0))⟩, ⟨(some 3), none, (.box (.tmp 1))⟩, ⟨(some 4), none, (.mov (.cst (.bool false)))⟩]
def p67_1 : List PO := [⟨(some 5), none, (.faddr 0 (.tmp 2))⟩, ⟨(some 6), none, (.load false 1 (.tmp 5))⟩, ⟨(some 7), none, (.faddr 0 (.tmp 3))⟩, ⟨(some 8), none, (.load false 1 (.tmp 7))⟩, ⟨(some 9), none, (.bin .eql .bool (.tmp 6) (.tmp 8))⟩, ⟨(some 10), none, (.mov (.tmp 9))⟩, ⟨(some 11), (some (10, true)), (.faddr 1 (.tmp 2))⟩, ⟨(some 12), (some (10, true)), (.load false 1 (.tmp 11))⟩, ⟨(some 13), (some (10, true)), (.faddr 1 (.tmp 3))⟩, ⟨(some 14), (some (10, true)), (.load false 1 (.tmp 13))⟩, ⟨(some 15), (some (10, true)), (.call false (.fn 74) [(.tmp 12), (.tmp 14)])⟩, ⟨(some 16), none, (.pick (.tmp 10) (.tmp 15) (.cst (.bool false)))⟩, ⟨(some 17), none, (.mov (.tmp 16))⟩, ⟨(some 18), (some (17, true)), (.faddr 2 (.tmp 2))⟩, ⟨(some 19), (some (17, true)), (.load false 1 (.tmp 18))⟩, ⟨(some 20), (some (17, true)), (.faddr 2 (.tmp 3))⟩, ⟨(some 21), (some (17, true)), (.load false 1 (.tmp 20))⟩, ⟨(some 22), (some (17, true)), (.call false (.fn 74) [(.tmp 19), (.tmp 21)])⟩, ⟨(some 23), none, (.pick (.tmp 17) (.tmp 22) (.cst (.bool false)))⟩, ⟨(some 4), none, (.mov (.tmp 23))⟩]
def p67 : PFunc := { ntmps := 24, results := [(.tmp 4)], body := (.seq (.ops p67_0) (.seq (.ops p67_1) .ret)), keep := [(false, [none, (some 1), (some 1)]), (false, [none, (some 1), (some 1)])], keepr := [(false, [none])] }
theorem c67 : compF Tryd.prog Tryd.f67 [] [] = some { p67 with body := p67.body.erase, keep := [(false, [none, (some 1), (some 1)]), (false, [none, (some 1), (some 1)])], keepr := [(false, [none])] } := by kernel_rfl
theorem fok67 : FuncOK Tryd.prog 67 p67 := ⟨Tryd.f67, [], [], _, _, Tryd.func67, by kernel_rfl, c67⟩
/-! isochroneref08.Natural -/
def p70_0 : List PO := [⟨(some 2), none, (.box (.tmp 0))⟩, ⟨(some 4), none, (.mov (.cst (.int .i64 0)))⟩]
def p70_1 : List PO := [⟨(some 5), none, (.faddr 1 (.tmp 2))⟩, ⟨(some 6), none, (.load false 1 (.tmp 5))⟩, ⟨(some 7), none, (.len .slice (.tmp 6))⟩, ⟨(some 8), none, (.bin .eql .int (.tmp 7) (.cst (.int .i64 0)))⟩]
def p70_2 : List PO := [⟨(some 4), none, (.mov (.cst (.int .i64 0)))⟩]
def p70_3 : List PO := [⟨(some 9), none, (.faddr 1 (.tmp 2))⟩, ⟨(some 10), none, (.load false 1 (.tmp 9))⟩, ⟨(some 11), none, (.len .slice (.tmp 10))⟩, ⟨(some 12), none, (.bin .gtr .int (.tmp 11) (.cst (.int .i64 1)))⟩, ⟨(some 13), none, (.mov (.tmp 12))⟩, ⟨(some 14), (some (13, false)), (.faddr 1 (.tmp 2))⟩, ⟨(some 15), (some (13, false)), (.load false 1 (.tmp 14))⟩, ⟨(some 16), (some (13, false)), (.iaddr 1 (.tmp 15) (.cst (.int .i64 0)))⟩, ⟨(some 17), (some (13, false)), (.load false 1 (.tmp 16))⟩, ⟨(some 18), (some (13, false)), (.toint .i64 (.tmp 17))⟩, ⟨(some 19), (some (13, false)), (.mov (.tmp 1))⟩, ⟨(some 20), (some (13, false)), (.bin .gtr .int (.tmp 18) (.tmp 19))⟩, ⟨(some 21), none, (.pick (.tmp 13) (.cst (.bool true)) (.tmp 20))⟩]
def p70_4 : List PO := [⟨(some 4), none, (.mov (.cst (.int .i64 (-1))))⟩]
def p70_5 : List PO := [⟨(some 22), none, (.faddr 1 (.tmp 2))⟩, ⟨(some 23), none, (.load false 1 (.tmp 22))⟩, ⟨(some 24), none, (.iaddr 1 (.tmp 23) (.cst (.int .i64 0)))⟩, ⟨(some 25), none, (.load false 1 (.tmp 24))⟩, ⟨(some 26), none, (.toint .i64 (.tmp 25))⟩, ⟨(some 4), none, (.mov (.tmp 26))⟩]
def p70 : PFunc := { ntmps := 27, results := [(.tmp 4)], body := (.seq (.ops p70_0) (.seq (.seq (.ops p70_1) (.cond (.tmp 8) (.seq (.ops p70_2) .ret) .skip)) (.seq (.seq (.ops p70_3) (.cond (.tmp 21) (.seq (.ops p70_4) .ret) .skip)) (.seq (.ops p70_5) .ret)))), keep := [(false, [none, (some 1), (some 1)]), (false, [none])], keepr := [(false, [none])] }
theorem c70 : compF Tryd.prog Tryd.f70 [] [] = some { p70 with body := p70.body.erase, keep := [(false, [none, (some 1), (some 1)]), (false, [none])], keepr := [(false, [none])] } := by kernel_rfl
theorem fok70 : FuncOK Tryd.prog 70 p70 := ⟨Tryd.f70, [], [], _, _, Tryd.func70, by kernel_rfl, c70⟩
/-! tree.Compare -/
def p72_0 : List PO := [⟨(some 2), none, (.box (.tmp 0))⟩, ⟨(some 3), none, (.box (.tmp 1))⟩, ⟨(some 4), none, (.mov (.cst (.int .i64 0)))⟩]
def p72_1 : List PO := [⟨(some 10), none, (.faddr 0 (.tmp 2))⟩, ⟨(some 11), none, (.load false 1 (.tmp 10))⟩, ⟨(some 12), none, (.faddr 0 (.tmp 3))⟩, ⟨(some 13), none, (.load false 1 (.tmp 12))⟩, ⟨(some 14), none, (.bin .neq .int (.tmp 11) (.tmp 13))⟩, ⟨(some 9), none, (.mov (.tmp 14))⟩]
def p72_2 : List PO := [⟨(some 15), none, (.faddr 0 (.tmp 2))⟩, ⟨(some 16), none, (.load false 1 (.tmp 15))⟩, ⟨(some 17), none, (.faddr 0 (.tmp 3))⟩, ⟨(some 18), none, (.load false 1 (.tmp 17))⟩, ⟨(some 19), none, (.bin .lss .int (.tmp 16) (.tmp 18))⟩, ⟨(some 20), none, (.call false (.fn 90) [(.tmp 19)])⟩, ⟨(some 4), none, (.mov (.tmp 20))⟩]
def p72_3 : List PO := [⟨(some 22), none, (.faddr 1 (.tmp 2))⟩, ⟨(some 23), none, (.load false 1 (.tmp 22))⟩, ⟨(some 24), none, (.faddr 1 (.tmp 3))⟩, ⟨(some 25), none, (.load false 1 (.tmp 24))⟩, ⟨(some 26), none, (.bin .neq .str (.tmp 23) (.tmp 25))⟩, ⟨(some 21), none, (.mov (.tmp 26))⟩]
def p72_4 : List PO := [⟨(some 27), none, (.faddr 1 (.tmp 2))⟩, ⟨(some 28), none, (.load false 1 (.tmp 27))⟩, ⟨(some 29), none, (.faddr 1 (.tmp 3))⟩, ⟨(some 30), none, (.load false 1 (.tmp 29))⟩, ⟨(some 31), none, (.bin .lss .str (.tmp 28) (.tmp 30))⟩, ⟨(some 32), none, (.call false (.fn 90) [(.tmp 31)])⟩, ⟨(some 4), none, (.mov (.tmp 32))⟩]
def p72_5 : List PO := [⟨(some 34), none, (.faddr 2 (.tmp 2))⟩, ⟨(some 35), none, (.faddr 0 (.tmp 34))⟩, ⟨(some 36), none, (.load false 1 (.tmp 35))⟩, ⟨(some 37), none, (.faddr 2 (.tmp 3))⟩, ⟨(some 38), none, (.faddr 0 (.tmp 37))⟩, ⟨(some 39), none, (.load false 1 (.tmp 38))⟩, ⟨(some 40), none, (.bin .neq .bool (.tmp 36) (.tmp 39))⟩, ⟨(some 33), none, (.mov (.tmp 40))⟩]
def p72_6 : List PO := [⟨(some 41), none, (.faddr 2 (.tmp 3))⟩, ⟨(some 42), none, (.faddr 0 (.tmp 41))⟩, ⟨(some 43), none, (.load false 1 (.tmp 42))⟩, ⟨(some 44), none, (.call false (.fn 90) [(.tmp 43)])⟩, ⟨(some 4), none, (.mov (.tmp 44))⟩]
def p72_7 : List PO := [⟨(some 45), none, (.faddr 2 (.tmp 2))⟩, ⟨(some 46), none, (.faddr 1 (.tmp 45))⟩, ⟨(some 47), none, (.load false 1 (.tmp 46))⟩, ⟨(some 48), none, (.faddr 2 (.tmp 3))⟩, ⟨(some 49), none, (.faddr 1 (.tmp 48))⟩, ⟨(some 50), none, (.load false 1 (.tmp 49))⟩, ⟨(some 51), none, (.call false (.fn 91) [(.tmp 47), (.tmp 50)])⟩, ⟨(some 5), none, (.mov (.tmp 51))⟩]
def p72_8 : List PO := [⟨(some 52), none, (.mov (.tmp 5))⟩, ⟨(some 53), none, (.bin .neq .int (.tmp 52) (.cst (.int .i64 0)))⟩]
def p72_9 : List PO := [⟨(some 54), none, (.mov (.tmp 5))⟩, ⟨(some 4), none, (.mov (.tmp 54))⟩]
def p72_10 : List PO := [⟨(some 55), none, (.faddr 2 (.tmp 2))⟩, ⟨(some 56), none, (.faddr 2 (.tmp 55))⟩, ⟨(some 57), none, (.load false 1 (.tmp 56))⟩, ⟨(some 58), none, (.faddr 2 (.tmp 3))⟩, ⟨(some 59), none, (.faddr 2 (.tmp 58))⟩, ⟨(some 60), none, (.load false 1 (.tmp 59))⟩, ⟨(some 61), none, (.call false (.fn 91) [(.tmp 57), (.tmp 60)])⟩, ⟨(some 6), none, (.mov (.tmp 61))⟩]
def p72_11 : List PO := [⟨(some 62), none, (.mov (.tmp 6))⟩, ⟨(some 63), none, (.bin .neq .int (.tmp 62) (.cst (.int .i64 0)))⟩]
def p72_12 : List PO := [⟨(some 64), none, (.mov (.tmp 6))⟩, ⟨(some 4), none, (.mov (.tmp 64))⟩]
def p72_13 : List PO := [⟨(some 65), none, (.faddr 5 (.tmp 2))⟩, ⟨(some 66), none, (.load false 1 (.tmp 65))⟩, ⟨(some 67), none, (.len .slice (.tmp 66))⟩, ⟨(some 68), none, (.faddr 5 (.tmp 3))⟩, ⟨(some 69), none, (.load false 1 (.tmp 68))⟩, ⟨(some 70), none, (.len .slice (.tmp 69))⟩, ⟨(some 71), none, (.bin .neq .int (.tmp 67) (.tmp 70))⟩]
def p72_14 : List PO := [⟨(some 72), none, (.faddr 5 (.tmp 2))⟩, ⟨(some 73), none, (.load false 1 (.tmp 72))⟩, ⟨(some 74), none, (.len .slice (.tmp 73))⟩, ⟨(some 75), none, (.faddr 5 (.tmp 3))⟩, ⟨(some 76), none, (.load false 1 (.tmp 75))⟩, ⟨(some 77), none, (.len .slice (.tmp 76))⟩, ⟨(some 78), none, (.bin .lss .int (.tmp 74) (.tmp 77))⟩, ⟨(some 79), none, (.call false (.fn 90) [(.tmp 78)])⟩, ⟨(some 4), none, (.mov (.tmp 79))⟩]
def p72_15 : List PO := [⟨(some 80), none, (.faddr 5 (.tmp 2))⟩, ⟨(some 81), none, (.load false 1 (.tmp 80))⟩, ⟨(some 82), none, (.len .slice (.tmp 81))⟩, ⟨(some 83), none, (.mov (.cst (.int .i64 0)))⟩]
def p72_16 : List PO := [⟨(some 84), none, (.bin .lss .int (.tmp 83) (.tmp 82))⟩]
def p72_17 : List PO := [⟨(some 85), none, (.mov (.tmp 83))⟩, ⟨(some 7), none, (.mov (.tmp 85))⟩]
def p72_18 : List PO := [⟨(some 86), none, (.faddr 5 (.tmp 2))⟩, ⟨(some 87), none, (.load false 1 (.tmp 86))⟩, ⟨(some 88), none, (.mov (.tmp 7))⟩, ⟨(some 89), none, (.iaddr 6 (.tmp 87) (.tmp 88))⟩, ⟨(some 90), none, (.load true 6 (.tmp 89))⟩, ⟨(some 91), none, (.faddr 5 (.tmp 3))⟩, ⟨(some 92), none, (.load false 1 (.tmp 91))⟩, ⟨(some 93), none, (.mov (.tmp 7))⟩, ⟨(some 94), none, (.iaddr 6 (.tmp 92) (.tmp 93))⟩, ⟨(some 95), none, (.load true 6 (.tmp 94))⟩, ⟨(some 96), none, (.call false (.fn 72) [(.tmp 90), (.tmp 95)])⟩, ⟨(some 8), none, (.mov (.tmp 96))⟩]
def p72_19 : List PO := [⟨(some 97), none, (.mov (.tmp 8))⟩, ⟨(some 98), none, (.bin .neq .int (.tmp 97) (.cst (.int .i64 0)))⟩]
def p72_20 : List PO := [⟨(some 99), none, (.mov (.tmp 8))⟩, ⟨(some 4), none, (.mov (.tmp 99))⟩]
def p72_21 : List PO := [⟨(some 100), none, (.bin .add .int (.tmp 83) (.cst (.int .i64 1)))⟩, ⟨(some 83), none, (.mov (.tmp 100))⟩]
def p72_23 : List PO := [⟨(some 4), none, (.mov (.cst (.int .i64 0)))⟩]
def bL72_1 : PC := (.seq (.ops p72_16) (.seq (.cond (.tmp 84) .skip (.exit 1)) (.seq (.block 2 (.seq (.ops p72_17) (.seq (.ops p72_18) (.seq (.ops p72_19) (.cond (.tmp 98) (.seq (.ops p72_20) .ret) .skip))))) (.ops p72_21))))
def cL72_1 : PC := (.keep [2, 3, 82, 83] bL72_1)
def p72 : PFunc := { ntmps := 101, results := [(.tmp 4)], body := (.seq (.ops p72_0) (.seq (.block 0 (.seq (.ops p72_1) (.cond (.tmp 9) (.seq (.ops p72_2) .ret) (.seq (.ops p72_3) (.cond (.tmp 21) (.seq (.ops p72_4) .ret) (.seq (.ops p72_5) (.cond (.tmp 33) (.seq (.ops p72_6) .ret) .skip))))))) (.seq (.seq (.ops p72_7) (.seq (.ops p72_8) (.cond (.tmp 53) (.seq (.ops p72_9) .ret) .skip))) (.seq (.seq (.ops p72_10) (.seq (.ops p72_11) (.cond (.tmp 63) (.seq (.ops p72_12) .ret) .skip))) (.seq (.seq (.ops p72_13) (.cond (.tmp 71) (.seq (.ops p72_14) .ret) .skip)) (.seq (.seq (.ops p72_15) (.block 1 (.loop cL72_1))) (.seq (.ops p72_23) .ret))))))), keep := [(false, [none, none, none, (some 1), (some 1), (some 6)]), (false, [none, none, none, (some 1), (some 1), (some 6)])], keepr := [(false, [none])] }
theorem c72 : compF Tryd.prog Tryd.f72 [] [] = some { p72 with body := p72.body.erase, keep := [(false, [none, none, none, (some 1), (some 1), (some 6)]), (false, [none, none, none, (some 1), (some 1), (some 6)])], keepr := [(false, [none])] } := by kernel_rfl
theorem fok72 : FuncOK Tryd.prog 72 p72 := ⟨Tryd.f72, [], [], _, _, Tryd.func72, by kernel_rfl, c72⟩
/-! isochroneref08.Compare -/
def p73_0 : List PO := [⟨(some 2), none, (.box (.tmp 0))⟩, ⟨(some 3), none, (.box (.tmp 1))⟩, ⟨(some 4), none, (.mov (.cst (.int .i64 0)))⟩]
def p73_1 : List PO := [⟨(some 11), none, (.faddr 0 (.tmp 2))⟩, ⟨(some 12), none, (.load false 1 (.tmp 11))⟩, ⟨(some 13), none, (.faddr 0 (.tmp 3))⟩, ⟨(some 14), none, (.load false 1 (.tmp 13))⟩, ⟨(some 15), none, (.call false (.fn 92) [(.tmp 12), (.tmp 14)])⟩, ⟨(some 5), none, (.mov (.tmp 15))⟩]
def p73_2 : List PO := [⟨(some 16), none, (.mov (.tmp 5))⟩, ⟨(some 17), none, (.bin .neq .int (.tmp 16) (.cst (.int .i64 0)))⟩]
def p73_3 : List PO := [⟨(some 18), none, (.mov (.tmp 5))⟩, ⟨(some 4), none, (.mov (.tmp 18))⟩]
def p73_4 : List PO := [⟨(some 19), none, (.faddr 1 (.tmp 2))⟩, ⟨(some 20), none, (.load false 1 (.tmp 19))⟩, ⟨(some 21), none, (.faddr 1 (.tmp 3))⟩, ⟨(some 22), none, (.load false 1 (.tmp 21))⟩, ⟨(some 23), none, (.bin .neq .str (.tmp 20) (.tmp 22))⟩]
def p73_5 : List PO := [⟨(some 24), none, (.faddr 1 (.tmp 2))⟩, ⟨(some 25), none, (.load false 1 (.tmp 24))⟩, ⟨(some 26), none, (.faddr 1 (.tmp 3))⟩, ⟨(some 27), none, (.load false 1 (.tmp 26))⟩, ⟨(some 28), none, (.bin .lss .str (.tmp 25) (.tmp 27))⟩]
def p73_6 : List PO := [⟨(some 4), none, (.mov (.cst (.int .i64 (-1))))⟩]
def p73_7 : List PO := [⟨(some 4), none, (.mov (.cst (.int .i64 1)))⟩]
def p73_8 : List PO := [⟨(some 29), none, (.faddr 2 (.tmp 2))⟩, ⟨(some 30), none, (.faddr 0 (.tmp 29))⟩, ⟨(some 31), none, (.load false 1 (.tmp 30))⟩, ⟨(some 32), none, (.faddr 2 (.tmp 3))⟩, ⟨(some 33), none, (.faddr 0 (.tmp 32))⟩, ⟨(some 34), none, (.load false 1 (.tmp 33))⟩, ⟨(some 35), none, (.bin .neq .bool (.tmp 31) (.tmp 34))⟩]
def p73_9 : List PO := [⟨(some 36), none, (.faddr 2 (.tmp 3))⟩, ⟨(some 37), none, (.faddr 0 (.tmp 36))⟩, ⟨(some 38), none, (.load false 1 (.tmp 37))⟩]
def p73_10 : List PO := [⟨(some 4), none, (.mov (.cst (.int .i64 (-1))))⟩]
def p73_11 : List PO := [⟨(some 4), none, (.mov (.cst (.int .i64 1)))⟩]
def p73_12 : List PO := [⟨(some 39), none, (.faddr 2 (.tmp 2))⟩, ⟨(some 40), none, (.faddr 1 (.tmp 39))⟩, ⟨(some 41), none, (.load false 1 (.tmp 40))⟩, ⟨(some 42), none, (.faddr 2 (.tmp 3))⟩, ⟨(some 43), none, (.faddr 1 (.tmp 42))⟩, ⟨(some 44), none, (.load false 1 (.tmp 43))⟩, ⟨(some 45), none, (.call false (.fn 93) [(.tmp 41), (.tmp 44)])⟩, ⟨(some 6), none, (.mov (.tmp 45))⟩]
def p73_13 : List PO := [⟨(some 46), none, (.mov (.tmp 6))⟩, ⟨(some 47), none, (.bin .neq .int (.tmp 46) (.cst (.int .i64 0)))⟩]
def p73_14 : List PO := [⟨(some 48), none, (.mov (.tmp 6))⟩, ⟨(some 4), none, (.mov (.tmp 48))⟩]
def p73_15 : List PO := [⟨(some 49), none, (.faddr 2 (.tmp 2))⟩, ⟨(some 50), none, (.faddr 2 (.tmp 49))⟩, ⟨(some 51), none, (.load false 1 (.tmp 50))⟩, ⟨(some 52), none, (.faddr 2 (.tmp 3))⟩, ⟨(some 53), none, (.faddr 2 (.tmp 52))⟩, ⟨(some 54), none, (.load false 1 (.tmp 53))⟩, ⟨(some 55), none, (.call false (.fn 93) [(.tmp 51), (.tmp 54)])⟩, ⟨(some 7), none, (.mov (.tmp 55))⟩]
def p73_16 : List PO := [⟨(some 56), none, (.mov (.tmp 7))⟩, ⟨(some 57), none, (.bin .neq .int (.tmp 56) (.cst (.int .i64 0)))⟩]
def p73_17 : List PO := [⟨(some 58), none, (.mov (.tmp 7))⟩, ⟨(some 4), none, (.mov (.tmp 58))⟩]
def p73_18 : List PO := [⟨(some 59), none, (.faddr 5 (.tmp 2))⟩, ⟨(some 60), none, (.load false 1 (.tmp 59))⟩, ⟨(some 61), none, (.len .slice (.tmp 60))⟩, ⟨(some 62), none, (.faddr 5 (.tmp 3))⟩, ⟨(some 63), none, (.load false 1 (.tmp 62))⟩, ⟨(some 64), none, (.len .slice (.tmp 63))⟩, ⟨(some 65), none, (.call false (.fn 92) [(.tmp 61), (.tmp 64)])⟩, ⟨(some 8), none, (.mov (.tmp 65))⟩]
def p73_19 : List PO := [⟨(some 66), none, (.mov (.tmp 8))⟩, ⟨(some 67), none, (.bin .neq .int (.tmp 66) (.cst (.int .i64 0)))⟩]
def p73_20 : List PO := [⟨(some 68), none, (.mov (.tmp 8))⟩, ⟨(some 4), none, (.mov (.tmp 68))⟩]
def p73_21 : List PO := [⟨(some 9), none, (.mov (.cst (.int .i64 0)))⟩]
def p73_22 : List PO := [⟨(some 69), none, (.mov (.tmp 9))⟩, ⟨(some 70), none, (.faddr 5 (.tmp 2))⟩, ⟨(some 71), none, (.load false 1 (.tmp 70))⟩, ⟨(some 72), none, (.len .slice (.tmp 71))⟩, ⟨(some 73), none, (.bin .lss .int (.tmp 69) (.tmp 72))⟩]
def p73_23 : List PO := [⟨(some 76), none, (.faddr 5 (.tmp 2))⟩, ⟨(some 77), none, (.load false 1 (.tmp 76))⟩, ⟨(some 78), none, (.mov (.tmp 9))⟩, ⟨(some 79), none, (.iaddr 6 (.tmp 77) (.tmp 78))⟩, ⟨(some 80), none, (.load true 6 (.tmp 79))⟩, ⟨(some 81), none, (.faddr 5 (.tmp 3))⟩, ⟨(some 82), none, (.load false 1 (.tmp 81))⟩, ⟨(some 83), none, (.mov (.tmp 9))⟩, ⟨(some 84), none, (.iaddr 6 (.tmp 82) (.tmp 83))⟩, ⟨(some 85), none, (.load true 6 (.tmp 84))⟩, ⟨(some 86), none, (.call false (.fn 73) [(.tmp 80), (.tmp 85)])⟩, ⟨(some 10), none, (.mov (.tmp 86))⟩]
def p73_24 : List PO := [⟨(some 87), none, (.mov (.tmp 10))⟩, ⟨(some 88), none, (.bin .neq .int (.tmp 87) (.cst (.int .i64 0)))⟩]
def p73_25 : List PO := [⟨(some 89), none, (.mov (.tmp 10))⟩, ⟨(some 4), none, (.mov (.tmp 89))⟩]
def p73_26 : List PO := [⟨(some 74), none, (.mov (.tmp 9))⟩, ⟨(some 75), none, (.bin .add .int (.tmp 74) (.cst (.int .i64 1)))⟩, ⟨(some 9), none, (.mov (.tmp 75))⟩]
def p73_28 : List PO := [⟨(some 4), none, (.mov (.cst (.int .i64 0)))⟩]
def bL73_1 : PC := (.seq (.seq (.ops p73_22) (.cond (.tmp 73) .skip (.exit 0))) (.seq (.block 1 (.seq (.ops p73_23) (.seq (.ops p73_24) (.cond (.tmp 88) (.seq (.ops p73_25) .ret) .skip)))) (.ops p73_26)))
def cL73_1 : PC := (.keep [2, 3, 9] bL73_1)
def p73 : PFunc := { ntmps := 90, results := [(.tmp 4)], body := (.seq (.ops p73_0) (.seq (.seq (.ops p73_1) (.seq (.ops p73_2) (.cond (.tmp 17) (.seq (.ops p73_3) .ret) .skip))) (.seq (.seq (.ops p73_4) (.cond (.tmp 23) (.seq (.seq (.ops p73_5) (.cond (.tmp 28) (.seq (.ops p73_6) .ret) .skip)) (.seq (.ops p73_7) .ret)) .skip)) (.seq (.seq (.ops p73_8) (.cond (.tmp 35) (.seq (.seq (.ops p73_9) (.cond (.tmp 38) (.seq (.ops p73_10) .ret) .skip)) (.seq (.ops p73_11) .ret)) .skip)) (.seq (.seq (.ops p73_12) (.seq (.ops p73_13) (.cond (.tmp 47) (.seq (.ops p73_14) .ret) .skip))) (.seq (.seq (.ops p73_15) (.seq (.ops p73_16) (.cond (.tmp 57) (.seq (.ops p73_17) .ret) .skip))) (.seq (.seq (.ops p73_18) (.seq (.ops p73_19) (.cond (.tmp 67) (.seq (.ops p73_20) .ret) .skip))) (.seq (.seq (.ops p73_21) (.block 0 (.loop cL73_1))) (.seq (.ops p73_28) .ret))))))))), keep := [(false, [none, none, none, (some 1), (some 1), (some 6)]), (false, [none, none, none, (some 1), (some 1), (some 6)])], keepr := [(false, [none])] }
theorem c73 : compF Tryd.prog Tryd.f73 [] [] = some { p73 with body := p73.body.erase, keep := [(false, [none, none, none, (some 1), (some 1), (some 6)]), (false, [none, none, none, (some 1), (some 1), (some 6)])], keepr := [(false, [none])] } := by kernel_rfl
theorem fok73 : FuncOK Tryd.prog 73 p73 := ⟨Tryd.f73, [], [], _, _, Tryd.func73, by kernel_rfl, c73⟩
/-! slices.Equal[[]uint32,uint32] -/
def p74_0 : List PO := [⟨(some 4), none, (.mov (.cst (.bool false)))⟩]
def p74_1 : List PO := [⟨(some 6), none, (.mov (.tmp 0))⟩, ⟨(some 7), none, (.len .slice (.tmp 6))⟩, ⟨(some 8), none, (.mov (.tmp 1))⟩, ⟨(some 9), none, (.len .slice (.tmp 8))⟩, ⟨(some 10), none, (.bin .neq .int (.tmp 7) (.tmp 9))⟩]
def p74_2 : List PO := [⟨(some 4), none, (.mov (.cst (.bool false)))⟩]
def p74_3 : List PO := [⟨(some 11), none, (.mov (.tmp 0))⟩, ⟨(some 12), none, (.len .slice (.tmp 11))⟩, ⟨(some 13), none, (.mov (.cst (.int .i64 0)))⟩]
def p74_4 : List PO := [⟨(some 14), none, (.bin .lss .int (.tmp 13) (.tmp 12))⟩]
def p74_5 : List PO := [⟨(some 15), none, (.mov (.tmp 13))⟩, ⟨(some 5), none, (.mov (.tmp 15))⟩]
def p74_6 : List PO := [⟨(some 16), none, (.mov (.tmp 0))⟩, ⟨(some 17), none, (.mov (.tmp 5))⟩, ⟨(some 18), none, (.iaddr 1 (.tmp 16) (.tmp 17))⟩, ⟨(some 19), none, (.load false 1 (.tmp 18))⟩, ⟨(some 20), none, (.mov (.tmp 1))⟩, ⟨(some 21), none, (.mov (.tmp 5))⟩, ⟨(some 22), none, (.iaddr 1 (.tmp 20) (.tmp 21))⟩, ⟨(some 23), none, (.load false 1 (.tmp 22))⟩, ⟨(some 24), none, (.bin .neq .int (.tmp 19) (.tmp 23))⟩]
def p74_7 : List PO := [⟨(some 4), none, (.mov (.cst (.bool false)))⟩]
def p74_8 : List PO := [⟨(some 25), none, (.bin .add .int (.tmp 13) (.cst (.int .i64 1)))⟩, ⟨(some 13), none, (.mov (.tmp 25))⟩]
def p74_10 : List PO := [⟨(some 4), none, (.mov (.cst (.bool true)))⟩]
def bL74_1 : PC := (.seq (.ops p74_4) (.seq (.cond (.tmp 14) .skip (.exit 0)) (.seq (.block 1 (.seq (.ops p74_5) (.seq (.ops p74_6) (.cond (.tmp 24) (.seq (.ops p74_7) .ret) .skip)))) (.ops p74_8))))
def cL74_1 : PC := (.keep [0, 1, 12, 13] bL74_1)
def p74 : PFunc := { ntmps := 26, results := [(.tmp 4)], body := (.seq (.ops p74_0) (.seq (.seq (.ops p74_1) (.cond (.tmp 10) (.seq (.ops p74_2) .ret) .skip)) (.seq (.seq (.ops p74_3) (.block 0 (.loop cL74_1))) (.seq (.ops p74_10) .ret)))), keep := [(false, [(some 1)]), (false, [(some 1)])], keepr := [(false, [none])] }
theorem c74 : compF Tryd.prog Tryd.f74 [] [] = some { p74 with body := p74.body.erase, keep := [(false, [(some 1)]), (false, [(some 1)])], keepr := [(false, [none])] } := by kernel_rfl
theorem fok74 : FuncOK Tryd.prog 74 p74 := ⟨Tryd.f74, [], [], _, _, Tryd.func74, by kernel_rfl, c74⟩
/-! tree.less -/
def p90_0 : List PO := [⟨(some 2), none, (.mov (.cst (.int .i64 0)))⟩]
def p90_1 : List PO := [⟨(some 3), none, (.mov (.tmp 0))⟩]
def p90_2 : List PO := [⟨(some 2), none, (.mov (.cst (.int .i64 (-1))))⟩]
def p90_3 : List PO := [⟨(some 2), none, (.mov (.cst (.int .i64 1)))⟩]
def p90 : PFunc := { ntmps := 4, results := [(.tmp 2)], body := (.seq (.ops p90_0) (.seq (.seq (.ops p90_1) (.cond (.tmp 3) (.seq (.ops p90_2) .ret) .skip)) (.seq (.ops p90_3) .ret))), keep := [(false, [none])], keepr := [(false, [none])] }
theorem c90 : compF Tryd.prog Tryd.f90 [] [] = some { p90 with body := p90.body.erase, keep := [(false, [none])], keepr := [(false, [none])] } := by kernel_rfl
theorem fok90 : FuncOK Tryd.prog 90 p90 := ⟨Tryd.f90, [], [], _, _, Tryd.func90, by kernel_rfl, c90⟩
/-! tree.words -/
def p91_0 : List PO := [⟨(some 4), none, (.mov (.cst (.int .i64 0)))⟩]
def p91_1 : List PO := [⟨(some 6), none, (.mov (.tmp 0))⟩, ⟨(some 7), none, (.len .slice (.tmp 6))⟩, ⟨(some 8), none, (.mov (.tmp 1))⟩, ⟨(some 9), none, (.len .slice (.tmp 8))⟩, ⟨(some 10), none, (.bin .neq .int (.tmp 7) (.tmp 9))⟩]
def p91_2 : List PO := [⟨(some 11), none, (.mov (.tmp 0))⟩, ⟨(some 12), none, (.len .slice (.tmp 11))⟩, ⟨(some 13), none, (.mov (.tmp 1))⟩, ⟨(some 14), none, (.len .slice (.tmp 13))⟩, ⟨(some 15), none, (.bin .lss .int (.tmp 12) (.tmp 14))⟩, ⟨(some 16), none, (.call false (.fn 90) [(.tmp 15)])⟩, ⟨(some 4), none, (.mov (.tmp 16))⟩]
def p91_3 : List PO := [⟨(some 17), none, (.mov (.tmp 0))⟩, ⟨(some 18), none, (.len .slice (.tmp 17))⟩, ⟨(some 19), none, (.bin .sub .int (.tmp 18) (.cst (.int .i64 1)))⟩, ⟨(some 5), none, (.mov (.tmp 19))⟩]
def p91_4 : List PO := [⟨(some 20), none, (.mov (.tmp 5))⟩, ⟨(some 21), none, (.bin .geq .int (.tmp 20) (.cst (.int .i64 0)))⟩]
def p91_5 : List PO := [⟨(some 24), none, (.mov (.tmp 0))⟩, ⟨(some 25), none, (.mov (.tmp 5))⟩, ⟨(some 26), none, (.iaddr 1 (.tmp 24) (.tmp 25))⟩, ⟨(some 27), none, (.load false 1 (.tmp 26))⟩, ⟨(some 28), none, (.mov (.tmp 1))⟩, ⟨(some 29), none, (.mov (.tmp 5))⟩, ⟨(some 30), none, (.iaddr 1 (.tmp 28) (.tmp 29))⟩, ⟨(some 31), none, (.load false 1 (.tmp 30))⟩, ⟨(some 32), none, (.bin .neq .int (.tmp 27) (.tmp 31))⟩]
def p91_6 : List PO := [⟨(some 33), none, (.mov (.tmp 0))⟩, ⟨(some 34), none, (.mov (.tmp 5))⟩, ⟨(some 35), none, (.iaddr 1 (.tmp 33) (.tmp 34))⟩, ⟨(some 36), none, (.load false 1 (.tmp 35))⟩, ⟨(some 37), none, (.mov (.tmp 1))⟩, ⟨(some 38), none, (.mov (.tmp 5))⟩, ⟨(some 39), none, (.iaddr 1 (.tmp 37) (.tmp 38))⟩, ⟨(some 40), none, (.load false 1 (.tmp 39))⟩, ⟨(some 41), none, (.bin .lss .int (.tmp 36) (.tmp 40))⟩, ⟨(some 42), none, (.call false (.fn 90) [(.tmp 41)])⟩, ⟨(some 4), none, (.mov (.tmp 42))⟩]
def p91_7 : List PO := [⟨(some 22), none, (.mov (.tmp 5))⟩, ⟨(some 23), none, (.bin .sub .int (.tmp 22) (.cst (.int .i64 1)))⟩, ⟨(some 5), none, (.mov (.tmp 23))⟩]
def p91_9 : List PO := [⟨(some 4), none, (.mov (.cst (.int .i64 0)))⟩]
def bL91_1 : PC := (.seq (.seq (.ops p91_4) (.cond (.tmp 21) .skip (.exit 0))) (.seq (.block 1 (.seq (.ops p91_5) (.cond (.tmp 32) (.seq (.ops p91_6) .ret) .skip))) (.ops p91_7)))
def cL91_1 : PC := (.keep [0, 1, 5] bL91_1)
def p91 : PFunc := { ntmps := 43, results := [(.tmp 4)], body := (.seq (.ops p91_0) (.seq (.seq (.ops p91_1) (.cond (.tmp 10) (.seq (.ops p91_2) .ret) .skip)) (.seq (.seq (.ops p91_3) (.block 0 (.loop cL91_1))) (.seq (.ops p91_9) .ret)))), keep := [(false, [(some 1)]), (false, [(some 1)])], keepr := [(false, [none])] }
theorem c91 : compF Tryd.prog Tryd.f91 [] [] = some { p91 with body := p91.body.erase, keep := [(false, [(some 1)]), (false, [(some 1)])], keepr := [(false, [none])] } := by kernel_rfl
theorem fok91 : FuncOK Tryd.prog 91 p91 := ⟨Tryd.f91, [], [], _, _, Tryd.func91, by kernel_rfl, c91⟩
/-! isochroneref08.less -/
def p92_0 : List PO := [⟨(some 4), none, (.mov (.cst (.int .i64 0)))⟩]
def p92_1 : List PO := [⟨(some 5), none, (.mov (.tmp 0))⟩, ⟨(some 6), none, (.mov (.tmp 1))⟩, ⟨(some 7), none, (.bin .lss .int (.tmp 5) (.tmp 6))⟩]
def p92_2 : List PO := [⟨(some 4), none, (.mov (.cst (.int .i64 (-1))))⟩]
def p92_3 : List PO := [⟨(some 8), none, (.mov (.tmp 0))⟩, ⟨(some 9), none, (.mov (.tmp 1))⟩, ⟨(some 10), none, (.bin .gtr .int (.tmp 8) (.tmp 9))⟩]
def p92_4 : List PO := [⟨(some 4), none, (.mov (.cst (.int .i64 1)))⟩]
def p92_5 : List PO := [⟨(some 4), none, (.mov (.cst (.int .i64 0)))⟩]
def p92 : PFunc := { ntmps := 11, results := [(.tmp 4)], body := (.seq (.ops p92_0) (.seq (.seq (.ops p92_1) (.cond (.tmp 7) (.seq (.ops p92_2) .ret) .skip)) (.seq (.seq (.ops p92_3) (.cond (.tmp 10) (.seq (.ops p92_4) .ret) .skip)) (.seq (.ops p92_5) .ret)))), keep := [(false, [none]), (false, [none])], keepr := [(false, [none])] }
theorem c92 : compF Tryd.prog Tryd.f92 [] [] = some { p92 with body := p92.body.erase, keep := [(false, [none]), (false, [none])], keepr := [(false, [none])] } := by kernel_rfl
theorem fok92 : FuncOK Tryd.prog 92 p92 := ⟨Tryd.f92, [], [], _, _, Tryd.func92, by kernel_rfl, c92⟩
/-! isochroneref08.words -/
def p93_0 : List PO := [⟨(some 4), none, (.mov (.cst (.int .i64 0)))⟩]
def p93_1 : List PO := [⟨(some 6), none, (.mov (.tmp 0))⟩, ⟨(some 7), none, (.len .slice (.tmp 6))⟩, ⟨(some 8), none, (.mov (.tmp 1))⟩, ⟨(some 9), none, (.len .slice (.tmp 8))⟩, ⟨(some 10), none, (.bin .neq .int (.tmp 7) (.tmp 9))⟩]
def p93_2 : List PO := [⟨(some 11), none, (.mov (.tmp 0))⟩, ⟨(some 12), none, (.len .slice (.tmp 11))⟩, ⟨(some 13), none, (.mov (.tmp 1))⟩, ⟨(some 14), none, (.len .slice (.tmp 13))⟩, ⟨(some 15), none, (.bin .lss .int (.tmp 12) (.tmp 14))⟩]
def p93_3 : List PO := [⟨(some 4), none, (.mov (.cst (.int .i64 (-1))))⟩]
def p93_4 : List PO := [⟨(some 4), none, (.mov (.cst (.int .i64 1)))⟩]
def p93_5 : List PO := [⟨(some 16), none, (.mov (.tmp 0))⟩, ⟨(some 17), none, (.len .slice (.tmp 16))⟩, ⟨(some 18), none, (.bin .sub .int (.tmp 17) (.cst (.int .i64 1)))⟩, ⟨(some 5), none, (.mov (.tmp 18))⟩]
def p93_6 : List PO := [⟨(some 19), none, (.mov (.tmp 5))⟩, ⟨(some 20), none, (.bin .geq .int (.tmp 19) (.cst (.int .i64 0)))⟩]
def p93_7 : List PO := [⟨(some 23), none, (.mov (.tmp 0))⟩, ⟨(some 24), none, (.mov (.tmp 5))⟩, ⟨(some 25), none, (.iaddr 1 (.tmp 23) (.tmp 24))⟩, ⟨(some 26), none, (.load false 1 (.tmp 25))⟩, ⟨(some 27), none, (.mov (.tmp 1))⟩, ⟨(some 28), none, (.mov (.tmp 5))⟩, ⟨(some 29), none, (.iaddr 1 (.tmp 27) (.tmp 28))⟩, ⟨(some 30), none, (.load false 1 (.tmp 29))⟩, ⟨(some 31), none, (.bin .neq .int (.tmp 26) (.tmp 30))⟩]
def p93_8 : List PO := [⟨(some 32), none, (.mov (.tmp 0))⟩, ⟨(some 33), none, (.mov (.tmp 5))⟩, ⟨(some 34), none, (.iaddr 1 (.tmp 32) (.tmp 33))⟩, ⟨(some 35), none, (.load false 1 (.tmp 34))⟩, ⟨(some 36), none, (.mov (.tmp 1))⟩, ⟨(some 37), none, (.mov (.tmp 5))⟩, ⟨(some 38), none, (.iaddr 1 (.tmp 36) (.tmp 37))⟩, ⟨(some 39), none, (.load false 1 (.tmp 38))⟩, ⟨(some 40), none, (.bin .lss .int (.tmp 35) (.tmp 39))⟩]
def p93_9 : List PO := [⟨(some 4), none, (.mov (.cst (.int .i64 (-1))))⟩]
def p93_10 : List PO := [⟨(some 4), none, (.mov (.cst (.int .i64 1)))⟩]
def p93_11 : List PO := [⟨(some 21), none, (.mov (.tmp 5))⟩, ⟨(some 22), none, (.bin .sub .int (.tmp 21) (.cst (.int .i64 1)))⟩, ⟨(some 5), none, (.mov (.tmp 22))⟩]
def p93_13 : List PO := [⟨(some 4), none, (.mov (.cst (.int .i64 0)))⟩]
def bL93_1 : PC := (.seq (.seq (.ops p93_6) (.cond (.tmp 20) .skip (.exit 0))) (.seq (.block 1 (.seq (.ops p93_7) (.cond (.tmp 31) (.seq (.seq (.ops p93_8) (.cond (.tmp 40) (.seq (.ops p93_9) .ret) .skip)) (.seq (.ops p93_10) .ret)) .skip))) (.ops p93_11)))
def cL93_1 : PC := (.keep [0, 1, 5] bL93_1)
def p93 : PFunc := { ntmps := 41, results := [(.tmp 4)], body := (.seq (.ops p93_0) (.seq (.seq (.ops p93_1) (.cond (.tmp 10) (.seq (.seq (.ops p93_2) (.cond (.tmp 15) (.seq (.ops p93_3) .ret) .skip)) (.seq (.ops p93_4) .ret)) .skip)) (.seq (.seq (.ops p93_5) (.block 0 (.loop cL93_1))) (.seq (.ops p93_13) .ret)))), keep := [(false, [(some 1)]), (false, [(some 1)])], keepr := [(false, [none])] }
theorem c93 : compF Tryd.prog Tryd.f93 [] [] = some { p93 with body := p93.body.erase, keep := [(false, [(some 1)]), (false, [(some 1)])], keepr := [(false, [none])] } := by kernel_rfl
theorem fok93 : FuncOK Tryd.prog 93 p93 := ⟨Tryd.f93, [], [], _, _, Tryd.func93, by kernel_rfl, c93⟩
end Go.Proofs.YtkpbfldnickghaaDoor
