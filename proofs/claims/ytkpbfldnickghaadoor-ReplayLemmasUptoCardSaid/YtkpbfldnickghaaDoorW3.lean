/- sort.Strings is what the kit's contract says. -/
import Derived.Test.YtkpbfldnickghaaDoorW1
import Derived.Test.YtkpbfldnickghaaDoorPEl
import Derived.Shelf.Sort.Plain
import Derived.Shelf.Slices.In.SortNone2
set_option maxRecDepth 100000
set_option linter.unusedVariables false
namespace Go.Proofs.YtkpbfldnickghaaDoor
open Go Go.PE Go.Shelf Go.Lib
def Tryd.lays192_ren : Ren :=
{
  f := fun
    | 192 => 37
    | 190 => 55
    | 125 => 69
    | 258 => 68
    | 128 => 84
    | 129 => 85
    | 302 => 75
    | 303 => 76
    | 304 => 77
    | 305 => 78
    | 306 => 79
    | 307 => 80
    | 308 => 81
    | 309 => 82
    | 310 => 83
    | 333 => 94
    | 329 => 95
    | 330 => 96
    | 334 => 97
    | 335 => 98
    | 336 => 99
    | 344 => 104
    | n => n,
  t := fun
    | 31 => 25
    | 0 => 0
    | 9 => 9
    | 3 => 3
    | 46 => 101
    | 51 => 106
    | 53 => 118
    | 4 => 4
    | 183 => 109
    | 182 => 108
    | 131 => 114
    | 5 => 5
    | 218 => 127
    | 222 => 83
    | 228 => 136
    | 229 => 137
    | n => n,
  g := fun
    | n => n }
theorem Tryd.lays192 : Lays.n192 Tryd.prog Tryd.lays192_ren where
  mixed := by kernel_rfl
  f125 := Tryd.func69.trans (by kernel_rfl)
  f128 := Tryd.func84.trans (by kernel_rfl)
  f129 := Tryd.func85.trans (by kernel_rfl)
  f190 := Tryd.func55.trans (by kernel_rfl)
  f192 := Tryd.func37.trans (by kernel_rfl)
  f258 := Tryd.func68.trans (by kernel_rfl)
  f302 := Tryd.func75.trans (by kernel_rfl)
  f303 := Tryd.func76.trans (by kernel_rfl)
  f304 := Tryd.func77.trans (by kernel_rfl)
  f305 := Tryd.func78.trans (by kernel_rfl)
  f306 := Tryd.func79.trans (by kernel_rfl)
  f307 := Tryd.func80.trans (by kernel_rfl)
  f308 := Tryd.func81.trans (by kernel_rfl)
  f309 := Tryd.func82.trans (by kernel_rfl)
  f310 := Tryd.func83.trans (by kernel_rfl)
  f329 := Tryd.func95.trans (by kernel_rfl)
  f330 := Tryd.func96.trans (by kernel_rfl)
  f333 := Tryd.func94.trans (by kernel_rfl)
  f334 := Tryd.func97.trans (by kernel_rfl)
  f335 := Tryd.func98.trans (by kernel_rfl)
  f336 := Tryd.func99.trans (by kernel_rfl)
  f344 := Tryd.func104.trans (by kernel_rfl)
  t0 := Tryd.underlying0
  a0 := Tryd.isAgg0
  z0 := Tryd.sizeOf0
  v0 := Tryd.zeroValue0
  t3 := Tryd.underlying3
  a3 := Tryd.isAgg3
  z3 := Tryd.sizeOf3
  v3 := Tryd.zeroValue3
  t4 := Tryd.underlying4
  a4 := Tryd.isAgg4
  z4 := Tryd.sizeOf4
  v4 := Tryd.zeroValue4
  t5 := Tryd.underlying5
  a5 := Tryd.isAgg5
  z5 := Tryd.sizeOf5
  v5 := Tryd.zeroValue5
  t9 := Tryd.underlying9
  a9 := Tryd.isAgg9
  z9 := Tryd.sizeOf9
  v9 := Tryd.zeroValue9
  t31 := Tryd.underlying25
  a31 := Tryd.isAgg25
  z31 := Tryd.sizeOf25
  v31 := Tryd.zeroValue25
  t46 := Tryd.underlying101
  a46 := Tryd.isAgg101
  z46 := Tryd.sizeOf101
  v46 := Tryd.zeroValue101
  t51 := Tryd.underlying106
  a51 := Tryd.isAgg106
  z51 := Tryd.sizeOf106
  v51 := Tryd.zeroValue106
  t53 := Tryd.underlying118
  a53 := Tryd.isAgg118
  z53 := Tryd.sizeOf118
  v53 := Tryd.zeroValue118
  t131 := Tryd.underlying114
  a131 := Tryd.isAgg114
  z131 := Tryd.sizeOf114
  v131 := Tryd.zeroValue114
  t182 := Tryd.underlying108
  a182 := Tryd.isAgg108
  z182 := Tryd.sizeOf108
  v182 := Tryd.zeroValue108
  t183 := Tryd.underlying109
  a183 := Tryd.isAgg109
  z183 := Tryd.sizeOf109
  v183 := Tryd.zeroValue109
  t218 := Tryd.underlying127
  a218 := Tryd.isAgg127
  z218 := Tryd.sizeOf127
  v218 := Tryd.zeroValue127
  t222 := Tryd.underlying83
  a222 := Tryd.isAgg83
  z222 := Tryd.sizeOf83
  v222 := Tryd.zeroValue83
  t228 := Tryd.underlying136
  a228 := Tryd.isAgg136
  z228 := Tryd.sizeOf136
  v228 := Tryd.zeroValue136
  t229 := Tryd.underlying137
  a229 := Tryd.isAgg137
  z229 := Tryd.sizeOf137
  v229 := Tryd.zeroValue137
theorem sort_ok : SortOK Tryd.prog 37 where
  is := ⟨Tryd.f37, Tryd.func37, by kernel_rfl, by kernel_rfl⟩
  some := fun blk cap ss w h1 h2 h3 => Any.sort_Strings Tryd.lays192 blk 0 cap ss w h1 h2 h3
  none := fun w => Any.sort_Strings_none Tryd.lays192 none 0 w
theorem sort_is {fs : Nat} (h : sortFn Tryd.prog fs = true) : SortOK Tryd.prog fs := by
  have hall : (List.range Tryd.prog.funcs.size).all (fun k => !sortFn Tryd.prog k || k == 37) = true := by kernel_rfl
  have hlt : fs < Tryd.prog.funcs.size := Classical.byContradiction fun hge => by
    unfold sortFn at h
    rw [Array.getElem?_eq_none (by omega)] at h
    cases h
  have h1 := List.all_eq_true.1 hall fs (List.mem_range.2 hlt)
  rw [h] at h1
  have : fs = 37 := by simpa using h1
  rw [this]
  exact sort_ok
end Go.Proofs.YtkpbfldnickghaaDoor
