/- strconv.Itoa is what the kit's contract says; what is known of the table that it reads. -/
import Derived.Test.YtkpbfldnickghaaDoorW1
import Derived.Test.YtkpbfldnickghaaDoorW3
import Derived.Test.YtkpbfldnickghaaDoorPEl
import Derived.Shelf.Strconv.Itoa3
set_option maxRecDepth 100000
set_option linter.unusedVariables false
namespace Go.Proofs.YtkpbfldnickghaaDoor
open Go Go.PE Go.Shelf Go.Lib
open Go.RowKit (Below)
def Tryd.lays171_ren : Ren :=
{
  f := fun
    | 171 => 44
    | 243 => 60
    | 246 => 71
    | 283 => 86
    | 284 => 87
    | 285 => 88
    | 286 => 89
    | 129 => 85
    | 317 => 100
    | 318 => 101
    | 319 => 102
    | 320 => 103
    | 337 => 105
    | 338 => 106
    | n => n,
  t := fun
    | 3 => 3
    | 9 => 9
    | 2 => 2
    | 4 => 4
    | 171 => 119
    | 0 => 0
    | 53 => 118
    | 37 => 121
    | 5 => 5
    | 173 => 122
    | 212 => 133
    | 51 => 106
    | 20 => 20
    | 213 => 134
    | 46 => 101
    | 232 => 139
    | 233 => 140
    | n => n,
  g := fun
    | 17 => 0
    | 18 => 1
    | 19 => 2
    | n => n }
theorem Tryd.lays171 : LaysM.n171 Tryd.prog Tryd.lays171_ren where
  mixed := by kernel_rfl
  f129 := Tryd.func85.trans (by kernel_rfl)
  f171 := Tryd.func44.trans (by kernel_rfl)
  f243 := Tryd.func60.trans (by kernel_rfl)
  f246 := Tryd.func71.trans (by kernel_rfl)
  f283 := Tryd.func86.trans (by kernel_rfl)
  f284 := Tryd.func87.trans (by kernel_rfl)
  f285 := Tryd.func88.trans (by kernel_rfl)
  f286 := Tryd.func89.trans (by kernel_rfl)
  f317 := Tryd.func100.trans (by kernel_rfl)
  f318 := Tryd.func101.trans (by kernel_rfl)
  f319 := Tryd.func102.trans (by kernel_rfl)
  f320 := Tryd.func103.trans (by kernel_rfl)
  f337 := Tryd.func105.trans (by kernel_rfl)
  f338 := Tryd.func106.trans (by kernel_rfl)
  t0 := Tryd.underlying0
  a0 := Tryd.isAgg0
  z0 := Tryd.sizeOf0
  v0 := Tryd.zeroValue0
  t2 := Tryd.underlying2
  a2 := Tryd.isAgg2
  z2 := Tryd.sizeOf2
  v2 := Tryd.zeroValue2
  t3 := Tryd.underlying3
  a3 := Tryd.isAgg3
  z3 := Tryd.sizeOf3
  v3 := Tryd.zeroValue3
  t4 := Tryd.underlying4
  a4 := Tryd.isAgg4
  z4 := Tryd.sizeOf4
  v4 := Tryd.zeroValue4
  t5 := Tryd.underlying5
  a5 := Tryd.isAgg5
  z5 := Tryd.sizeOf5
  v5 := Tryd.zeroValue5
  t9 := Tryd.underlying9
  a9 := Tryd.isAgg9
  z9 := Tryd.sizeOf9
  v9 := Tryd.zeroValue9
  t20 := Tryd.underlying20
  a20 := Tryd.isAgg20
  z20 := Tryd.sizeOf20
  v20 := Tryd.zeroValue20
  t37 := Tryd.underlying121
  a37 := Tryd.isAgg121
  z37 := Tryd.sizeOf121
  v37 := Tryd.zeroValue121
  t46 := Tryd.underlying101
  a46 := Tryd.isAgg101
  z46 := Tryd.sizeOf101
  v46 := Tryd.zeroValue101
  t51 := Tryd.underlying106
  a51 := Tryd.isAgg106
  z51 := Tryd.sizeOf106
  v51 := Tryd.zeroValue106
  t53 := Tryd.underlying118
  a53 := Tryd.isAgg118
  z53 := Tryd.sizeOf118
  v53 := Tryd.zeroValue118
  t171 := Tryd.underlying119
  a171 := Tryd.isAgg119
  z171 := Tryd.sizeOf119
  v171 := Tryd.zeroValue119
  t173 := Tryd.underlying122
  a173 := Tryd.isAgg122
  z173 := Tryd.sizeOf122
  v173 := Tryd.zeroValue122
  t212 := Tryd.underlying133
  a212 := Tryd.isAgg133
  z212 := Tryd.sizeOf133
  v212 := Tryd.zeroValue133
  t213 := Tryd.underlying134
  a213 := Tryd.isAgg134
  z213 := Tryd.sizeOf134
  t232 := Tryd.underlying139
  a232 := Tryd.isAgg139
  z232 := Tryd.sizeOf139
  v232 := Tryd.zeroValue139
  t233 := Tryd.underlying140
  a233 := Tryd.isAgg140
  z233 := Tryd.sizeOf140
  v233 := Tryd.zeroValue140
  g17 := by kernel_rfl /- Eq.refl (some (Tryd.lays171_ren.g 17)) -/
  g18 := by kernel_rfl /- Eq.refl (some (Tryd.lays171_ren.g 18)) -/
  g19 := by kernel_rfl /- Eq.refl (some (Tryd.lays171_ren.g 19)) -/
  i0 := by kernel_rfl
  i2 := by kernel_rfl
  i3 := by kernel_rfl
  i4 := by kernel_rfl
  i5 := by kernel_rfl
  i9 := by kernel_rfl
  i20 := by kernel_rfl
  i37 := by kernel_rfl
  i46 := by kernel_rfl
  i51 := by kernel_rfl
  i53 := by kernel_rfl
  i171 := by kernel_rfl
  i173 := by kernel_rfl
  i212 := by kernel_rfl
  i232 := by kernel_rfl
  i233 := by kernel_rfl
  m17 := by kernel_rfl
  m18 := by kernel_rfl
  m19 := by kernel_rfl
/-- What is known of the memory that was there before: the table of the powers of ten. -/
@[reducible] def tabG : Globs where
  ok B w := 0 < B ∧ Lib.TabIs Tryd.prog w "internal/strconv.uint64pow10" .u64 Lib.pow10Tab
  mono := fun {B w w'} h hb => ⟨h.1, by
    have hg : Tryd.prog.globalNamed "internal/strconv.uint64pow10" = some 0 := by kernel_rfl
    have := h.2
    unfold Lib.TabIs World.var? at this ⊢
    rw [hg] at this ⊢
    simp only [Option.bind_some] at this ⊢
    rw [hb 0 h.1]
    exact this⟩
  up := fun h hl => ⟨Nat.lt_of_lt_of_le h.1 hl, h.2⟩
theorem below_grow (w : World) (k : Nat) (os : Array Go.Obj) : Below w.heap.size w (Sort.grow (w.drewN k) os) := by
  refine ⟨rfl, rfl, rfl, ?_, fun i hi => ?_⟩
  · simp [Sort.grow, World.drewN]
  · simp [Sort.grow, World.drewN, Array.getElem?_append_left hi]
theorem XI_ok : @ExtOK tabG Tryd.prog C XI := by
  letI := tabG
  refine ⟨fun f args rs hC h => ?_, (fun f args σ rs σ' hC h => by cases h), fun fs h => sort_is h⟩
  unfold XI at h
  dsimp only at h
  split at h
  · rename_i n
    split at h
    · rename_i hn
      cases h
      refine ⟨⟨Tryd.f44, Tryd.func44, by kernel_rfl, by kernel_rfl⟩, rfl, fun w prot vs hp hg hr => ?_⟩
      have hv : vs = [.int .i64 n] := by
        obtain ⟨v, h1, h2⟩ := hr.get (i := 0) (p := .int .i64 n) rfl
        have hl := hr.1
        match vs, hl, h1 with
        | [u], _, h1 =>
          simp only [List.getElem?_cons_zero, Option.some.injEq] at h1
          subst h1
          rw [h2.int_inv]
      subst hv
      refine (Any.strconv_Itoa Tryd.lays171 n hn.1 hn.2 w hg.2).mono fun e w' ⟨e1, k, os, e2⟩ => ?_
      subst e2
      have hb := below_grow w k os
      refine ⟨[.string ⟨(Lib.itoa n).toArray⟩], prot, e1, hb, fun _ h => h, fun _ h _ => h, fun a ha => ?_, RepL.cons (.str _ _ ?_) (RepL.nil _ _ _)⟩
      · obtain ⟨v, hv⟩ := hp a ha
        exact ⟨v, by rw [hb.cell (block_lt hv)]; exact hv⟩
      · simp [itoaF_eq hn]
    · cases h
  · cases h
end Go.Proofs.YtkpbfldnickghaaDoor
