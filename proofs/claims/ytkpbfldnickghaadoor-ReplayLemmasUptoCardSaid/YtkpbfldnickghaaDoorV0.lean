/- The program's types; what the rows' lists give; a world for the rows' witness. -/
import Derived.Test.YtkpbfldnickghaaDoorW2
import Derived.Test.YtkpbfldnickghaaDoorPEs
import Derived.Test.YtkpbfldnickghaaDoorCards
import Derived.Test.YtkpbfldnickghaaDoorTie
import Derived.OpenShut
import Derived.Lay
import Derived.LaidSub
import Derived.Deep.DeepHandedRow
import Derived.Lib.LaidTab
set_option maxRecDepth 100000
set_option linter.unusedVariables false
namespace Go.Proofs.YtkpbfldnickghaaDoor
open Go Go.PE
def tys : Tys := { tbool := 4, twords := 53, trat := 55, tu32 := 106, tint := 3, tstr := 9, tnode := 57, tnodes := 22, tints := 24, tmono := 91, tmonos := 76, tpoly := 78, tpolys := 27, tsquare := 80, tsquares := 28, trats := 26, tcert := 31, tcerts := 29, tpair := 59, tpairs := 23, tstrs := 25, tproof := 34, tproofs := 32, tstep := 61, tsteps := 35 }
theorem tys_ok : TyStep Tryd.prog tys where
  bool := Tryd.underlying4
  u32 := Tryd.underlying106
  words := Tryd.underlying53
  rat := ⟨_, Tryd.underlying55, rfl⟩
  cbool := by kernel_rfl
  cu32 := by kernel_rfl
  cwords := by kernel_rfl
  crat := by kernel_rfl
  int := Tryd.underlying3
  str := Tryd.underlying9
  node := ⟨_, Tryd.underlying57, rfl⟩
  nodes := Tryd.underlying22
  cint := by kernel_rfl
  cstr := by kernel_rfl
  cnode := by kernel_rfl
  cnodes := by kernel_rfl
  ints := Tryd.underlying24
  cints := by kernel_rfl
  mono := ⟨_, Tryd.underlying91, rfl⟩
  cmono := by kernel_rfl
  monos := Tryd.underlying76
  cmonos := by kernel_rfl
  poly := ⟨_, Tryd.underlying78, rfl⟩
  cpoly := by kernel_rfl
  polys := Tryd.underlying27
  cpolys := by kernel_rfl
  square := ⟨_, Tryd.underlying80, rfl⟩
  csquare := by kernel_rfl
  squares := Tryd.underlying28
  csquares := by kernel_rfl
  rats := Tryd.underlying26
  crats := by kernel_rfl
  cert := ⟨_, Tryd.underlying31, rfl⟩
  ccert := by kernel_rfl
  certs := Tryd.underlying29
  ccerts := by kernel_rfl
  pair := ⟨_, Tryd.underlying59, rfl⟩
  cpair := by kernel_rfl
  pairs := Tryd.underlying23
  cpairs := by kernel_rfl
  strs := Tryd.underlying25
  cstrs := by kernel_rfl
  proof := ⟨_, Tryd.underlying34, rfl⟩
  cproof := by kernel_rfl
  proofs := Tryd.underlying32
  cproofs := by kernel_rfl
  step := ⟨_, Tryd.underlying61, rfl⟩
  cstep := by kernel_rfl
  steps := Tryd.underlying35
  csteps := by kernel_rfl
theorem own : ownKnob Tryd.prog.godebug = none := by kernel_rfl
theorem mixedOn : Tryd.prog.follows .mixedOrders = true := by kernel_rfl
theorem laidOut : laidOutB Tryd.prog = true := by kernel_rfl
/-- The rows' lists. -/
def laidL : List (String × DataW Unit) := [("math/bits.deBruijn32tab", Rows.laid_math_bits_deBruijn32tab), ("math/bits.deBruijn64tab", Rows.laid_math_bits_deBruijn64tab), ("internal/strconv.uint64pow10", Rows.laid_internal_strconv_uint64pow10)]
theorem g0 : Tryd.prog.globalNamed "internal/strconv.uint64pow10" = some 0 := by kernel_rfl
theorem g0t : (Tryd.prog.globals[0]?).map (·.type) = some 133 := by kernel_rfl
theorem c133 : Tryd.prog.cellsOf 133 = 20 := by kernel_rfl
theorem c118 : Tryd.prog.cellsOf 118 = 1 := by kernel_rfl
theorem heap_pos {W : World} (h : Lib.TabIs Tryd.prog W "internal/strconv.uint64pow10" .u64 Lib.pow10Tab) : 0 < W.heap.size := by
  unfold Lib.TabIs World.var? at h
  rw [g0] at h
  simp only [Option.bind_some] at h
  split at h
  · rename_i hh
    exact (Array.getElem?_eq_some_iff.1 hh).1
  · cases h
/-- What they give. -/
theorem glob_ok {W : World} (h : laidMetH Tryd.prog laidL W) : tabG.ok W.heap.size W := by
  have h1 : laidMet Tryd.prog laidL W := h
  have h2 := h1.filter fun x => x.1 == "internal/strconv.uint64pow10"
  have h3 : Lib.TabIs Tryd.prog W "internal/strconv.uint64pow10" .u64 Lib.pow10Tab := Lib.tabIs_of_head (rest := []) g0 g0t Tryd.underlying133 Tryd.underlying118 c118 c133 h2
  exact ⟨heap_pos h3, h3⟩
/-- A world for the witnesses. -/
noncomputable def laidWorld (os : Os) : World := World.laidAll Tryd.prog os laidL
theorem laid_met (os : Os) (args : Array Value) : laidMet Tryd.prog laidL ((laidWorld os).forCall (fun _ _ => 0) ⟨#[], args, []⟩).memory :=
  laidMet_laidAll args (by kernel_rfl) (by kernel_rfl)
def zProof : Value := .agg #[.string ⟨#[]⟩, .string ⟨#[]⟩, .slice none 0 0, .slice none 0 0, .slice none 0 0, .slice none 0 0, .int .i64 0, .slice none 0 0, .slice none 0 0, .slice none 0 0, .slice none 0 0, .slice none 0 0]
def zProofD {H : Type} : DataW H := .agg [.lit (.string []), .lit (.string []), .nil, .nil, .nil, .nil, .agg [.lit (.int .i64 0), .nil, .nil, .nil, .nil], .nil]
end Go.Proofs.YtkpbfldnickghaaDoor
