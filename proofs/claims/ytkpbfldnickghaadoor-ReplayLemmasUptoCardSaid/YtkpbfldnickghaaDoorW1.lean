/- The sanity check of the statements, run by the kernel. -/
import Derived.Test.YtkpbfldnickghaaDoorFns
import Derived.KernelRfl
import Derived.Lib.ItoaNum
set_option maxRecDepth 100000
namespace Go.Proofs.YtkpbfldnickghaaDoor
open Go Go.PE
/-- The decimal digits, by rounds. -/
def digF : Nat → Nat → List UInt8
  | 0, _ => []
  | k + 1, u => if u < 10 then [UInt8.ofNat (48 + u)] else digF k (u / 10) ++ [UInt8.ofNat (48 + u % 10)]
theorem digF_eq : ∀ (k u : Nat), u < 10 ^ (k + 1) → digF (k + 1) u = Lib.decDigits u
  | 0, u, h => by
    rw [Lib.decDigits, digF]
    simp [show u < 10 by omega]
  | k + 1, u, h => by
    rw [Lib.decDigits, digF]
    by_cases hu : u < 10
    · simp [hu]
    · rw [if_neg hu, dif_neg hu, digF_eq k (u / 10) (by rw [Nat.pow_succ] at h; omega)]
def itoaF (n : Int) : List UInt8 := if n < 0 then 45 :: digF 20 n.natAbs else digF 20 n.toNat
/-- What is known of functions that are not evaluated: strconv.Itoa. -/
def XI : Ext where
  pure f args := match f, args with
    | 44, [.int .i64 n] => if -9223372036854775808 ≤ n ∧ n ≤ 9223372036854775807 then some [.str (itoaF n)] else none
    | _, _ => none
  imp _ _ _ := none
theorem itoaF_eq {n : Int} (h : -9223372036854775808 ≤ n ∧ n ≤ 9223372036854775807) : itoaF n = Lib.itoa n := by
  unfold itoaF Lib.itoa
  rw [digF_eq 19 _ (by omega), digF_eq 19 _ (by omega)]
theorem awake_run : (Hk C XI 30).pure 6 [] = some [.bool true] := by kernel_rfl
theorem awake_ok : (Hw C XI).pure 6 [] = some [.bool true] := Hw_pure.2 ⟨30, awake_run⟩
end Go.Proofs.YtkpbfldnickghaaDoor
