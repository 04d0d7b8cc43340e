/- Contracts: the comparisons of both sides. -/
import Derived.Test.YtkpbfldnickghaaDoorEqs0
import Derived.Test.YtkpbfldnickghaaDoorEqs1
import Derived.Test.YtkpbfldnickghaaDoorEqs2
import Derived.Test.YtkpbfldnickghaaDoorPEo
set_option linter.unusedVariables false
set_option linter.unusedSimpArgs false
namespace Go.Proofs.YtkpbfldnickghaaDoor
open Go Go.PE
theorem canon_sl {α : Type} {st : Nat} {f : α → List PV} {l : List α} : canonV [some st] (encL st f l) = encL st f l := by
  show canon1 (some st) (encL st f l) = _
  exact canon1_encL
theorem L27 (X : Ext) (xs ys : List Int) (hl : xs.length = ys.length) (hb : Sm xs) : ∀ (n i : Nat), i + n = xs.length → L27_1 X (encL 1 cInt xs) (encL 1 cInt ys) (.int .i64 (xs.length : Nat)) (.int .i64 i) [] = some [.bool (eqb (xs.drop i) (ys.drop i))]
  | 0, i, h => by
    rw [L27_1_eq]
    have h1 : xs.drop i = [] := List.drop_eq_nil_of_le (by omega)
    have h2 : ys.drop i = [] := List.drop_eq_nil_of_le (by omega)
    simp [h1, h2, show ¬ (i < xs.length) by omega, eqb_eq]
    rfl
  | n + 1, i, h => by
    rw [L27_1_eq]
    unfold Sm at hb
    have hi : i < xs.length := by omega
    have hi' : i < ys.length := by omega
    have ih := L27 X xs ys hl hb n (i + 1) (by omega)
    have hd := drop_eq_iff hi hi'
    by_cases hc : xs[i] = ys[i]
    · simp [hi, iaddr_enc, hi', cInt, hc, wrap_succ (show i < 9223372036854775807 by omega)]
      have : eqb (xs.drop i) (ys.drop i) = eqb (xs.drop (i + 1)) (ys.drop (i + 1)) := by simp [eqb, hd, hc]
      rw [this]
      simpa using ih
    · simp [hi, iaddr_enc, hi', cInt, hc, eqb_ne (fun e => hc (hd.1 e).1)]
      rfl
theorem ints_ok (X : Ext) (xs ys : List Int) (hb : Sm xs) : (Hw C X).pure 27 [encL 1 cInt xs, encL 1 cInt ys] = some [.bool (eqb xs ys)] := by
  rw [F27]
  by_cases hl : xs.length = ys.length
  · simp [hl]
    have := L27 X xs ys hl hb xs.length 0 (by omega)
    simpa [hl] using this
  · have hne : xs ≠ ys := fun e => hl (by rw [e])
    simp [hl, eqb_ne hne]
    rfl
theorem less_ok (X : Ext) (b : Bool) : (Hw C X).pure 90 [.bool b] = some [.int .i64 (if b = true then -1 else 1)] := by
  rw [F90]
  cases b <;> rfl
theorem call90 {R : Type} (X : Ext) (σ : Heap) (pc : Bool) (b : Bool) (k : PV → Heap → Option R) : callK C (Hw C X) σ pc (.fn 90 []) [.bool b] k = k (.int .i64 (if b = true then -1 else 1)) σ :=
  callK_pure C90 rfl rfl rfl (less_ok X b)
theorem L91 (X : Ext) (a b : List Nat) (hl : a.length = b.length) (hb : Sm a) : ∀ (i : Nat), i ≤ a.length → ∃ n : Int, L91_1 X (encL 1 cU32 a) (encL 1 cU32 b) (.int .i64 ((i : Int) - 1)) [] = some [.int .i64 n] ∧ (n = 0 ↔ a.take i = b.take i)
  | 0, _ => ⟨0, by rw [L91_1_eq]; simp; rfl, by simp⟩
  | i + 1, h => by
    unfold Sm at hb
    have hi : i < a.length := by omega
    have hi' : i < b.length := by omega
    obtain ⟨n, ih, hn⟩ := L91 X a b hl hb i (by omega)
    have e1 : ((i + 1 : Nat) : Int) - 1 = (i : Int) := by omega
    have ht : a.take (i + 1) = b.take (i + 1) ↔ a.take i = b.take i ∧ a[i] = b[i] := by
      rw [List.take_succ_eq_append_getElem hi, List.take_succ_eq_append_getElem hi']
      constructor
      · intro h
        have := List.append_inj h (by simp; omega)
        exact ⟨this.1, by simpa using this.2⟩
      · rintro ⟨h1, h2⟩
        rw [h1, h2]
    rw [e1, L91_1_eq]
    by_cases hc : a[i] = b[i]
    · refine ⟨n, ?_, by rw [hn, ht]; simp [hc]⟩
      simp [hi, iaddr_enc, hi', cU32, hc, wrap_i64 (show -9223372036854775808 ≤ (i : Int) - 1 by omega) (by omega)]
      exact ih
    · refine ⟨if a[i] < b[i] then -1 else 1, ?_, ?_⟩
      · simp [hi, iaddr_enc, hi', cU32, hc, call90]
        split <;> rfl
      · rw [ht]
        constructor
        · intro h; split at h <;> cases h
        · intro h; exact absurd h.2 hc
theorem words_ok (X : Ext) (a b : List Nat) (hb : Sm a) (hb' : Sm b) : ∃ n : Int, (Hw C X).pure 91 [encL 1 cU32 a, encL 1 cU32 b] = some [.int .i64 n] ∧ (n = 0 ↔ a = b) := by
  rw [F91]
  unfold Sm at hb hb'
  by_cases hl : a.length = b.length
  · obtain ⟨n, h1, h2⟩ := L91 X a b hl hb a.length (Nat.le_refl _)
    refine ⟨n, ?_, by rw [h2, List.take_length, hl, List.take_length]⟩
    simp [hl, wrap_i64 (show -9223372036854775808 ≤ (b.length : Int) - 1 by omega) (by omega)]
    simpa [hl] using h1
  · refine ⟨if a.length < b.length then -1 else 1, ?_, ?_⟩
    · simp [hl, call90]
      split <;> rfl
    · constructor
      · intro h; split at h <;> cases h
      · intro h; exact absurd (by rw [h]) hl
theorem call91 {R : Type} (X : Ext) (a b : List Nat) (hb : Sm a) (hb' : Sm b) : ∃ n : Int, (n = 0 ↔ a = b) ∧ ∀ (σ : Heap) (pc : Bool) (k : PV → Heap → Option R), callK C (Hw C X) σ pc (.fn 91 []) [encL 1 cU32 a, encL 1 cU32 b] k = k (.int .i64 n) σ := by
  obtain ⟨n, h1, h2⟩ := words_ok X a b hb hb'
  exact ⟨n, h2, fun σ pc k => callK_pure C91 rfl (by simp only [pureL, encL_pure (fun x _ => cU32_pure x), Bool.and_self]) (by simp only [p91, canonA, canon_sl]) h1⟩
end Go.Proofs.YtkpbfldnickghaaDoor
