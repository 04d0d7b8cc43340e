/- Equations for proofs about the pieces: what the helpers come to at the values that stand in proofs. -/
import Derived.Test.YtkpbfldnickghaaDoorPEm
set_option linter.unusedVariables false
set_option linter.unusedSimpArgs false
namespace Go.PE

theorem keep_pure : ∀ {p : PV} (σ : Heap), p.pure = true → coeV σ p = p := by
  intro p σ h
  have one : ∀ p : PV, p.pure = true → coe1 σ p = p := fun p h => by
    cases p <;> first | rfl | (simp [PV.pure] at h)
  have all : ∀ l : List PV, pureL l = true → l.map (coe1 σ) = l := fun l => by
    induction l with
    | nil => exact fun _ => rfl
    | cons v r ih =>
      intro h
      simp only [pureL, Bool.and_eq_true] at h
      simp only [List.map_cons, one v h.1, ih h.2]
  cases p with
  | agg cs => simp only [PV.pure] at h; simp only [coeV, all cs h]
  | tup cs => simp only [PV.pure] at h; simp only [coeV, all cs h]
  | _ => simp only [coeV]; exact one _ h
theorem fin_pure : ∀ {p : PV} (σ : Heap), p.pure = true → finV σ p = p := by
  intro p σ h
  have one : ∀ p : PV, p.pure = true → fin1 σ p = p := fun p h => by
    cases p <;> first | rfl | (simp [PV.pure] at h)
  have all : ∀ l : List PV, pureL l = true → l.map (fin1 σ) = l := fun l => by
    induction l with
    | nil => exact fun _ => rfl
    | cons v r ih =>
      intro h
      simp only [pureL, Bool.and_eq_true] at h
      simp only [List.map_cons, one v h.1, ih h.2]
  cases p with
  | agg cs => simp only [PV.pure] at h; simp only [finV, all cs h]
  | tup cs => simp only [PV.pure] at h; simp only [finV, all cs h]
  | _ => simp only [finV]; exact one _ h
/-- The arguments in their canonical form. -/
def canonA : List (Bool × List (Option Nat)) → List PV → List PV
  | (_, sh) :: ks, v :: vs => canonV sh v :: canonA ks vs
  | _, vs => vs
theorem keepArgs_pure (σ : Heap) : ∀ (ks : List (Bool × List (Option Nat))) (vs : List PV), (ks.all fun k => !k.1) = true → pureL vs = true → keepArgs σ ks vs = canonA ks vs
  | [], vs, _, h => by
    simp only [keepArgs, canonA]
    induction vs with
    | nil => rfl
    | cons v vs ih =>
      simp only [pureL, Bool.and_eq_true] at h
      simp only [List.map_cons, keep_pure σ h.1, ih h.2]
  | (true, _) :: ks, vs, h, _ => by simp at h
  | (false, _) :: ks, [], _, _ => rfl
  | (false, sh) :: ks, v :: vs, hk, h => by
    simp only [pureL, Bool.and_eq_true] at h
    simp only [List.all_cons, Bool.and_eq_true] at hk
    simp only [keepArgs, canonA, keep_pure σ h.1, keepArgs_pure σ ks vs hk.2 h.2]
theorem finArgs_pure (σ : Heap) : ∀ (ks : List (Bool × List (Option Nat))) (vs : List PV), pureL vs = true → finArgs σ ks vs = canonA ks vs
  | [], vs, h => by
    simp only [finArgs, canonA]
    induction vs with
    | nil => rfl
    | cons v vs ih =>
      simp only [pureL, Bool.and_eq_true] at h
      simp only [List.map_cons, fin_pure σ h.1, ih h.2]
  | (_, _) :: ks, [], _ => rfl
  | (_, sh) :: ks, v :: vs, h => by
    simp only [pureL, Bool.and_eq_true] at h
    simp only [finArgs, canonA, fin_pure σ h.1, finArgs_pure σ ks vs h.2]
theorem canon1_keep {s : Option Nat} {p : PV} (h : p.pure = true) : (canon1 s p).pure = true := by
  unfold canon1
  split
  · rfl
  · split <;> exact h
  · exact h
theorem canonL_keep : ∀ {ss : List (Option Nat)} {l : List PV}, pureL l = true → pureL (canonL ss l) = true
  | [], l, h => by cases l <;> exact h
  | s :: ss, [], h => rfl
  | s :: ss, v :: vs, h => by
    simp only [canonL, pureL, Bool.and_eq_true] at h ⊢
    exact ⟨canon1_keep h.1, canonL_keep h.2⟩
theorem canonV_keep {sh : List (Option Nat)} {p : PV} (h : p.pure = true) : (canonV sh p).pure = true := by
  unfold canonV
  split
  · exact canonL_keep h
  · split
    · exact canon1_keep h
    · exact h
theorem canonA_keep : ∀ {ks : List (Bool × List (Option Nat))} {vs : List PV}, pureL vs = true → pureL (canonA ks vs) = true
  | [], vs, h => by cases vs <;> exact h
  | _ :: ks, [], h => rfl
  | (_, sh) :: ks, v :: vs, h => by
    simp only [canonA, pureL, Bool.and_eq_true] at h ⊢
    exact ⟨canonV_keep h.1, canonA_keep h.2⟩
theorem finVs_pure {ks : List (Bool × List (Option Nat))} {vs : List PV} {σ : Heap} (h : pureL vs = true) : finVs ks vs σ = some (canonA ks vs) := by
  unfold finVs
  rw [finArgs_pure σ ks vs h, if_pos (canonA_keep h)]
/-- A call whose arguments are values in their canonical form. -/
theorem callK_pure {R : Type} {C : Funcs} {X : Ext} {f : Nat} {pf : PFunc} (hf : C f = some pf) {σ : Heap} {pc : Bool} {args rs : List PV} {k : PV → Heap → Option R}
    (h0 : (pf.keep.all (fun k => !k.1) && !pf.keepr.any (·.1)) = true) (h1 : pureL args = true) (h2 : canonA pf.keep args = args) (h : (Hw C X).pure f args = some rs) : callK C (Hw C X) σ pc (.fn f []) args k = k (packP rs) σ := by
  rw [Bool.and_eq_true] at h0
  have h3 : keepArgs σ pf.keep args = args := (keepArgs_pure σ pf.keep args h0.1 h1).trans h2
  have h4 : asPure C f args = true := by
    unfold asPure
    rw [hf, h1]
    simpa using h0.2
  simp only [callK, List.append_nil, evCall, hf, Option.map_some, Option.getD_some, h3, h4, if_true, h, Option.bind_some]
/-- A call whose arguments are values. -/
theorem callK_pure2 {R : Type} {C : Funcs} {X : Ext} {f : Nat} {pf : PFunc} (hf : C f = some pf) {σ : Heap} {pc : Bool} {args args' rs : List PV} {k : PV → Heap → Option R}
    (h0 : (pf.keep.all (fun k => !k.1) && !pf.keepr.any (·.1)) = true) (h1 : pureL args = true) (h2 : canonA pf.keep args = args') (h : (Hw C X).pure f args' = some rs) : callK C (Hw C X) σ pc (.fn f []) args k = k (packP rs) σ := by
  rw [Bool.and_eq_true] at h0
  have h3 : keepArgs σ pf.keep args = args' := (keepArgs_pure σ pf.keep args h0.1 h1).trans h2
  have h5 : pureL args' = true := by rw [← h2]; exact canonA_keep h1
  have h4 : asPure C f args' = true := by
    unfold asPure
    rw [hf, h5]
    simpa using h0.2
  simp only [callK, List.append_nil, evCall, hf, Option.map_some, Option.getD_some, h3, h4, if_true, h, Option.bind_some]
/-- The same for a function that isn't evaluated. -/
theorem callK_ext {R : Type} {C : Funcs} {X : Ext} {f : Nat} (hf : C f = none) {σ : Heap} {pc : Bool} {args rs : List PV} {k : PV → Heap → Option R}
    (h1 : pureL args = true) (h : X.pure f args = some rs) : callK C (Hw C X) σ pc (.fn f []) args k = k (packP rs) σ := by
  have h3 : keepArgs σ [] args = args := by
    have := keepArgs_pure σ [] args rfl h1
    rw [this]
    cases args <;> rfl
  have h4 : asPure C f args = true := by
    unfold asPure
    rw [hf, h1]
    rfl
  have h5 : (Hw C X).pure f args = some rs := (pure_ext hf args).trans h
  simp only [callK, List.append_nil, evCall, hf, Option.map_none, Option.getD_none, h3, h4, if_true, h5, Option.map_some, Option.bind_some]

/-! ### The helpers -/
section
variable {R : Type}
@[simp] theorem condK_true (A B : Unit → Option R) : condK (.bool true) A B = A () := rfl
@[simp] theorem condK_false (A B : Unit → Option R) : condK (.bool false) A B = B () := rfl
theorem condK_bool (b : Bool) (A B : Unit → Option R) : condK (.bool b) A B = if b = true then A () else B () := by cases b <;> rfl
@[simp] theorem guardR_yes (b : Bool) (m : Nat) (σ : Heap) (A : Unit → Option (List PV × Heap)) : guardR (.bool b) b m σ A = A () := by cases b <;> rfl
@[simp] theorem guardR_tf (m : Nat) (σ : Heap) (A : Unit → Option (List PV × Heap)) : guardR (.bool true) false m σ A = some (List.replicate m (.tup []), σ) := rfl
@[simp] theorem guardR_ft (m : Nat) (σ : Heap) (A : Unit → Option (List PV × Heap)) : guardR (.bool false) true m σ A = some (List.replicate m (.tup []), σ) := rfl
@[simp] theorem guardR_tup (b : Bool) (m : Nat) (σ : Heap) (A : Unit → Option (List PV × Heap)) : guardR (.tup []) b m σ A = some (List.replicate m (.tup []), σ) := rfl
@[simp] theorem pickV_true (a b : PV) : pickV (.bool true) a b = some a := rfl
@[simp] theorem pickV_false (a b : PV) : pickV (.bool false) a b = some b := rfl
@[simp] theorem nthV_zero (v : PV) (l : List PV) : nthV (v :: l) 0 = v := rfl
@[simp] theorem nthV_succ (v : PV) (l : List PV) (i : Nat) : nthV (v :: l) (i + 1) = nthV l i := rfl
@[simp] theorem boxV_agg (cs : List PV) (σ : Heap) : boxV (.agg cs) σ = some (σ ++ [.box cs]) := rfl
@[simp] theorem boxV_sl (st : Nat) (f : Bool) (r : List (List PV)) (σ : Heap) : boxV (.sl st f r) σ = some (σ ++ [.box [.sl st f r]]) := rfl
@[simp] theorem boxV_int (k : IntKind) (n : Int) (σ : Heap) : boxV (.int k n) σ = some (σ ++ [.box [.int k n]]) := rfl
@[simp] theorem boxV_bool (b : Bool) (σ : Heap) : boxV (.bool b) σ = some (σ ++ [.box [.bool b]]) := rfl
@[simp] theorem boxV_str (s : List UInt8) (σ : Heap) : boxV (.str s) σ = some (σ ++ [.box [.str s]]) := rfl
@[simp] theorem faddrV_ptr (off id o : Nat) : faddrV off (.ptr id o) = some (.ptr id (o + off)) := rfl
@[simp] theorem faddrV_cref (off : Nat) (cs : List PV) : faddrV off (.cref cs) = some (.cref (cs.drop off)) := rfl
@[simp] theorem loadV_cref (σ : Heap) (a : Bool) (sz : Nat) (cs : List PV) : loadV σ a sz (.cref cs) = loadP a sz cs := rfl
theorem loadV_ptr {σ : Heap} {id : Nat} {cs : List PV} (h : σ[id]? = some (.box cs)) (a : Bool) (sz off : Nat) : loadV σ a sz (.ptr id off) = loadP a sz (cs.drop off) := by
  simp only [loadV, cellsAt, h, Option.bind_some]
@[simp] theorem loadV_ptr0 (cs : List PV) (σ : Heap) (a : Bool) (sz off : Nat) : loadV (.box cs :: σ) a sz (.ptr 0 off) = loadP a sz (cs.drop off) := rfl
@[simp] theorem loadV_ptrS (o : Obj) (σ : Heap) (a : Bool) (sz id off : Nat) : loadV (o :: σ) a sz (.ptr (id + 1) off) = loadV σ a sz (.ptr id off) := rfl
@[simp] theorem loadP_one (sz : Nat) (v : PV) (cs : List PV) : loadP false sz (v :: cs) = some v := rfl
theorem loadP_agg (sz : Nat) (cs : List PV) (h : sz ≤ cs.length) : loadP true sz cs = some (.agg (cs.take sz)) := if_pos h
@[simp] theorem lenP_sl (σ : Heap) (st : Nat) (f : Bool) (rows : List (List PV)) : lenP σ .slice (.sl st f rows) = some rows.length := rfl
@[simp] theorem lenP_nils (σ : Heap) : lenP σ .slice .nils = some 0 := rfl
@[simp] theorem lenP_str (σ : Heap) (s : List UInt8) : lenP σ .str (.str s) = some s.length := rfl
theorem iaddrV_sl (σ : Heap) (st : Nat) (f : Bool) (rows : List (List PV)) (k : IntKind) (i : Nat) : iaddrV σ st (.sl st f rows) (.int k (i : Int)) = (rows[i]?).map .cref := by
  simp only [iaddrV, evPrim, Opd.ev]
  rw [if_pos ⟨trivial, Int.natCast_nonneg i⟩, Int.toNat_natCast]
  cases rows[i]? <;> rfl
theorem idxV_str (s : List UInt8) (k : IntKind) (i : Nat) : idxV (.str s) (.int k (i : Int)) = (s[i]?).map fun b => .int .u8 (b.toNat : Int) := by
  simp only [idxV, evPrim, Opd.ev]
  rw [if_pos (Int.natCast_nonneg i), Int.toNat_natCast]
  cases s[i]? <;> rfl
@[simp] theorem extV_zero (v : PV) (l : List PV) : extV (.tup (v :: l)) 0 = some v := rfl
@[simp] theorem extV_succ (v : PV) (l : List PV) (i : Nat) : extV (.tup (v :: l)) (i + 1) = extV (.tup l) i := rfl
@[simp] theorem not_bool (b : Bool) : evUn .not (.bool b) = some (.bool (!b)) := rfl
@[simp] theorem bin_eql (k : IntKind) (t : TyK) (a b : Int) : evBin .eql t (.int k a) (.int k b) = some (.bool (decide (a = b))) := by simp [evBin, intBin]; rfl
@[simp] theorem bin_neq (k : IntKind) (t : TyK) (a b : Int) : evBin .neq t (.int k a) (.int k b) = some (.bool (!decide (a = b))) := by simp [evBin, intBin]; rfl
@[simp] theorem bin_lss (k : IntKind) (t : TyK) (a b : Int) : evBin .lss t (.int k a) (.int k b) = some (.bool (decide (a < b))) := by simp [evBin, intBin]
@[simp] theorem bin_leq (k : IntKind) (t : TyK) (a b : Int) : evBin .leq t (.int k a) (.int k b) = some (.bool (decide (a ≤ b))) := by simp [evBin, intBin]
@[simp] theorem bin_gtr (k : IntKind) (t : TyK) (a b : Int) : evBin .gtr t (.int k a) (.int k b) = some (.bool (decide (a > b))) := by simp [evBin, intBin]
@[simp] theorem bin_geq (k : IntKind) (t : TyK) (a b : Int) : evBin .geq t (.int k a) (.int k b) = some (.bool (decide (a ≥ b))) := by simp [evBin, intBin]
@[simp] theorem bin_add (k : IntKind) (t : TyK) (a b : Int) : evBin .add t (.int k a) (.int k b) = some (.int k (k.wrap (a + b))) := by simp [evBin, intBin]
@[simp] theorem bin_sub (k : IntKind) (t : TyK) (a b : Int) : evBin .sub t (.int k a) (.int k b) = some (.int k (k.wrap (a - b))) := by simp [evBin, intBin]
@[simp] theorem bin_mul (k : IntKind) (t : TyK) (a b : Int) : evBin .mul t (.int k a) (.int k b) = some (.int k (k.wrap (a * b))) := by simp [evBin, intBin]
theorem dec_nat (a b : Nat) : decide ((a : Int) = (b : Int)) = decide (a = b) := by
  by_cases h : a = b
  · simp [h]
  · rw [decide_eq_false h, decide_eq_false (by omega)]
@[simp high] theorem bin_neqN (k : IntKind) (t : TyK) (a b : Nat) : evBin .neq t (.int k (a : Int)) (.int k (b : Int)) = some (.bool (!decide (a = b))) := by rw [bin_neq, dec_nat]
@[simp high] theorem bin_eqlN (k : IntKind) (t : TyK) (a b : Nat) : evBin .eql t (.int k (a : Int)) (.int k (b : Int)) = some (.bool (decide (a = b))) := by rw [bin_eql, dec_nat]
@[simp] theorem bin_seql (t : TyK) (a b : List UInt8) : evBin .eql t (.str a) (.str b) = some (.bool (decide (a = b))) := by
  simp only [evBin, strBin, Option.some.injEq, PV.bool.injEq]
  by_cases h : a = b
  · simp [h]
  · simp [h]
@[simp] theorem bin_sneq (t : TyK) (a b : List UInt8) : evBin .neq t (.str a) (.str b) = some (.bool (!decide (a = b))) := by
  simp only [evBin, strBin, Option.some.injEq, PV.bool.injEq]
  by_cases h : a = b
  · simp [h]
  · simp [h]
@[simp] theorem bin_slss (t : TyK) (a b : List UInt8) : evBin .lss t (.str a) (.str b) = some (.bool (Op.bytesLess a b)) := by simp [evBin, strBin]
@[simp] theorem bin_beql (a b : Bool) : evBin .eql .bool (.bool a) (.bool b) = some (.bool (decide (a = b))) := by cases a <;> cases b <;> rfl
@[simp] theorem bin_bneq (a b : Bool) : evBin .neq .bool (.bool a) (.bool b) = some (.bool (!decide (a = b))) := by cases a <;> cases b <;> rfl
end
theorem wrap_i64 {n : Int} (h1 : -9223372036854775808 ≤ n) (h2 : n < 9223372036854775808) : IntKind.i64.wrap n = n := by
  simp only [IntKind.wrap, IntKind.bits, IntKind.signed]
  simp
  omega
theorem wrap_nat {n : Nat} (h : n < 9223372036854775808) : IntKind.i64.wrap (n : Int) = (n : Int) := wrap_i64 (by omega) (by omega)
theorem wrap_succ {n : Nat} (h : n < 9223372036854775807) : IntKind.i64.wrap ((n : Int) + 1) = ((n + 1 : Nat) : Int) := wrap_i64 (by omega) (by omega)
/-! ### Slices of parts -/
def encL {α : Type} (st : Nat) (f : α → List PV) (xs : List α) : PV := .sl st false (xs.map f)
theorem iaddr_enc {α : Type} {st : Nat} {f : α → List PV} {xs : List α} (σ : Heap) (k : IntKind) {i : Nat} (h : i < xs.length) : iaddrV σ st (encL st f xs) (.int k (i : Int)) = some (.cref (f xs[i])) := by
  simp [encL, iaddrV_sl, h]
@[simp] theorem len_enc {α : Type} {st : Nat} {f : α → List PV} {xs : List α} (σ : Heap) : lenP σ .slice (encL st f xs) = some xs.length := by simp [encL]
theorem drop_eq_iff {α : Type} {xs ys : List α} {i : Nat} (h : i < xs.length) (h' : i < ys.length) : xs.drop i = ys.drop i ↔ xs[i] = ys[i] ∧ xs.drop (i + 1) = ys.drop (i + 1) := by
  rw [List.drop_eq_getElem_cons h, List.drop_eq_getElem_cons h', List.cons.injEq]
theorem fin_bool (keepr : List (Bool × List (Option Nat))) (hk : canonA keepr [.bool true] = [.bool true] ∧ canonA keepr [.bool false] = [.bool false]) (b : Bool) (σ : Heap) : finVs keepr [.bool b] σ = some [.bool b] := by
  rw [finVs_pure rfl]
  cases b
  · rw [hk.2]
  · rw [hk.1]
end Go.PE
