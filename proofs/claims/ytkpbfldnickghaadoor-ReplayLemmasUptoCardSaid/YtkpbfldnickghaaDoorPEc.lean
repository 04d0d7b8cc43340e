/- The operations: from the program's to the evaluator's, and that each does in the machine what it does in the evaluator (first part). -/
import Derived.Test.YtkpbfldnickghaaDoorPEb
import Derived.Laws.Cells
import Derived.Laws.Slices
import Derived.Laws.Strings
import Derived.OwnWalk
set_option linter.unusedVariables false
set_option linter.unusedSimpArgs false
set_option linter.unusedSectionVars false
namespace Go.PE
variable [Globs]
open Go.RowKit (Below)

/-! ### Lists of rows -/
theorem flat_length {st : Nat} : ∀ {rows : List (List PV)}, (∀ r ∈ rows, r.length = st) → rows.flatten.length = rows.length * st
  | [], _ => by simp
  | r :: rows, h => by
    rw [List.flatten_cons, List.length_append, h r (by simp), flat_length fun r' hr' => h r' (by simp [hr']), List.length_cons, Nat.succ_mul, Nat.add_comm]
theorem flat_get {st : Nat} : ∀ {rows : List (List PV)}, (∀ r ∈ rows, r.length = st) → ∀ {j i : Nat} {r : List PV} {p : PV}, rows[j]? = some r → r[i]? = some p → rows.flatten[j * st + i]? = some p
  | [], _, j, i, r, p, h1, _ => by simp at h1
  | r0 :: rows, h, j, i, r, p, h1, h2 => by
    have h0 : r0.length = st := h r0 (by simp)
    cases j with
    | zero =>
      simp at h1; subst h1
      have hi := (List.getElem?_eq_some_iff.1 h2).1
      rw [Nat.zero_mul, Nat.zero_add, List.flatten_cons, List.getElem?_append_left hi]; exact h2
    | succ j =>
      have h1' : rows[j]? = some r := by simpa using h1
      have ih := flat_get (fun r' hr' => h r' (by simp [hr'])) h1' h2
      rw [List.flatten_cons, List.getElem?_append_right (by rw [h0, Nat.succ_mul]; omega), h0]
      rw [show (j + 1) * st + i - st = j * st + i by rw [Nat.succ_mul]; omega]
      exact ih
theorem flat_at {st : Nat} {rows : List (List PV)} (h : ∀ r ∈ rows, r.length = st) {k : Nat} {p : PV} (hk : rows.flatten[k]? = some p) :
    ∃ j i r, k = j * st + i ∧ i < st ∧ rows[j]? = some r ∧ r[i]? = some p := by
  have hlt := (List.getElem?_eq_some_iff.1 hk).1
  rw [flat_length h] at hlt
  have hst : 0 < st := by
    rcases Nat.eq_zero_or_pos st with h0 | h0
    · subst h0; simp at hlt
    · exact h0
  have hj : k / st < rows.length := Nat.div_lt_of_lt_mul (by rw [Nat.mul_comm]; exact hlt)
  have hi : k % st < st := Nat.mod_lt _ hst
  have hr := h rows[k / st] (List.getElem_mem hj)
  have e : k = k / st * st + k % st := by rw [Nat.mul_comm]; exact (Nat.div_add_mod k st).symm
  refine ⟨k / st, k % st, rows[k / st], e, hi, List.getElem?_eq_getElem hj, ?_⟩
  have := flat_get h (List.getElem?_eq_getElem hj) (List.getElem?_eq_getElem (show k % st < (rows[k / st]).length by omega))
  rw [← e, hk] at this
  rw [List.getElem?_eq_getElem (show k % st < (rows[k / st]).length by omega), ← this]
theorem add_zero (a : Addr) : a.add 0 = a := rfl
theorem add_add (a : Addr) (m n : Nat) : (a.add m).add n = a.add (m + n) := by
  unfold Addr.add
  by_cases h1 : m = 0 <;> by_cases h2 : n = 0 <;> simp [h1, h2, Nat.add_assoc]
theorem add_lit' (g j : Nat) : (⟨g, 0, none⟩ : Addr).add j = ⟨g, j, none⟩ := by unfold Addr.add; split <;> simp_all
theorem add_litO (g o j : Nat) : (⟨g, o, none⟩ : Addr).add j = ⟨g, o + j, none⟩ := by unfold Addr.add; split <;> simp_all

section
variable {w : World} {g : Gh} {σ : Heap}

theorem Rep.sl_of {a : Addr} {cap st : Nat} {full : Bool} {rows : List (List PV)} {vs : List Value} (hcap : rows.length ≤ cap) (hfull : full = true → cap = rows.length) (hst : ∀ r ∈ rows, r.length = st)
    (hv : RepL w g σ vs rows.flatten) (hc : ∀ (i : Nat) u, vs[i]? = some u → w.cell? (a.add i) = some u ∧ g.prot (a.add i)) : Rep w g σ (.slice (some a) rows.length cap) (.sl st full rows) := by
  have key : ∀ (j i : Nat) (r : List PV) p, rows[j]? = some r → r[i]? = some p → ∃ v, vs[j * st + i]? = some v ∧ Rep w g σ v p := fun j i r p h1 h2 => hv.get (flat_get hst h1 h2)
  refine .sl a _ cap st full rows (fun j i => vs.getD (j * st + i) undef) rfl hcap hfull hst (fun j i r p h1 h2 => ?_) fun j i r p h1 h2 => ?_
  · obtain ⟨v, hv1, _⟩ := key j i r p h1 h2
    rw [List.getD_eq_getElem?_getD, hv1]
    exact hc _ v hv1
  · obtain ⟨v, hv1, hv2⟩ := key j i r p h1 h2
    rw [List.getD_eq_getElem?_getD, hv1]
    exact hv2
theorem Rep.sl_inv {v : Value} {st : Nat} {full : Bool} {rows : List (List PV)} (h : Rep w g σ v (.sl st full rows)) :
    ∃ A cap, v = .slice A rows.length cap ∧ rows.length ≤ cap ∧ (full = true → cap = rows.length) ∧ (∀ r ∈ rows, r.length = st) ∧
      ((A = none ∧ rows = [] ∧ cap = 0) ∨ ∃ a vs, A = some a ∧ RepL w g σ vs rows.flatten ∧ ∀ (i : Nat) u, vs[i]? = some u → w.cell? (a.add i) = some u ∧ g.prot (a.add i)) := by
  cases h with
  | sl0 => exact ⟨none, 0, rfl, by simp, fun _ => rfl, by simp, .inl ⟨rfl, rfl, rfl⟩⟩
  | sl a n cap st full rows c hn hcap hfull hst hc hr =>
    subst hn
    refine ⟨some a, cap, rfl, hcap, hfull, hst, .inr ⟨a, (List.range rows.flatten.length).map fun k => c (k / st) (k % st), rfl, ⟨by simp, fun k v p hv hp => ?_⟩, fun k u hu => ?_⟩⟩
    · obtain ⟨j, i, r, rfl, hi, h1, h2⟩ := flat_at hst hp
      have hlt := (List.getElem?_eq_some_iff.1 hp).1
      rw [List.getElem?_map, List.getElem?_range hlt] at hv
      simp only [Option.map_some, Option.some.injEq] at hv
      have e1 : (j * st + i) / st = j := by rw [Nat.mul_comm, Nat.mul_add_div (by omega), Nat.div_eq_of_lt hi, Nat.add_zero]
      have e2 : (j * st + i) % st = i := by rw [Nat.mul_comm, Nat.mul_add_mod, Nat.mod_eq_of_lt hi]
      rw [e1, e2] at hv
      subst hv
      exact hr j i r p h1 h2
    · have hlt : k < rows.flatten.length := by simpa using (List.getElem?_eq_some_iff.1 hu).1
      obtain ⟨j, i, r, rfl, hi, h1, h2⟩ := flat_at hst (List.getElem?_eq_getElem hlt)
      rw [List.getElem?_map, List.getElem?_range hlt] at hu
      simp only [Option.map_some, Option.some.injEq] at hu
      have e1 : (j * st + i) / st = j := by rw [Nat.mul_comm, Nat.mul_add_div (by omega), Nat.div_eq_of_lt hi, Nat.add_zero]
      have e2 : (j * st + i) % st = i := by rw [Nat.mul_comm, Nat.mul_add_mod, Nat.mod_eq_of_lt hi]
      rw [e1, e2] at hu
      subst hu
      exact hc j i r _ h1 h2
theorem Rep.cref_of {a : Addr} {cells : List PV} {vs : List Value} (hv : RepL w g σ vs cells) (hc : ∀ (i : Nat) u, vs[i]? = some u → w.cell? (a.add i) = some u ∧ g.prot (a.add i)) : Rep w g σ (.pointer (some a)) (.cref cells) := by
  refine .cref a cells (fun i => vs.getD i undef) (fun i p h => ?_) fun i p h => ?_
  · obtain ⟨v, hv1, _⟩ := hv.get h
    rw [List.getD_eq_getElem?_getD, hv1]
    exact hc _ v hv1
  · obtain ⟨v, hv1, hv2⟩ := hv.get h
    rw [List.getD_eq_getElem?_getD, hv1]
    exact hv2
theorem Rep.cref_inv {v : Value} {cells : List PV} (h : Rep w g σ v (.cref cells)) : ∃ a vs, v = .pointer (some a) ∧ RepL w g σ vs cells ∧ ∀ (i : Nat) u, vs[i]? = some u → w.cell? (a.add i) = some u ∧ g.prot (a.add i) := by
  cases h with
  | cref a cells c hc hr =>
    refine ⟨a, (List.range cells.length).map c, rfl, ⟨by simp, fun k v p hv hp => ?_⟩, fun k u hu => ?_⟩
    · have hlt := (List.getElem?_eq_some_iff.1 hp).1
      rw [List.getElem?_map, List.getElem?_range hlt] at hv
      simp only [Option.map_some, Option.some.injEq] at hv
      subst hv
      exact hr k p hp
    · have hlt : k < cells.length := by simpa using (List.getElem?_eq_some_iff.1 hu).1
      rw [List.getElem?_map, List.getElem?_range hlt] at hu
      simp only [Option.map_some, Option.some.injEq] at hu
      subst hu
      exact hc k _ (List.getElem?_eq_getElem hlt)
theorem Rep.int_inv {v : Value} {k : IntKind} {n : Int} (h : Rep w g σ v (.int k n)) : v = .int k n := by cases h; rfl
theorem Rep.bool_inv {v : Value} {b : Bool} (h : Rep w g σ v (.bool b)) : v = .bool b := by cases h; rfl
theorem Rep.str_inv {v : Value} {l : List UInt8} (h : Rep w g σ v (.str l)) : ∃ s, v = .string s ∧ s.data.toList = l := by cases h with | str s l h => exact ⟨s, rfl, h⟩
theorem Rep.nils_inv {v : Value} (h : Rep w g σ v .nils) : v = .slice none 0 0 := by cases h; rfl
theorem Rep.ptr_inv {v : Value} {id off : Nat} (h : Rep w g σ v (.ptr id off)) : PtrOK g σ id off v := by cases h with | ptr _ _ _ h => exact h
theorem Rep.own_inv {v : Value} {id st n : Nat} (h : Rep w g σ v (.own id st n)) : OwnOK g σ id st n v := by cases h with | own _ _ _ _ h => exact h
theorem Rep.mp_inv {v : Value} {id : Nat} (h : Rep w g σ v (.mp id)) : MapOK g σ id v := by cases h with | mp _ _ h => exact h

/-- One cell. -/
theorem Rep.one {v : Value} {p : PV} (h : Rep w g σ v p) (hp : p.scalar = true) : v.oneCell' = true := by
  cases h <;> first
    | rfl
    | (simp [PV.scalar] at hp; done)
    | (rename_i h; obtain ⟨⟨_, _, rfl⟩, _⟩ := h; rfl)
    | (rename_i h; obtain ⟨_, _, rfl⟩ := h; rfl)
theorem Rep.cells {v : Value} {p : PV} (h : Rep w g σ v p) {ps : List PV} (hp : p.cells? = some ps) : RepL w g σ v.cells.toList ps := by
  by_cases hs : p.scalar = true
  · have h1 := h.one hs
    have e : v.cells = #[v] := by cases v <;> first | rfl | (simp [Value.oneCell'] at h1; done)
    have e2 : ps = [p] := by cases p <;> first | (simp [PV.scalar] at hs; done) | (simp only [PV.cells?, Option.some.injEq] at hp; exact hp.symm)
    subst e2
    rw [e]
    exact RepL.cons h (RepL.nil w g σ)
  · cases p <;> first | (simp [PV.scalar] at hs; done) | (simp [PV.cells?] at hp; done) | skip
    rename_i cs
    obtain ⟨vs, rfl, hr⟩ := h.agg_inv
    simp only [PV.cells?, Option.some.injEq] at hp
    subst hp
    exact hr

/-! ### Operands -/
def pvConst1 : Value → Option PV
  | .bool b => some (.bool b)
  | .int k n => some (.int k n)
  | .string s => some (.str s.data.toList)
  | .slice none 0 0 => some .nils
  | .pointer none => some .nilp
  | .nilFunc => some .nilf
  | .map none => some .nilm
  | .nilIface => some .nili
  | _ => none
def pvConsts : List Value → Option (List PV)
  | [] => some []
  | v :: r => match pvConst1 v, pvConsts r with
    | some p, some ps => some (p :: ps)
    | _, _ => none
def pvConst : Value → Option PV
  | .agg cs => (pvConsts cs.toList).map .agg
  | v => pvConst1 v
def cOpd : Operand → Option Opd
  | .tmp t => some (.tmp t)
  | .const v => (pvConst v).map .cst
  | .func f => some (.fn f)
  | .global _ => none

theorem pvConst1_rep {v : Value} {p : PV} (h : pvConst1 v = some p) : Rep w g σ v p := by
  unfold pvConst1 at h
  split at h <;> first | (cases h; constructor; done) | (cases h; exact .str _ _ rfl) | cases h
theorem pvConsts_rep : ∀ {vs : List Value} {ps : List PV}, pvConsts vs = some ps → RepL w g σ vs ps
  | [], ps, h => by simp [pvConsts] at h; subst h; exact RepL.nil w g σ
  | v :: vs, ps, h => by
    simp only [pvConsts] at h
    split at h
    · rename_i p ps' h1 h2
      cases h
      exact RepL.cons (pvConst1_rep h1) (pvConsts_rep h2)
    · cases h
theorem pvConst_rep {v : Value} {p : PV} (h : pvConst v = some p) : Rep w g σ v p := by
  unfold pvConst at h
  split at h
  · simp only [Option.map_eq_some_iff] at h
    obtain ⟨ps, h1, rfl⟩ := h
    exact (pvConsts_rep h1).agg
  · exact pvConst1_rep h

theorem pvConsts_scalar : ∀ {vs : List Value} {ps : List PV}, pvConsts vs = some ps → ps.all PV.scalar = true
  | [], ps, h => by simp [pvConsts] at h; subst h; rfl
  | v :: vs, ps, h => by
    simp only [pvConsts] at h
    split at h
    · rename_i p ps' h1 h2
      cases h
      have h3 := pvConsts_scalar h2
      have h4 : p.scalar = true := by
        unfold pvConst1 at h1
        split at h1 <;> first | (cases h1; rfl) | cases h1
      simp [h4, h3]
    · cases h

/-- The temporaries are as the environment says. -/
abbrev Sim (w : World) (g : Gh) (σ : Heap) (a : Act) (e : Env) : Prop := RepL w g σ a.tmps.toList e

theorem ev_ok {a : Act} {e : Env} (hs : Sim w g σ a e) {x : Operand} {px : Opd} (hx : cOpd x = some px) : Rep w g σ (a.eval x) (px.ev e) := by
  cases x with
  | tmp t =>
    cases hx
    simp only [Opd.ev, get, Act.eval]
    cases he : e[t]? with
    | none => exact .top _
    | some p =>
      obtain ⟨v, hv, hr⟩ := hs.get he
      have : a.tmps.getD t undef = v := by
        have : a.tmps[t]? = some v := by simpa using hv
        simp [this]
      rw [this]
      exact hr
  | const v =>
    simp only [cOpd, Option.map_eq_some_iff] at hx
    obtain ⟨p, h1, rfl⟩ := hx
    exact pvConst_rep h1
  | func f =>
    cases hx
    exact .fn f #[] [] rfl fun i v p hv => by simp at hv
  | global g => cases hx
theorem put_ok {a : Act} {e : Env} (hs : Sim w g σ a e) {d : Option Nat} {v : Value} {p : PV} (h : Rep w g σ v p) : Sim w g σ (a.put d v) (put e d p) := by
  cases d with
  | none => exact hs
  | some d =>
    refine ⟨by simp [Act.put, put]; exact by simpa using hs.1, fun i v' p' hv hp => ?_⟩
    simp only [Act.put, Array.toList_setIfInBounds, put] at hv hp
    rw [List.getElem?_set] at hv hp
    by_cases hi : d = i
    · subst hi
      simp only [if_true] at hv hp
      split at hv
      · split at hp
        · cases hv; cases hp; exact h
        · cases hp
      · cases hv
    · simp only [hi, if_false] at hv hp
      exact hs.2 i v' p' hv hp
end

/-! ### What an operation does -/
def ExecOK (P : Program) (base : Nat) (w : World) (g : Gh) (σ : Heap) (s : Sem Next) (p : PV) (σ' : Heap) : Prop :=
  ∃ v w' g', (s.run P w = .ok (.value v) w' ∨ (s.run P w = .ok .skip w' ∧ v = undef)) ∧ Prog base w g σ w' g' σ' ∧ Rep w' g' σ' v p
/-- A value's computation. -/
def ValOK (P : Program) (base : Nat) (w : World) (g : Gh) (σ : Heap) (s : Sem Value) (p : PV) (σ' : Heap) : Prop :=
  ∃ v w' g', s.run P w = .ok v w' ∧ Prog base w g σ w' g' σ' ∧ Rep w' g' σ' v p
section
variable {P : Program} {base : Nat} {w : World} {g : Gh} {σ : Heap}
theorem ValOK.exec {s : Sem Value} {p : PV} {σ' : Heap} (h : ValOK P base w g σ s p σ') : ExecOK P base w g σ (do pure (.value (← s))) p σ' := by
  obtain ⟨v, w', g', h1, h2, h3⟩ := h
  exact ⟨v, w', g', .inl (by simp [h1]), h2, h3⟩
theorem ValOK.pure_ {s : Sem Value} {p : PV} {v : Value} (hi : Inv base w g σ) (h : s.run P w = .ok v w) (hr : Rep w g σ v p) : ValOK P base w g σ s p σ :=
  ⟨v, w, g, h, Prog.refl hi, hr⟩

/-- The cells behind an address. -/
theorem cellsAt_ok (hi : Inv base w g σ) {v : Value} {p : PV} (h : Rep w g σ v p) {cs : List PV} (hc : cellsAt σ p = some cs) :
    ∃ a vs, v = .pointer (some a) ∧ RepL w g σ vs cs ∧ ∀ (i : Nat) u, vs[i]? = some u → w.cell? (a.add i) = some u := by
  cases p <;> first | (simp [cellsAt] at hc; done) | skip
  case ptr id off =>
    obtain ⟨cells, h1, rfl⟩ := h.ptr_inv
    simp only [cellsAt, h1, Option.some.injEq] at hc
    subst hc
    obtain ⟨_, ⟨c, t, hh, hr⟩, _⟩ := hi.obj id _ h1
    refine ⟨_, _, rfl, hr.drop off, fun i u hu => ?_⟩
    rw [List.getElem?_drop] at hu
    rw [add_litO]
    simpa [World.cell?, hh] using hu
  case cref cells =>
    obtain ⟨a, vs, rfl, hr, hcell⟩ := h.cref_inv
    simp only [cellsAt, Option.some.injEq] at hc
    subst hc
    exact ⟨a, vs, rfl, hr, fun i u hu => (hcell i u hu).1⟩

def aggTy (d : TypeDesc) : Bool := match d with | .struct _ | .array _ _ => true | _ => false
theorem run_isAgg_of {t : TypeId} {d : TypeDesc} (h : P.underlying t = some d) (w : World) : (isAgg t).run P w = .ok (aggTy d) w := by
  simp only [isAgg, Sem.run_bind, run_underlying h, Result.andThen_ok]
  cases d <;> rfl
theorem run_sizeOf_of {t : TypeId} {i : TypeInfo} (h : P.info? t = some i) (w : World) : (sizeOf t).run P w = .ok i.size w := by
  simp [sizeOf, typeInfo, h]
theorem run_zero_of {t : TypeId} {i : TypeInfo} {z : Value} (h : P.info? t = some i) (hz : i.zero = some z) (w : World) : (zeroValue t).run P w = .ok z w := by
  simp [zeroValue, typeInfo, h, hz]

theorem loadVar_ok (hi : Inv base w g σ) {a : Addr} {vs : List Value} {cs : List PV} (hr : RepL w g σ vs cs) (hc : ∀ (i : Nat) u, vs[i]? = some u → w.cell? (a.add i) = some u)
    {t : TypeId} {d : TypeDesc} {i : TypeInfo} (hd : P.underlying t = some d) (hinfo : P.info? t = some i) {p : PV} (hp : loadP (aggTy d) i.size cs = some p) : ∃ v, (loadVar t a).run P w = .ok v w ∧ Rep w g σ v p := by
  unfold loadP at hp
  simp only [loadVar, Sem.run_bind, run_isAgg_of hd, Result.andThen_ok]
  cases hagg : aggTy d with
  | true =>
    rw [hagg] at hp
    simp only [if_true] at hp ⊢
    split at hp
    · rename_i hle
      cases hp
      have hl : (vs.take i.size).length = i.size := by rw [List.length_take, hr.1]; omega
      have hld := run_loadCells_list (P := P) w a (vs.take i.size) fun j u hj => by
        rw [List.getElem?_take] at hj
        split at hj
        · exact hc j u hj
        · cases hj
      rw [hl] at hld
      refine ⟨.agg (vs.take i.size).toArray, ?_, RepL.agg (by simpa using hr.take i.size)⟩
      simp [run_sizeOf_of hinfo, hld]
    · cases hp
  | false =>
    rw [hagg] at hp
    simp only [Bool.false_eq_true, if_false] at hp ⊢
    obtain ⟨v, hv, hrep⟩ := hr.get hp
    refine ⟨v, ?_, hrep⟩
    have := hc 0 v hv
    rw [add_zero] at this
    simp [this]
end
end Go.PE
