/- The operations, second part: which of the evaluator's an operation of the program is; and that each does the same. -/
import Derived.Test.YtkpbfldnickghaaDoorPEc
import Derived.Laws.Tables
import Derived.Laws.AppendOwn
import Derived.Laws.MakeOwn
import Derived.Laws.Rows
import Derived.Lib.IndexBytes
set_option linter.unusedVariables false
set_option linter.unusedSimpArgs false
set_option linter.unusedSectionVars false
namespace Go.PE
variable [Globs]
open Go.RowKit (Below)

/-! ### Which operation it is -/
def tyk (P : Program) (t : TypeId) : TyK :=
  match P.underlying t with
  | some (.int _) => .int
  | some .bool => .bool
  | some .string => .str
  | some (.slice _) => .slice
  | some (.pointer _) => .ptr
  | some (.func _ _ _) => .func
  | some (.map _ _) => .map
  | some (.interface _) => .iface
  | _ => .other
def cOpds : List Operand → Option (List Opd)
  | [] => some []
  | x :: r => match cOpd x, cOpds r with
    | some p, some ps => some (p :: ps)
    | _, _ => none
def cOpt : Option Operand → Option (Option Opd)
  | none => some none
  | some x => (cOpd x).map some
def cParts (place : Nat → Option (Nat × Nat)) : List (Nat × Operand) → Option (List (Nat × Nat × Opd))
  | [] => some []
  | (i, x) :: r => match place i, cOpd x, cParts place r with
    | some (off, sz), some p, some ps => some ((off, sz, p) :: ps)
    | _, _, _ => none
def cPartsR : List (Nat × Operand) → Option (List (Nat × Opd))
  | [] => some []
  | (i, x) :: r => match cOpd x, cPartsR r with
    | some p, some ps => some ((i, p) :: ps)
    | _, _ => none
def plainKey (P : Program) (t : TypeId) : Bool :=
  match P.underlying t with
  | some (.int _) | some .string | some .bool => true
  | _ => false
/-- Of each cell of a type: how wide the elements are, if it is a slice. -/
def cellTys (P : Program) : Nat → TypeId → List (Option Nat)
  | 0, _ => []
  | n + 1, t => match P.underlying t with
    | some (.struct fields) => fields.toList.flatMap fun f => cellTys P n f.type
    | some (.array k e) => (List.replicate k (cellTys P n e)).flatten
    | some (.slice e) => match P.info? e with
      | some i => [some i.size]
      | none => [none]
    | _ => [none]
def isNilConst : Operand → Bool
  | .const (.slice none 0 0) => true
  | _ => false

def compOp (P : Program) (o : Oper) : Option POp :=
  match o.op with
  | .move x => (cOpd x).map .mov
  | .assign x => (cOpd x).map .mov
  | .pick c a b => match cOpd c, cOpd a, cOpd b with
    | some c, some a, some b => some (.pick c a b)
    | _, _, _ => none
  | .alloc t => match P.info? t with
    | some i => match i.zero with
      | some z => (pvConsts z.cells.toList).map .new
      | none => none
    | none => none
  | .box _ x => (cOpd x).map .box
  | .build t parts => match P.info? t, P.underlying t with
    | some i, some (.struct fields) => match i.zero, fields.toList.mapM (fun f => (P.info? f.type).map fun i => (f.offset, i.size)) with
      | some z, some places => match pvConsts z.cells.toList, cParts (places.toArray[·]?) parts.toList with
        | some zs, some ps => some (.build zs ps)
        | _, _ => none
      | _, _ => none
    | some i, some (.array _ e) => match i.zero, P.info? e with
      | some z, some ie => match pvConsts z.cells.toList, cParts (fun i => some (i * ie.size, ie.size)) parts.toList with
        | some zs, some ps => some (.build zs ps)
        | _, _ => none
      | _, _ => none
    | _, _ => none
  | .buildSlice t len parts => match P.underlying t with
    | some (.slice e) => match P.info? e with
      | some i => match i.zero with
        | some z => match pvConsts z.cells.toList, cPartsR parts.toList with
          | some zs, some ps => if 0 < i.size ∧ zs.length = i.size ∧ pureL zs = true ∧ len * i.size ≤ 16777216 then some (.bslice i.size (cellTys P 20 e) zs len ps) else none
          | _, _ => none
        | none => none
      | none => none
    | _ => none
  | .load t x => match P.underlying t, P.info? t, cOpd x with
    | some d, some i, some x => some (.load (aggTy d) i.size x)
    | _, _, _ => none
  | .store t x y => match P.info? t, cOpd x, cOpd y with
    | some i, some x, some y => some (.store i.size x y)
    | _, _, _ => none
  | .nilCheck x => (cOpd x).map .nilchk
  | .binOp op t x y _ => match cOpd x, cOpd y with
    | some x, some y => some (.bin op (tyk P t) x y)
    | _, _ => none
  | .unOp op _ x => (cOpd x).map (.un op)
  | .convert src dst x => match P.underlying src, P.underlying dst, cOpd x with
    | some _, some (.int k), some x => some (.toint k x)
    | some .string, some .string, some x => some (.tostr x)
    | _, _, _ => none
  | .makeFunc fn first captured => match fn, first.toList, cOpds captured.toList with
    | .func f, [], some caps => some (.mkfn f caps)
    | _, _, _ => none
  | .makeMap _ none => some .mkmap
  | .makeSlice t l c => match P.underlying t with
    | some (.slice e) => match P.info? e, cOpd l, cOpd c with
      | some i, some l, some c => match i.zero with
        | some z => match pvConsts z.cells.toList with
          | some zs => if 0 < i.size ∧ zs.length = i.size ∧ 0 < i.bytes then some (.mkslice e i.size i.bytes zs l c) else none
          | none => none
        | none => none
      | _, _, _ => none
    | _ => none
  | .slice t x lo hi mx => match P.underlying t, cOpd x, cOpt lo, cOpt hi, cOpt mx with
    | some .string, some x, some lo, some hi, some mx => some (.slice true 1 x lo hi mx)
    | some (.slice e), some x, some lo, some hi, some mx => match P.info? e with
      | some i => if 0 < i.size then some (.slice false i.size x lo hi mx) else none
      | none => none
    | _, _, _, _, _ => none
  | .fieldAddr t x f => match P.underlying t, cOpd x with
    | some (.struct fields), some x => match fields[f]? with
      | some fd => match P.info? fd.type with
        | some i => if 0 < i.size then some (.faddr fd.offset x) else none
        | none => none
      | none => none
    | _, _ => none
  | .field t x f => match P.underlying t, cOpd x with
    | some (.struct fields), some x => match fields[f]? with
      | some fd => match P.underlying fd.type, P.info? fd.type with
        | some d, some i => some (.fld (aggTy d) fd.offset i.size x)
        | _, _ => none
      | none => none
    | _, _ => none
  | .indexAddr t x i => match P.underlying t, cOpd x, cOpd i with
    | some (.slice e), some x, some ix => match P.info? e with
      | some i => if 0 < i.size then some (.iaddr i.size x ix) else none
      | none => none
    | _, _, _ => none
  | .index t x i => match P.underlying t, cOpd x, cOpd i with
    | some .string, some x, some i => some (.idxs x i)
    | _, _, _ => none
  | .lookup t x k ok => match P.underlying t, cOpd x, cOpd k with
    | some (.map kt et), some x, some k => match P.info? et with
      | some i => match i.zero with
        | some z => match pvConst z with
          | some zp => if plainKey P kt = true then some (.lookup (tyk P kt) zp x k ok) else none
          | none => none
        | none => none
      | none => none
    | _, _, _ => none
  | .mapUpdate t m k v | .insert t m k v => match P.underlying t, cOpd m, cOpd k, cOpd v with
    | some (.map kt _), some m, some k, some v => if plainKey P kt = true then some (.mapup (tyk P kt) m k v) else none
    | _, _, _, _ => none
  | .extract x i => (cOpd x).map fun x => .ext x i
  | .makeInterface t x => match P.underlying t, cOpd x with
    | some (.interface _), _ => none
    | some _, some x => some (.mkif t x)
    | _, _ => none
  | .call c => match c.callee with
    | .value f => match cOpd f, cOpds c.args.toList with
      | some f, some args => some (.call false f args)
      | _, _ => none
    | .builtin .len => match c.args.toList, c.argTypes.toList with
      | [x], [t] => (cOpd x).map (.len (tyk P t))
      | _, _ => none
    | .builtin .append => match c.args.toList, c.argTypes.toList with
      | [s, x], [t, t'] => if t = t' then (match P.underlying t with
        | some (.slice e) => match P.info? e, cOpd s, cOpd x with
          | some i, some s', some x' => match i.zero with
            | some z => if 0 < i.size ∧ z.cells.size = i.size ∧ 0 < i.bytes then (if isNilConst s then some (.copy i.size i.bytes x') else some (.append e i.size i.bytes s' x')) else none
            | none => none
          | _, _, _ => none
        | _ => none) else none
      | _, _ => none
    | .builtin .max => (cOpds c.args.toList).map .mx
    | .builtin .min => (cOpds c.args.toList).map .mn
    | _ => none
  | _ => none

section
variable {P : Program} {base : Nat} {w : World} {g : Gh} {σ : Heap} {a : Act} {e : Env} {o : Oper}

theorem cOpds_ok (hs : Sim w g σ a e) : ∀ {xs : List Operand} {ps : List Opd}, cOpds xs = some ps → RepL w g σ (xs.map a.eval) (ps.map (·.ev e))
  | [], ps, h => by simp [cOpds] at h; subst h; exact RepL.nil w g σ
  | x :: xs, ps, h => by
    simp only [cOpds] at h
    split at h
    · rename_i p ps' h1 h2
      cases h
      exact RepL.cons (ev_ok hs h1) (cOpds_ok hs h2)
    · cases h

/-! ### Slices that are read -/
theorem chunks_len (st : Nat) : ∀ (n : Nat) (cs : List PV), (chunks st n cs).length = n
  | 0, _ => rfl
  | n + 1, cs => by simp [chunks, chunks_len st n]
theorem chunks_flat (st : Nat) : ∀ (n : Nat) (cs : List PV), cs.length = n * st → (chunks st n cs).flatten = cs ∧ ∀ r ∈ chunks st n cs, r.length = st
  | 0, cs, h => by
    have : cs = [] := List.eq_nil_of_length_eq_zero (by simpa using h)
    subst this
    exact ⟨rfl, by simp [chunks]⟩
  | n + 1, cs, h => by
    rw [Nat.succ_mul] at h
    obtain ⟨h1, h2⟩ := chunks_flat st n (cs.drop st) (by rw [List.length_drop]; omega)
    refine ⟨by simp [chunks, h1], fun r hr => ?_⟩
    simp only [chunks, List.mem_cons] at hr
    rcases hr with rfl | hr
    · rw [List.length_take]; omega
    · exact h2 r hr

/-- What is known of a slice whose rows are known. -/
structure Reads (w : World) (g : Gh) (σ : Heap) (st : Nat) (v : Value) (rows : List (List PV)) (prot : Bool) : Prop where
  ex : ∃ A cap, v = .slice A rows.length cap ∧ rows.length ≤ cap ∧ (∀ r ∈ rows, r.length = st) ∧
    ((A = none ∧ rows = [] ∧ cap = 0) ∨ ∃ ad vs, A = some ad ∧ RepL w g σ vs rows.flatten ∧ ∀ (i : Nat) u, vs[i]? = some u → w.cell? (ad.add i) = some u ∧ (prot = true → g.prot (ad.add i)))

theorem rowsP_ok (hi : Inv base w g σ) {v : Value} {p : PV} (h : Rep w g σ v p) {st : Nat} {rows : List (List PV)} (hr : rowsP σ st p = some rows) : Reads w g σ st v rows true := by
  cases p <;> first | (simp [rowsP] at hr; done) | skip
  case nils =>
    have := h.nils_inv
    simp only [rowsP, Option.some.injEq] at hr
    subst this
    subst hr
    exact ⟨none, 0, rfl, by simp, by simp, .inl ⟨rfl, rfl, rfl⟩⟩
  case sl st' full rows' =>
    simp only [rowsP] at hr
    split at hr
    · rename_i he
      subst he
      cases hr
      obtain ⟨A, cap, h1, h2, _, h3, h4⟩ := h.sl_inv
      refine ⟨A, cap, h1, h2, h3, ?_⟩
      rcases h4 with h4 | ⟨ad, vs, k1, k2, k3⟩
      · exact .inl h4
      · exact .inr ⟨ad, vs, k1, k2, fun i u hu => ⟨(k3 i u hu).1, fun _ => (k3 i u hu).2⟩⟩
    · cases hr
  case own id st' n =>
    simp only [rowsP] at hr
    split at hr
    · rename_i ty st'' rows' ho
      split at hr
      · rename_i he
        obtain ⟨rfl, rfl, rfl⟩ := he
        cases hr
        have hown := h.own_inv
        unfold OwnOK at hown
        rw [ho] at hown
        obtain ⟨_, hown⟩ := hown
        have hv := (hown rfl).2 rfl
        obtain ⟨h1, ⟨c, hh, hs, hr⟩, h3, h3', h4, h5, h6⟩ := hi.obj id _ ho
        refine ⟨_, _, hv, h3, h4, .inr ⟨_, c.toList.take rows.flatten.length, rfl, ⟨?_, fun k v p hv hp => ?_⟩, fun k u hu => ?_⟩⟩
        · have e1 := flat_length h4
          have e2 : c.toList.length = g.cap id * st'' := by simpa using hs
          have := Nat.mul_le_mul_right st'' h3
          rw [List.length_take]
          omega
        · obtain ⟨j, i, r, rfl, hlt, e1, e2⟩ := flat_at h4 hp
          obtain ⟨u, k1, k2, k3⟩ := hr j i r p e1 e2
          rw [List.getElem?_take] at hv
          split at hv
          · rw [Array.getElem?_toList, k1] at hv
            cases hv
            exact k2
          · cases hv
        · rw [List.getElem?_take] at hu
          split at hu
          · rename_i hlt
            obtain ⟨j, i, r, e, hlt', e1, e2⟩ := flat_at h4 (List.getElem?_eq_getElem hlt)
            obtain ⟨u', k1, k2, k3⟩ := hr j i r _ e1 e2
            subst e
            rw [Array.getElem?_toList] at hu
            rw [add_lit']
            exact ⟨by simp [World.cell?, hh, hu], fun _ => k3⟩
          · cases hu
      · cases hr
    · cases hr

theorem rowsOf_ok (hi : Inv base w g σ) {v : Value} {p : PV} (h : Rep w g σ v p) {st : Nat} {rows : List (List PV)} (hr : rowsOf σ st p = some rows) : Reads w g σ st v rows false := by
  have weak : Reads w g σ st v rows true → Reads w g σ st v rows false := fun ⟨A, cap, h1, h2, h3, h4⟩ => ⟨A, cap, h1, h2, h3, by
    rcases h4 with h4 | ⟨ad, vs, k1, k2, k3⟩
    · exact .inl h4
    · exact .inr ⟨ad, vs, k1, k2, fun i u hu => ⟨(k3 i u hu).1, fun h => by cases h⟩⟩⟩
  cases p <;> first | exact weak (rowsP_ok hi h hr) | skip
  case own id st' n =>
    simp only [rowsOf] at hr
    split at hr
    · rename_i cells ho
      split at hr
      · rename_i he
        obtain ⟨rfl, he⟩ := he
        cases hr
        have hown := h.own_inv
        unfold OwnOK at hown
        rw [ho] at hown
        obtain ⟨_, hown⟩ := hown
        have hv := hown he
        obtain ⟨h1, ⟨c, t, hh, hr⟩, h3⟩ := hi.obj id _ ho
        obtain ⟨f1, f2⟩ := chunks_flat st' n cells he
        refine ⟨_, n, by rw [chunks_len]; exact hv, by rw [chunks_len]; exact Nat.le_refl _, f2, .inr ⟨_, c.toList, rfl, by rw [f1]; exact hr, fun i u hu => ?_⟩⟩
        rw [add_lit']
        rw [Array.getElem?_toList] at hu
        exact ⟨by simp [World.cell?, hh, hu], fun h => by cases h⟩
      · cases hr
    · exact weak (rowsP_ok hi h hr)

/-- A slice by value out of one whose cells are protected. -/
theorem Reads.rep {st : Nat} {v : Value} {rows : List (List PV)} (h : Reads w g σ st v rows true) : Rep w g σ v (.sl st false rows) := by
  obtain ⟨A, cap, rfl, h2, h3, h4⟩ := h
  rcases h4 with ⟨rfl, rfl, rfl⟩ | ⟨ad, vs, rfl, k2, k3⟩
  · exact .sl0 st false
  · exact Rep.sl_of h2 (fun h => by cases h) h3 k2 fun i u hu => ⟨(k3 i u hu).1, (k3 i u hu).2 rfl⟩

theorem coe1_ok (hi : Inv base w g σ) {v : Value} {p : PV} (h : Rep w g σ v p) : Rep w g σ v (coe1 σ p) := by
  cases p <;> first | exact h | skip
  case own id st n =>
    simp only [coe1]
    split
    · rename_i ty st' rows ho
      split
      · rename_i he
        refine (rowsP_ok hi h (st := st) ?_).rep
        simp [rowsP, ho, he]
      · exact h
    · exact h
theorem coeV_ok (hi : Inv base w g σ) {v : Value} {p : PV} (h : Rep w g σ v p) : Rep w g σ v (coeV σ p) := by
  cases p <;> first | exact coe1_ok hi h | skip
  case agg cs =>
    obtain ⟨vs, rfl, hr⟩ := h.agg_inv
    have := hr.map (f := id) (q := coe1 σ) fun v p h => coe1_ok hi h
    rw [List.map_id] at this
    exact this.agg
  case tup cs =>
    obtain ⟨vs, rfl, hr⟩ := h.tup_inv
    have := hr.map (f := id) (q := coe1 σ) fun v p h => coe1_ok hi h
    rw [List.map_id] at this
    exact this.tup

theorem canon1_ok {v : Value} {p : PV} (h : Rep w g σ v p) (s : Option Nat) : Rep w g σ v (canon1 s p) := by
  cases s with
  | none => cases p <;> exact h
  | some st =>
    cases p <;> first | exact h | skip
    case nils => rw [h.nils_inv]; exact .sl0 st false
    case sl st' full rows =>
      simp only [canon1]
      split
      · rename_i hc
        obtain ⟨A, cap, h1, h2, h3, h4, h5⟩ := h.sl_inv
        rw [h1]
        have hu : ∀ r ∈ rows, r.length = st := fun r hr => by
          rcases hc with rfl | hc
          · exact h4 r hr
          · rw [List.isEmpty_iff] at hc
            subst hc
            simp at hr
        rcases h5 with ⟨rfl, rfl, rfl⟩ | ⟨ad, vs, rfl, k1, k2⟩
        · exact .sl0 st false
        · exact Rep.sl_of h2 (fun h => by cases h) hu k1 k2
      · exact h
theorem canonL_ok : ∀ (sh : List (Option Nat)) {vs : List Value} {ps : List PV}, RepL w g σ vs ps → RepL w g σ vs (canonL sh ps)
  | [], _, _, h => by simpa [canonL] using h
  | s :: sh, [], [], h => h
  | s :: sh, v :: vs, p :: ps, h => RepL.cons (canon1_ok h.head s) (canonL_ok sh h.tail)
  | _ :: _, [], _ :: _, h => by have := h.1; simp at this
  | _ :: _, _ :: _, [], h => by have := h.1; simp at this
theorem canonV_ok {v : Value} {p : PV} (h : Rep w g σ v p) (sh : List (Option Nat)) : Rep w g σ v (canonV sh p) := by
  cases p <;> first
    | (rename_i cs; obtain ⟨vs, rfl, hr⟩ := h.agg_inv; exact (canonL_ok sh hr).agg)
    | (simp only [canonV]; split <;> first | exact canon1_ok h _ | exact h)

/-! ### The operations, one by one -/
theorem op_mov (hi : Inv base w g σ) (hs : Sim w g σ a e) {x : Operand} {px : Opd} (hx : cOpd x = some px) : ExecOK P base w g σ (pure (.value (a.eval x))) (px.ev e) σ :=
  ⟨_, w, g, .inl rfl, Prog.refl hi, ev_ok hs hx⟩

theorem op_new (hi : Inv base w g σ) {t : TypeId} {cs : Array Value} {ps : List PV} (hr : RepL w g σ cs.toList ps) :
    ∃ g', Prog base w g σ (w.alloc (.cells cs t)) g' (σ ++ [.box ps]) ∧ Rep (w.alloc (.cells cs t)) g' (σ ++ [.box ps]) (.pointer (some ⟨w.heap.size, 0, none⟩)) (.ptr σ.length 0) := by
  obtain ⟨g', h1, h2, _, _⟩ := hi.push (.cells cs t) (.box ps) 0 (fun _ => False) (fun a h => h.elim) fun g' hp hl _ hx => by
    refine ⟨by rw [hl]; exact hi.size, ⟨cs, t, by rw [hl]; exact heap_alloc_new w _, hr.mono hx⟩, fun a ha he => ?_⟩
    rw [hl] at he
    rcases (hp a).1 ha with h | h
    · obtain ⟨v, hv⟩ := hi.prot a h
      have := block_lt hv
      omega
    · exact h
  exact ⟨g', h1, .ptr _ _ _ ⟨ps, by simp, by rw [h2]⟩⟩

theorem op_alloc (hi : Inv base w g σ) {t : TypeId} {i : TypeInfo} {z : Value} (h1 : P.info? t = some i) (h2 : i.zero = some z) {ps : List PV} (h3 : pvConsts z.cells.toList = some ps) :
    ValOK P base w g σ (Instr.alloc t true (.tuple #[])) (.ptr σ.length 0) (σ ++ [.box ps]) := by
  obtain ⟨g', k1, k2⟩ := op_new hi (t := t) (pvConsts_rep (w := w) (g := g) (σ := σ) h3)
  exact ⟨_, _, g', by simp [Instr.alloc, run_zero_of h1 h2, newVar, newRow], k1, k2⟩
theorem op_box (hi : Inv base w g σ) (hs : Sim w g σ a e) {t : TypeId} {x : Operand} {px : Opd} (hx : cOpd x = some px) {cs : List PV} (hc : (px.ev e).cells? = some cs) :
    ValOK P base w g σ (Instr.box t (a.eval x)) (.ptr σ.length 0) (σ ++ [.box cs]) := by
  obtain ⟨g', k1, k2⟩ := op_new hi (t := t) ((ev_ok hs hx).cells hc)
  exact ⟨_, _, g', by simp [Instr.box, newVar, newRow], k1, k2⟩

theorem op_load (hi : Inv base w g σ) (hs : Sim w g σ a e) {t : TypeId} {d : TypeDesc} {i : TypeInfo} (h1 : P.underlying t = some d) (h2 : P.info? t = some i) {x : Operand} {px : Opd} (hx : cOpd x = some px)
    {cs : List PV} (hc : cellsAt σ (px.ev e) = some cs) {p : PV} (hp : loadP (aggTy d) i.size cs = some p) : ValOK P base w g σ (Instr.loadAt t (a.eval x)) p σ := by
  obtain ⟨ad, vs, k1, k2, k3⟩ := cellsAt_ok hi (ev_ok hs hx) hc
  obtain ⟨v, e1, e2⟩ := loadVar_ok hi k2 k3 h1 h2 hp
  exact .pure_ hi (by simp [Instr.loadAt, k1, Instr.sureAddr, e1]) e2

/-- A store into a box. -/
theorem setRow_prog (hi : Inv base w g σ) {id : Nat} {cells cells' : List PV} (ho : σ[id]? = some (.box cells)) {c : Array Value} {t : TypeId} (hh : w.heap[g.loc id]? = some (.cells c t (0, 0)))
    {c' : Array Value} (hr : RepL w g σ c'.toList cells') (hl : cells'.length = cells.length) : Prog base w g σ (w.setRow (g.loc id) c') g (σ.set id (.box cells')) := by
  have hid := (List.getElem?_eq_some_iff.1 ho).1
  have hob := hi.obj id _ ho
  have hx : WExt w g σ (w.setRow (g.loc id) c') g (σ.set id (.box cells')) := by
    refine ⟨fun b v hp hc => ⟨hp, ?_⟩, fun k ty st rows hk => ?_, fun k cs hk => ?_, fun k es hk => ?_⟩
    · have hne : b.block ≠ g.loc id := hob.2.2 b hp
      rw [← hc]
      exact World.cell?_of_block (setRow_other w (g.loc id) b.block c' hne)
    · have hne : id ≠ k := fun e => by subst e; rw [ho] at hk; cases hk
      exact ⟨rows, by rw [List.getElem?_set_ne hne]; exact hk, Nat.le_refl _, fun _ => ⟨rfl, rfl⟩⟩
    · by_cases hne : id = k
      · subst hne
        rw [ho] at hk
        cases hk
        exact ⟨cells', by simp [hid], hl, rfl⟩
      · exact ⟨cs, by rw [List.getElem?_set_ne hne]; exact hk, rfl, rfl⟩
    · have hne : id ≠ k := fun e => by subst e; rw [ho] at hk; cases hk
      exact ⟨es, by rw [List.getElem?_set_ne hne]; exact hk, rfl⟩
  refine ⟨⟨by simpa using hi.size, fun b hb => ?_, fun k ob hk => ?_, fun i j h1 h2 => hi.inj i j (by simpa using h1) (by simpa using h2), Globs.mono hi.glob fun k hk => setRow_other w _ k c' (by have := hob.1; omega)⟩, hx, ?_, fun _ h _ => h, fun b hlt hn => ⟨setRow_other w _ b c' fun he => hn id hid he.symm, fun k hk => hn k (by simpa using hk), fun _ _ h => h⟩⟩
  · obtain ⟨v, hv⟩ := hi.prot b hb
    exact ⟨v, (hx.prot b v hb hv).2⟩
  · by_cases hne : id = k
    · subst hne
      have : ob = .box cells' := by simpa [hid] using hk.symm
      subst this
      exact ⟨hob.1, ⟨c', t, setRow_heap w _ c c' t (0, 0) hh, hr.mono hx⟩, hob.2.2⟩
    · rw [List.getElem?_set_ne hne] at hk
      have hk' := hi.obj k ob hk
      refine hk'.mono hx rfl rfl (setRow_other w (g.loc id) (g.loc k) c' fun he => ?_) fun _ h _ => h
      exact hne (hi.inj id k hid ((List.getElem?_eq_some_iff.1 hk).1) he.symm)
  · exact ⟨rfl, rfl, rfl, by simp [World.setRow], fun k hk => setRow_other w _ k c' (by have := hob.1; omega)⟩

theorem op_store (hi : Inv base w g σ) (hs : Sim w g σ a e) {t : TypeId} {i : TypeInfo} (h2 : P.info? t = some i) {x y : Operand} {px py : Opd} (hx : cOpd x = some px) (hy : cOpd y = some py)
    {id off : Nat} (h3 : px.ev e = .ptr id off) {ys cells : List PV} (h4 : (py.ev e).cells? = some ys) (ho : σ[id]? = some (.box cells)) (h5 : ys.length = i.size) (h6 : off + i.size ≤ cells.length) (h7 : ys.all PV.scalar = true) :
    ExecOK P base w g σ (do Instr.storeAt t (a.eval x) (a.eval y); pure .skip) (.tup []) (σ.set id (.box (cells.take off ++ ys ++ cells.drop (off + i.size)))) := by
  have hpx := ev_ok hs hx
  rw [h3] at hpx
  obtain ⟨cells', k1, k2⟩ := hpx.ptr_inv
  rw [ho] at k1
  cases k1
  obtain ⟨_, ⟨c, ty, hh, hr⟩, _⟩ := hi.obj id _ ho
  have hv := (ev_ok hs hy).cells h4
  have hsz : (a.eval y).cells.size = i.size := by have := hv.1; simp only [Array.length_toList] at this; omega
  have hcs : c.size = cells.length := by have := hr.1; simpa using this
  have hone : ∀ v ∈ (a.eval y).cells.toList, v.oneCell' = true := fun v hm => by
    obtain ⟨j, hj⟩ := List.getElem?_of_mem hm
    have hlt : j < ys.length := by rw [← hv.1]; exact (List.getElem?_eq_some_iff.1 hj).1
    exact (hv.2 j v _ hj (List.getElem?_eq_getElem hlt)).one (by rw [List.all_eq_true] at h7; exact h7 _ (List.getElem_mem hlt))
  have hst := run_storeCells_at P (g.loc id) off ty (a.eval y).cells.toList 0 c w hh (by simp only [Array.length_toList]; omega) hone
  refine ⟨undef, w.setRow (g.loc id) (c.toList.take off ++ (a.eval y).cells.toList ++ c.toList.drop (off + i.size)).toArray, g, .inr ⟨?_, rfl⟩, setRow_prog hi ho hh ?_ ?_, Rep.und _ _ _⟩
  · simp only [Instr.storeAt, k2, Instr.sureAddr, storeVar, Sem.run_bind, Sem.run_pure, Result.andThen_ok, run_sizeOf_of h2]
    rw [if_neg (by omega)]
    simp only [Nat.add_zero, Array.length_toList, hsz] at hst
    simp only [Sem.run_bind, Sem.run_pure, Result.andThen_ok, hst]
  · exact ((hr.take off).append hv).append (hr.drop _)
  · simp only [List.length_append, List.length_take, List.length_drop]
    omega
end
end Go.PE
