/- Calls, regions, code, functions: what the evaluator answers the machine does. -/
import Derived.Test.YtkpbfldnickghaaDoorPEh
import Derived.Orders
import Derived.Still
set_option linter.unusedVariables false
set_option linter.unusedSimpArgs false
set_option linter.unusedSectionVars false
namespace Go.PE
variable [Globs]
open Go.RowKit (Below)

def protOK (w : World) (prot : Addr → Prop) : Prop := ∀ a, prot a → ∃ v, w.cell? a = some v
def gh0 (prot : Addr → Prop) : Gh := ⟨prot, fun _ => 0, fun _ => 0⟩
def packV : List Value → Value
  | [v] => v
  | vs => .tuple vs.toArray
theorem pack_rep {w : World} {g : Gh} {σ : Heap} {vs : List Value} {ps : List PV} (h : RepL w g σ vs ps) : Rep w g σ (packV vs) (packP ps) := by
  match vs, ps, h with
  | [], [], h => exact RepL.tup (vs := #[]) h
  | [v], [p], h => exact h.head
  | v :: v' :: vs, p :: p' :: ps, h => exact RepL.tup (vs := (v :: v' :: vs).toArray) (by simpa using h)
  | [], _ :: _, h => have := h.1; simp at this
  | _ :: _, [], h => have := h.1; simp at this
  | [_], _ :: _ :: _, h => have := h.1; simp at this
  | _ :: _ :: _, [_], h => have := h.1; simp at this

/-- A function with a body that is entered as any. -/
def FuncIn (P : Program) (f : Nat) : Prop := ∃ fn, P.funcs[f]? = some fn ∧ fn.body.isSome = true ∧ (fn.name == "runtime.NumGoroutine") = false

def PureOK (P : Program) (f : Nat) (args rs : List PV) : Prop :=
  FuncIn P f ∧ pureL rs = true ∧ ∀ (w : World) (prot : Addr → Prop) (vs : List Value), protOK w prot → Globs.ok w.heap.size w → RepL w (gh0 prot) [] vs args →
    Calls P f vs.toArray w fun e w' => ∃ us prot', e = .returned (packV us) ∧ Below w.heap.size w w' ∧ (∀ a, prot a → prot' a) ∧ (∀ a, prot' a → a.block < w.heap.size → prot a) ∧ protOK w' prot' ∧ RepL w' (gh0 prot') [] us rs
def ImpOK (P : Program) (f : Nat) (args : List PV) (σ : Heap) (rs : List PV) (σ' : Heap) : Prop :=
  FuncIn P f ∧ ∀ (base : Nat) (w : World) (g : Gh) (vs : List Value), Inv base w g σ → RepL w g σ vs args →
    Calls P f vs.toArray w fun e w' => ∃ us g', e = .returned (packV us) ∧ Prog base w g σ w' g' σ' ∧ RepL w' g' σ' us rs

/-! ### Which code it is -/
def compO (P : Program) (ops : Array Oper) (o : Oper) : Option PO :=
  match o.guard with
  | none => (compOp P o).map fun p => ⟨o.dst, none, p⟩
  | some (j, b) => match (ops[j]?).bind (·.dst) with
    | some d => (compOp P o).map fun p => ⟨o.dst, some (d, b), p⟩
    | none => none
def compOs (P : Program) (ops : Array Oper) : List Oper → Option (List PO)
  | [] => some []
  | o :: r => match compO P ops o, compOs P ops r with
    | some p, some ps => some (p :: ps)
    | _, _ => none

/-! #### Regions whose order is drawn -/
def tmpsOf (xs : List Opd) : List Nat := xs.filterMap fun | .tmp t => some t | _ => none
def POp.opds : POp → List Opd
  | .mov x | .box x | .load _ _ x | .nilchk x | .un _ x | .toint _ x | .tostr x | .bytes x | .ofbytes x | .faddr _ x | .fld _ _ _ x | .ext x _ | .mkif _ x | .len _ x | .copy _ _ x => [x]
  | .pick c a b => [c, a, b]
  | .new _ | .mkmap => []
  | .build _ ps => ps.map (·.2.2)
  | .bslice _ _ _ _ ps => ps.map (·.2)
  | .store _ x y | .bin _ _ x y | .mkslice _ _ _ _ x y | .iaddr _ x y | .idxs x y | .lookup _ _ x y _ | .append _ _ _ x y => [x, y]
  | .keys _ x y z => [x, y, z]
  | .mkfn _ xs | .mx xs | .mn xs => xs
  | .slice _ _ x l h m => x :: (l.toList ++ h.toList ++ m.toList)
  | .mapup _ x k v => [x, k, v]
  | .call _ f xs => f :: xs
def POp.quiet : POp → Bool
  | .new _ | .box _ | .store _ _ _ | .mkmap | .mkslice _ _ _ _ _ _ | .mapup _ _ _ _ | .append _ _ _ _ _ | .keys _ _ _ _ => false
  | .call pc _ _ => pc
  | _ => true
def PO.reads (o : PO) : List Nat := tmpsOf o.op.opds ++ (match o.guard with | some (t, _) => [t] | none => [])
/-- It doesn't look at the abstract heap. -/
def POp.blind : POp → Bool
  | .mov _ | .pick _ _ _ | .build _ _ | .nilchk _ | .bin _ _ _ _ | .un _ _ | .toint _ _ | .tostr _ | .bytes _ | .mkfn _ _ | .faddr _ _ | .fld _ _ _ _ | .idxs _ _ | .ext _ _ | .mkif _ _ | .mx _ | .mn _ => true
  | .slice str _ _ _ _ _ => str
  | _ => false
/-- It adds an object, and does nothing else to the abstract heap. -/
def POp.alloc : POp → Bool
  | .new _ | .box _ | .mkmap | .mkslice _ _ _ _ _ _ => true
  | _ => false
/-- It leaves boxes alone. -/
def POp.logs : POp → Bool
  | .append _ _ _ _ _ | .mapup _ _ _ _ => true
  | _ => false
def POp.isLoad : POp → Bool
  | .load _ _ _ => true
  | _ => false
def POp.csts (q : POp) : Bool := q.opds.all fun
  | .cst v => v.pure
  | .fn _ => true
  | .tmp _ => true
/-- A quiet operation and one that it doesn't matter to. -/
def POp.free (q e : POp) : Bool := e.quiet || q.blind || (q.csts && (e.alloc || (q.isLoad && e.logs)))
/-- Do two operations touch each other? -/
def PO.apart (x y : PO) : Bool :=
  (match x.dst with | some d => !(y.reads).contains d && y.dst != some d | none => true) &&
  (match y.dst with | some d => !(x.reads).contains d | none => true) &&
  ((x.op.quiet && x.op.free y.op) || (y.op.quiet && y.op.free x.op))
/-- The numbers of those that an operation waits for. -/
def ancTab : List Oper → List (List Nat) → List (List Nat)
  | [], tab => tab
  | o :: r, tab => ancTab r (tab ++ [((o.after.toList.filter (Region.binds .any)).flatMap fun e => e.on :: tab.getD e.on []).eraseDups])
def edgesBack : List Oper → Nat → Bool
  | [], _ => true
  | o :: r, k => (o.after.toList.all fun e => !Region.binds .any e || decide (e.on < k)) && edgesBack r (k + 1)
def pairsOK (tab : List (List Nat)) (l : List PO) : Bool :=
  (List.range l.length).all fun j => (List.range j).all fun i => match l[i]?, l[j]? with
    | some x, some y => x.apart y || (tab.getD j []).contains i
    | _, _ => false
def drawOK (ops : Array Oper) (l : List PO) : Bool := edgesBack ops.toList 0 && pairsOK (ancTab ops.toList []) l
def PO.pureCall (o : PO) : PO := match o.op with
  | .call _ f xs => { o with op := .call true f xs }
  | _ => o
/-! #### Regions that make several slices -/
/-- A slice that is made as long as it can be. -/
def POp.isMk : POp → Bool
  | .mkslice _ _ _ _ (.tmp a) (.tmp b) => a == b
  | _ => false
/-- The temporaries that hold such slices. -/
def taintOf : List PO → List Nat → List Nat
  | [], T => T
  | o :: r, T => taintOf r (match o.dst with
    | none => T
    | some d => if o.op.isMk then d :: T else match o.op with
      | .mov (.tmp t) => if T.contains t then d :: T else T
      | _ => T)
def PO.kindA (T : List Nat) (o : PO) : Bool := o.op.isMk && o.guard.isNone && (o.reads.all fun t => !T.contains t) && (match o.dst with | some d => T.contains d | none => false)
def PO.kindB (T : List Nat) (o : PO) : Bool := match o.op, o.guard, o.dst with
  | .mov (.tmp t), none, some d => T.contains t && T.contains d
  | _, _, _ => false
def PO.kindC (T : List Nat) (o : PO) : Bool := o.op.quiet && (o.op.blind || o.op.csts) && (o.reads.all fun t => !T.contains t) && (match o.dst with | some d => !T.contains d | none => true)
def PO.apartD (x y : PO) : Bool :=
  (match x.dst with | some d => !(y.reads).contains d && y.dst != some d | none => true) &&
  (match y.dst with | some d => !(x.reads).contains d | none => true)
def pairsD (tab : List (List Nat)) (l : List PO) : Bool :=
  (List.range l.length).all fun j => (List.range j).all fun i => match l[i]?, l[j]? with
    | some x, some y => x.apartD y || (tab.getD j []).contains i
    | _, _ => false
def drawAl (ops : Array Oper) (l : List PO) : Bool := edgesBack ops.toList 0 && (l.all fun o => o.kindA (taintOf l []) || o.kindB (taintOf l []) || o.kindC (taintOf l [])) && pairsD (ancTab ops.toList []) l
def compRegion (P : Program) (ops : Array Oper) (draw : Bool) : Option (List PO) :=
  match compOs P ops ops.toList with
  | some l => if draw then (if drawOK ops l then some l else if drawOK ops (l.map PO.pureCall) then some (l.map PO.pureCall) else if drawAl ops l then some l else none) else some l
  | none => none
/-! #### The keys of a map, collected and sorted -/
def isLoad (o : Oper) : Option (Nat × Nat × Nat) := match o.op, o.dst, o.guard with
  | .load a (.tmp b), some d, none => some (a, b, d)
  | _, _, _ => none
def isRange (o : Oper) : Option (Nat × Nat × Nat) := match o.op, o.dst, o.guard with
  | .range a (.tmp b), some d, none => some (a, b, d)
  | _, _, _ => none
def isNext (o : Oper) : Option (Nat × Nat) := match o.op, o.dst, o.guard with
  | .next (.tmp b) false, some d, none => some (b, d)
  | _, _, _ => none
def isExtr (o : Oper) : Option (Nat × Nat) := match o.op, o.dst, o.guard with
  | .extract (.tmp b) 0, some d, none => some (b, d)
  | _, _, _ => none
def isEntry (o : Oper) : Option (Nat × Nat) := match o.op, o.dst, o.guard with
  | .entry (.tmp b), some d, none => some (b, d)
  | _, _, _ => none
def isAssign (o : Oper) : Option (Nat × Nat) := match o.op, o.dst, o.guard with
  | .assign (.tmp b), some d, none => some (b, d)
  | _, _, _ => none
def isMove (o : Oper) : Option (Nat × Nat) := match o.op, o.dst, o.guard with
  | .move (.tmp b), some d, none => some (b, d)
  | _, _, _ => none
def isBuild (o : Oper) : Option (Nat × Nat × Nat) := match o.op, o.dst, o.guard with
  | .buildSlice ts 1 ps, some d, none => match ps.toList with
    | [(0, .tmp b)] => some (ts, b, d)
    | _ => none
  | _, _, _ => none
def isAppend (o : Oper) : Option (Nat × Nat × Nat × Nat) := match o.op, o.dst, o.guard with
  | .call { callee := .builtin .append, args := as, argTypes := ts }, some d, none => match as.toList, ts.toList with
    | [.tmp a, .tmp b], [t1, t2] => if t1 = t2 then some (t1, a, b, d) else none
    | _, _ => none
  | _, _, _ => none
def isCallF (o : Oper) : Option (Nat × Nat × Nat × Nat) := match o.op, o.dst, o.guard with
  | .call { callee := .value (.func f), args := as, argTypes := ts }, some d, none => match as.toList, ts.toList with
    | [.tmp a], [t1] => some (t1, f, a, d)
    | _, _ => none
  | _, _, _ => none
def sortFn (P : Program) (fs : Nat) : Bool := match P.funcs[fs]? with
  | some fn => fn.name == "sort.Strings"
  | none => false
def emptyZero (i : TypeInfo) : Bool := match i.zero with
  | some (.string b) => b.size == 0
  | _ => false
/-- The types of the code. -/
def keysTy (P : Program) (tm ts : Nat) : Option Nat := match P.underlying tm, P.underlying ts, P.info? tm with
  | some (.map tk te), some (.slice tk'), some im => match P.underlying tk, P.underlying te, P.info? tk with
    | some .string, some .bool, some i0 => if tk' = tk ∧ im.size = 1 ∧ i0.size = 1 ∧ i0.bytes = 16 ∧ emptyZero i0 = true then some tk else none
    | _, _, _ => none
  | _, _, _ => none
def keysOps (tk tp out n t : Nat) : List PO := ⟨some out, none, .keys tk (.tmp tp) (.tmp out) (.tmp (t + 11))⟩ :: ([n, t, t + 1, t + 2, t + 3, t + 4, t + 5, t + 6, t + 7, t + 8, t + 9, t + 10, t + 11].map fun d => ⟨some d, none, .mov (.cst .top)⟩)
def keysOf (P : Program) : Code → Code → Option (List PO)
  | .seq (.region _ ops8 false) (.block bid (.loop (.seq (.region _ ops9 false) (.seq (.cond (.tmp c) .skip (.exit bid')) (.block _ (.seq (.region _ ops10 false) (.region _ ops11 false))))))), .region _ ops12 false =>
    match ops8.toList, ops9.toList, ops10.toList, ops11.toList, ops12.toList with
    | [o1, o2], [o3, o4], [o5, o6, o7], [o8, o9, o10, o11, o12], [o13, o14] =>
      (isLoad o1).bind fun x1 => (isAssign o7).bind fun x7 => (isAssign o12).bind fun x12 => (isBuild o10).bind fun x10 => (isCallF o14).bind fun x14 =>
      if c = x1.2.2 + 3 ∧ bid' = bid ∧ isRange o2 = some (x1.1, x1.2.2, x1.2.2 + 1) ∧ isNext o3 = some (x1.2.2 + 1, x1.2.2 + 2) ∧ isExtr o4 = some (x1.2.2 + 2, x1.2.2 + 3) ∧ isEntry o5 = some (x1.2.2 + 1, x1.2.2 + 4) ∧ isExtr o6 = some (x1.2.2 + 4, x1.2.2 + 5) ∧ x7.1 = x1.2.2 + 5 ∧
        isMove o8 = some (x12.2, x1.2.2 + 6) ∧ isMove o9 = some (x7.2, x1.2.2 + 7) ∧ x10.2 = (x1.2.2 + 7, x1.2.2 + 8) ∧ isAppend o11 = some (x10.1, x1.2.2 + 6, x1.2.2 + 8, x1.2.2 + 9) ∧ x12.1 = x1.2.2 + 9 ∧ isMove o13 = some (x12.2, x1.2.2 + 10) ∧ x14.1 = x10.1 ∧ x14.2.2 = (x1.2.2 + 10, x1.2.2 + 11) ∧
        x12.2 ≠ x7.2 ∧ x12.2 < x1.2.2 ∧ x7.2 < x1.2.2 ∧ x1.2.1 < x1.2.2 ∧ x1.2.1 ≠ x12.2 ∧ x1.2.1 ≠ x7.2 ∧ sortFn P x14.2.1 = true then
        (keysTy P x1.1 x10.1).map fun tk => keysOps tk x1.2.1 x12.2 x7.2 x1.2.2
      else none
    | _, _, _, _, _ => none
  | _, _ => none
def compC (P : Program) : Code → Option PC
  | .skip => some .skip
  | .label _ => some .skip
  | .region _ ops draw => (compRegion P ops draw).map .ops
  | .seq a b => match compC P a, compC P b with
    | some a, some b => some (.seq a b)
    | none, some (.seq _ r') => match b with
      | .seq r _ => (keysOf P a r).map fun l => .seq (.ops l) r'
      | _ => none
    | _, _ => none
  | .cond c a b => match cOpd c, compC P a, compC P b with
    | some c, some a, some b => some (.cond c a b)
    | _, _, _ => none
  | .block id a => (compC P a).map (.block id)
  | .loop a => (compC P a).map .loop
  | .exit id => some (.exit id)
  | .ret => some .ret
  | _ => none
def compRes (P : Program) : List ResultVar → Option (List PRes)
  | [] => some []
  | .tmp t :: r => (compRes P r).map (.tmp t :: ·)
  | .cell t ty :: r => match P.underlying ty, P.info? ty, compRes P r with
    | some d, some i, some rs => some (.cell t (aggTy d) i.size :: rs)
    | _, _, _ => none
def keepOf (P : Program) (own : List Nat) : Nat → List TypeId → List (Bool × List (Option Nat))
  | _, [] => []
  | i, t :: ts => (own.contains i, cellTys P 20 t) :: keepOf P own (i + 1) ts
/-- The evaluator's function. 'own', 'ownr': the parameters and the results that keep the right to append. -/
def compF (P : Program) (fn : Func) (own ownr : List Nat) : Option PFunc :=
  match fn.body with
  | some c => match compC P c, compRes P fn.results.toList with
    | some b, some rs => some { ntmps := fn.ntmps, results := rs, body := b, keep := keepOf P own 0 fn.params.toList, keepr := keepOf P ownr 0 fn.resultTypes.toList }
    | _, _ => none
  | none => none

/-! ### The code goes round -/
def LoopIn (P : Program) (c : Code) (Q : Exit → Act → World → Prop) (a : Act) (w : World) : Prop :=
  ∀ (b : Frame) (k : List Item) (cs : List Frame), ∃ e a' w', Q e a' w' ∧ Arrives P (lone (b.at a (.code c :: .inLoop c :: k)) cs w) b k cs e a' w'
theorem loop_of {P : Program} {c : Code} {Q : Exit → Act → World → Prop} {a : Act} {w : World} (h : LoopIn P c Q a w) : (Code.loop c).wp P Q a w := fun b k cs =>
  let ⟨e, a', w', hq, harr⟩ := h b k cs
  ⟨e, a', w', hq, .of_steps (.one step_loop) harr⟩
theorem loopIn_step {P : Program} {c : Code} {Q : Exit → Act → World → Prop} {a : Act} {w : World} (h : c.wp P (Exit.then (LoopIn P c Q) Q) a w) : LoopIn P c Q a w := by
  intro b k cs
  obtain ⟨e, a₁, w₁, hq, harr⟩ := h b (.inLoop c :: k) cs
  cases e with
  | normal =>
    obtain ⟨e₂, a₂, w₂, hq₂, harr₂⟩ := hq b k cs
    exact ⟨e₂, a₂, w₂, hq₂, .of_steps (Steps.trans harr (.one step_inLoop)) harr₂⟩
  | exit id => exact ⟨_, a₁, w₁, hq, .pass (x := .inLoop c) rfl (fun _ _ => .inl (by simp)) harr⟩
  | goto l => exact ⟨_, a₁, w₁, hq, .pass (x := .inLoop c) rfl (fun _ _ => .inl (by simp)) harr⟩
  | ret => exact ⟨_, a₁, w₁, hq, .pass (x := .inLoop c) rfl (fun _ _ => .inl (by simp)) harr⟩
  | panic ch => exact ⟨_, a₁, w₁, hq, .pass (x := .inLoop c) rfl (fun _ _ => .inl (by simp)) harr⟩
  | outgrown => exact ⟨_, a₁, w₁, hq, .pass (x := .inLoop c) rfl (fun _ _ => .inl (by simp)) harr⟩

def exitOf : Out → Exit
  | .norm => .normal
  | .exit id => .exit id
  | .ret => .ret
/-- What is known at the end of a piece of code. -/
def Ends (base : Nat) (w : World) (g : Gh) (σ : Heap) (ds : List Deferred) (o : Out) (e' : Env) (σ' : Heap) (Q : Exit → Act → World → Prop) : Prop :=
  ∀ a' w' g', a'.defers = ds → Prog base w g σ w' g' σ' → Sim w' g' σ' a' e' → Q (exitOf o) a' w'

structure SoundH (P : Program) (C : Funcs) (H : Handler) : Prop where
  pure : ∀ f args rs, H.pure f args = some rs → PureOK P f args rs
  imp : ∀ f args σ rs σ', H.imp f args σ = some (rs, σ') → ImpOK P f args σ rs σ'
  loop : ∀ pa e σ o e' σ', H.loop pa e σ = some (o, e', σ') → ∀ c, compC P c = some pa.erase → ∀ (base : Nat) (w : World) (g : Gh) (a : Act) (Q : Exit → Act → World → Prop), Inv base w g σ → Sim w g σ a e → Ends base w g σ a.defers o e' σ' Q → LoopIn P c Q a w

section
variable {P : Program} {C : Funcs} {H : Handler} {base : Nat} {w : World} {g : Gh} {σ : Heap} {a : Act} {e : Env} {o : Oper}

theorem keepArgs_ok (hi : Inv base w g σ) : ∀ (ks : List (Bool × List (Option Nat))) {vs : List Value} {ps : List PV}, RepL w g σ vs ps → RepL w g σ vs (keepArgs σ ks ps)
  | [], vs, ps, h => by
    have := h.map (f := id) (q := coeV σ) fun v p h => coeV_ok hi h
    rw [List.map_id] at this
    simpa [keepArgs] using this
  | (true, _) :: ks, [], [], h => by simpa [keepArgs] using h
  | (false, _) :: ks, [], [], h => by simpa [keepArgs] using h
  | (true, _) :: ks, v :: vs, p :: ps, h => by
    simp only [keepArgs]
    exact RepL.cons h.head (keepArgs_ok hi ks h.tail)
  | (false, sh) :: ks, v :: vs, p :: ps, h => by
    simp only [keepArgs]
    exact RepL.cons (canonV_ok (coeV_ok hi h.head) sh) (keepArgs_ok hi ks h.tail)
  | _ :: _, [], _ :: _, h => by have := h.1; simp at this
  | _ :: _, _ :: _, [], h => by have := h.1; simp at this

theorem run_callFunc {f : Nat} (hf : FuncIn P f) (args : Array Value) (w : World) : (callFunc f args).run P w = .ok (.enter f args) w := by
  obtain ⟨fn, h1, h2, h3⟩ := hf
  have h4 : fn.body.isNone = false := by cases hb : fn.body <;> simp [hb] at h2 ⊢
  simp only [callFunc, Sem.run_bind, run_program, Result.andThen_ok, h1, h3, h4, Bool.false_eq_true, if_false]
  rfl

/-- A call, as the machine enters it. -/
theorem run_call {c : Call} {fx : Operand} (ho : o.op = .call c) (hcl : c.callee = .value fx) {f : Nat} {us : Array Value} (hfx : a.eval fx = .func (.func f) #[] us) (hf : FuncIn P f) :
    (execOp a.eval o).run P w = .ok (.enter f (c.args.map a.eval ++ us)) w := by
  unfold execOp
  simp only [ho, resolve, hcl, hfx, Deferred.ofValue, Sem.run_bind, Sem.run_pure, Result.andThen_ok, invoke]
  rw [run_callFunc hf]
  simp

theorem op_call (SH : SoundH P C H) (hi : Inv base w g σ) (hs : Sim w g σ a e) {c : Call} {fx : Operand} {pc : Bool} {pf : Opd} {pargs : List Opd} (ho : o.op = .call c) (hcl : c.callee = .value fx) (hfx : cOpd fx = some pf) (hargs : cOpds c.args.toList = some pargs)
    {p : PV} {σ' : Heap} (h : evOp C H e σ (.call pc pf pargs) = some (p, σ')) {next : Act → World → Prop} {Q : Exit → Act → World → Prop} (hn : ∀ v w' g', Prog base w g σ w' g' σ' → Rep w' g' σ' v p → next (a.put o.dst v) w') : o.wp P a w next Q := by
  simp only [evOp] at h
  split at h
  · rename_i f caps hpf
    have hrf := ev_ok hs hfx
    rw [hpf] at hrf
    obtain ⟨us, k1, k2⟩ := hrf.fn_inv
    have hra := (cOpds_ok hs hargs).append k2
    unfold evCall at h
    dsimp only at h
    have hk := keepArgs_ok hi ((C f).map (·.keep) |>.getD []) hra
    have hvs : (c.args.map a.eval ++ us) = (c.args.toList.map a.eval ++ us.toList).toArray := by simp
    split at h
    · rename_i hpure
      replace hpure := asPure_pure hpure
      simp only [Option.map_eq_some_iff, Prod.mk.injEq] at h
      obtain ⟨rs, h1, rfl, rfl⟩ := h
      obtain ⟨hf, hrp, hcalls⟩ := SH.pure f _ rs h1
      have hc := hcalls w g.prot _ hi.prot (Globs.up hi.glob hi.size) (hk.keep (g' := gh0 g.prot) (σ' := []) hpure fun ad v h1 h2 => ⟨h1, h2⟩)
      unfold Oper.wp
      rw [run_call ho hcl k1 hf, hvs]
      refine hc.mono fun e' w' ⟨rvs, prot', e1, e2, e3, e4, e5, e6⟩ => ?_
      subst e1
      have hg := hi.grow e2 e3 e4 e5
      exact hn _ w' _ hg (pack_rep (e6.keep (g' := { g with prot := prot' }) (σ' := σ) hrp fun ad v h1 h2 => ⟨h1, h2⟩))
    · split at h
      · cases h
      · simp only [Option.map_eq_some_iff, Prod.mk.injEq] at h
        obtain ⟨⟨rs, σ2⟩, h1, rfl, rfl⟩ := h
        obtain ⟨hf, hcalls⟩ := SH.imp f _ σ rs _ h1
        have hc := hcalls base w g _ hi hk
        unfold Oper.wp
        rw [run_call ho hcl k1 hf, hvs]
        refine hc.mono fun e' w' ⟨rvs, g', e1, e2, e3⟩ => ?_
        subst e1
        exact hn _ w' g' e2 (pack_rep e3)
  · cases h

theorem comp_call {pc : Bool} {f : Opd} {xs : List Opd} (hc : compOp P o = some (.call pc f xs)) : pc = false ∧ ∃ c fx, o.op = .call c ∧ c.callee = .value fx ∧ cOpd fx = some f ∧ cOpds c.args.toList = some xs := by
  unfold compOp at hc
  split at hc
  case h_27 c ho =>
    split at hc
    · rename_i fx hcl
      split at hc
      · rename_i k1 k2
        cases hc
        exact ⟨rfl, c, fx, ho, hcl, k1, k2⟩
      · cases hc
    all_goals
      exfalso
      (repeat' split at hc) <;> first
        | (cases hc; done)
        | (simp only [Option.map_eq_some_iff] at hc; obtain ⟨_, _, hc⟩ := hc; cases hc; done)
  all_goals
    exfalso
    (repeat' split at hc) <;> first
      | (cases hc; done)
      | (simp only [Option.map_eq_some_iff] at hc; obtain ⟨_, _, hc⟩ := hc; cases hc; done)

/-- One operation. -/
theorem op_ok (SH : SoundH P C H) (hi : Inv base w g σ) (hs : Sim w g σ a e) {pop : POp} (hc : compOp P o = some pop ∨ ∃ f xs, compOp P o = some (.call false f xs) ∧ pop = .call true f xs) {p : PV} {σ' : Heap} (h : evOp C H e σ pop = some (p, σ')) {next : Act → World → Prop} {Q : Exit → Act → World → Prop}
    (hn : ∀ v w' g', Prog base w g σ w' g' σ' → Rep w' g' σ' v p → next (a.put o.dst v) w') : o.wp P a w next Q := by
  have callCase : ∀ pc pc' f xs, compOp P o = some (.call pc' f xs) → pop = .call pc f xs → o.wp P a w next Q := by
    intro pc pc' f xs hc' hpop
    subst hpop
    obtain ⟨_, c, fx, ho, hcl, k1, k2⟩ := comp_call hc'
    exact op_call SH hi hs ho hcl k1 k2 h hn
  rcases hc with hc | ⟨f, xs, hc, hpop⟩
  · by_cases hcall : ∃ pc f xs, pop = .call pc f xs
    · obtain ⟨pc, f, xs, hp⟩ := hcall
      rw [hp] at hc
      exact callCase pc pc f xs hc hp
    · have hne : ∀ pc f xs, pop ≠ .call pc f xs := fun pc f xs he => hcall ⟨pc, f, xs, he⟩
      have h' : evPrim e σ pop = some (p, σ') := by
        cases pop <;> first | exact h | exact absurd rfl (hne _ _ _)
      obtain ⟨v, w', g', h1, h2, h3⟩ := prim_ok hi hs hc hne h'
      unfold Oper.wp
      rcases h1 with h1 | ⟨h1, rfl⟩
      · rw [h1]; exact hn v w' g' h2 h3
      · rw [h1]; exact hn _ w' g' h2 h3
  · exact callCase true false f xs hc hpop
end
end Go.PE
