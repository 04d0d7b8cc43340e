/- The evaluator once more, for proofs about one function: environments are functions, what follows is a continuation; each equation of a piece of code holds by computation. -/
import Derived.Test.YtkpbfldnickghaaDoorPEl
set_option linter.unusedVariables false
set_option linter.unusedSimpArgs false
namespace Go.PE

/-- Environments of n temporaries. -/
structure EnvF (n : Nat) where
  f : Nat → PV
  can : ∀ t, n ≤ t → f t = .top
def bnd (n : Nat) (f : Nat → PV) : EnvF n := ⟨fun t => if t < n then f t else .top, fun t ht => if_neg (by omega)⟩
def gtF {n : Nat} (E : EnvF n) (t : Nat) : PV := E.f t
def putF {n : Nat} (E : EnvF n) (d : Option Nat) (v : PV) : EnvF n :=
  match d with
  | some d => bnd n fun t => if t = d then v else E.f t
  | none => E
def toL {n : Nat} (E : EnvF n) : Env := (List.range n).map E.f
def ofL (n : Nat) (e : Env) : EnvF n := bnd n (get e)
def look : List (Nat × PV) → Nat → PV
  | [], _ => .top
  | (a, v) :: r, t => if t = a then v else look r t
/-- The environment in which just these stand. -/
def envOf (n : Nat) (l : List (Nat × PV)) : EnvF n := bnd n (look l)
def keepF {n : Nat} (ts : List Nat) (E : EnvF n) : EnvF n := envOf n (ts.map fun t => (t, E.f t))
abbrev headF {n : Nat} : PC → EnvF n → EnvF n
  | .keep ts _, E => keepF ts E
  | _, E => E
def Opd.evF {n : Nat} (E : EnvF n) : Opd → PV
  | .tmp t => gtF E t
  | .cst v => v
  | .fn f => .fn f []

theorem EnvF.ext' {n : Nat} {E E' : EnvF n} (h : ∀ t, t < n → gtF E t = gtF E' t) : E = E' := by
  obtain ⟨f, hf⟩ := E
  obtain ⟨f', hf'⟩ := E'
  have : f = f' := by
    funext t
    by_cases ht : t < n
    · exact h t ht
    · rw [hf t (by omega), hf' t (by omega)]
  subst this
  rfl
theorem gtF_putF {n : Nat} (E : EnvF n) (d : Nat) (v : PV) {t : Nat} (ht : t < n) : gtF (putF E (some d) v) t = if t = d then v else gtF E t := if_pos ht
theorem get_toL {n : Nat} (E : EnvF n) (t : Nat) : get (toL E) t = gtF E t := by
  unfold get toL gtF
  by_cases h : t < n
  · simp [h]
  · rw [List.getElem?_eq_none (by simp; omega), E.can t (by omega)]; rfl
theorem toL_length {n : Nat} (E : EnvF n) : (toL E).length = n := by simp [toL]
theorem env_ext {e e' : Env} (hl : e.length = e'.length) (h : ∀ t, t < e.length → get e t = get e' t) : e = e' := by
  refine List.ext_getElem hl fun t h1 h2 => ?_
  have := h t h1
  simpa [get, h1, h2] using this
theorem put_toL {n : Nat} (E : EnvF n) (d : Option Nat) (v : PV) : put (toL E) d v = toL (putF E d v) := by
  refine env_ext (by rw [put_length, toL_length, toL_length]) fun t ht => ?_
  rw [put_length, toL_length] at ht
  rw [get_put (by rw [toL_length]; exact ht), get_toL, get_toL]
  cases d with
  | none => rfl
  | some d =>
    rw [gtF_putF E d v ht]
    by_cases h : d = t
    · subst h; simp
    · rw [if_neg (by simpa using h), if_neg (fun e => h e.symm)]
theorem toL_ofL {n : Nat} {e : Env} (h : e.length = n) : toL (ofL n e) = e := by
  refine env_ext (by rw [toL_length, h]) fun t ht => ?_
  rw [toL_length] at ht
  rw [get_toL]
  exact if_pos ht
theorem ofL_toL {n : Nat} (E : EnvF n) : ofL n (toL E) = E := EnvF.ext' fun t ht => (if_pos ht).trans (get_toL E t)
theorem look_map (f : Nat → PV) : ∀ (ts : List Nat) (t : Nat), look (ts.map fun t => (t, f t)) t = if ts.contains t = true then f t else .top
  | [], t => rfl
  | a :: ts, t => by
    simp only [List.map_cons, look, List.contains_cons, look_map f ts t]
    by_cases h : t = a
    · subst h; simp
    · have : (t == a) = false := by simpa using h
      simp [h, this]
theorem keep_toL {n : Nat} (ts : List Nat) (E : EnvF n) : keepL ts (toL E) = toL (keepF ts E) := by
  refine env_ext (by simp [keepL, toL_length]) fun t ht => ?_
  simp only [keepL, List.length_map, List.length_range, toL_length] at ht
  rw [get_toL]
  unfold get keepL
  simp only [toL_length, List.getElem?_map, List.getElem?_range ht, Option.map_some, Option.getD_some]
  show _ = (keepF ts E).f t
  simp only [keepF, envOf, bnd, ht, if_true, look_map]
  split
  · exact get_toL E t
  · rfl
theorem head_toL {n : Nat} (c : PC) (E : EnvF n) : headE c (toL E) = toL (headF c E) := by
  cases c <;> first | exact keep_toL _ E | rfl
theorem ev_toL {n : Nat} (E : EnvF n) (x : Opd) : x.ev (toL E) = x.evF E := by
  cases x with
  | tmp t => exact get_toL E t
  | _ => rfl

def condK {R : Type} (c : PV) (A B : Unit → Option R) : Option R :=
  match c with
  | .bool true => A ()
  | .bool false => B ()
  | _ => none
def guardK {R : Type} (c : PV) (b : Bool) (A B : Unit → Option R) : Option R :=
  match c with
  | .bool c => if c == b then A () else B ()
  | .tup [] => B ()
  | _ => none
/-- The values of a run that is wanted or not. -/
def guardR (c : PV) (b : Bool) (m : Nat) (σ : Heap) (A : Unit → Option (List PV × Heap)) : Option (List PV × Heap) :=
  match c with
  | .bool c => if c == b then A () else some (List.replicate m (.tup []), σ)
  | .tup [] => some (List.replicate m (.tup []), σ)
  | _ => none
def nthV (vs : List PV) (i : Nat) : PV := (vs[i]?).getD .top
def loadV (σ : Heap) (agg : Bool) (sz : Nat) (x : PV) : Option PV := (cellsAt σ x).bind fun cs => loadP agg sz cs
def faddrV (off : Nat) : PV → Option PV
  | .ptr id o => some (.ptr id (o + off))
  | .cref cells => some (.cref (cells.drop off))
  | _ => none
def iaddrV (σ : Heap) (st : Nat) (x i : PV) : Option PV := (evPrim [] σ (.iaddr st (.cst x) (.cst i))).map (·.1)
def storeV (σ : Heap) (sz : Nat) (x y : PV) : Option Heap := (evPrim [] σ (.store sz (.cst x) (.cst y))).map (·.2)
def boxV (x : PV) (σ : Heap) : Option Heap := x.cells?.map fun cs => σ ++ [.box cs]
def idxV (x i : PV) : Option PV := (evPrim [] [] (.idxs (.cst x) (.cst i))).map (·.1)
def fldV (agg : Bool) (off sz : Nat) (x : PV) : Option PV := (evPrim [] [] (.fld agg off sz (.cst x))).map (·.1)
def extV (x : PV) (i : Nat) : Option PV := match x with
  | .tup vs => vs[i]?
  | _ => none
def pickV (c a b : PV) : Option PV := match c with
  | .bool true => some a
  | .bool false => some b
  | _ => none

def Opd.sub {n : Nat} (E : EnvF n) (x : Opd) : Opd := .cst (x.evF E)
def POp.sub {n : Nat} (E : EnvF n) : POp → POp
  | .mov x => .mov (x.sub E)
  | .pick c a b => .pick (c.sub E) (a.sub E) (b.sub E)
  | .new cs => .new cs
  | .box x => .box (x.sub E)
  | .build z ps => .build z (ps.map fun q => (q.1, q.2.1, q.2.2.sub E))
  | .bslice st sh z n ps => .bslice st sh z n (ps.map fun q => (q.1, q.2.sub E))
  | .load a s x => .load a s (x.sub E)
  | .store s x y => .store s (x.sub E) (y.sub E)
  | .nilchk x => .nilchk (x.sub E)
  | .bin o t x y => .bin o t (x.sub E) (y.sub E)
  | .un o x => .un o (x.sub E)
  | .toint k x => .toint k (x.sub E)
  | .tostr x => .tostr (x.sub E)
  | .bytes x => .bytes (x.sub E)
  | .ofbytes x => .ofbytes (x.sub E)
  | .mkfn f xs => .mkfn f (xs.map (·.sub E))
  | .mkmap => .mkmap
  | .mkslice a b c d x y => .mkslice a b c d (x.sub E) (y.sub E)
  | .slice s st x l h m => .slice s st (x.sub E) (l.map (·.sub E)) (h.map (·.sub E)) (m.map (·.sub E))
  | .faddr o x => .faddr o (x.sub E)
  | .fld a o s x => .fld a o s (x.sub E)
  | .iaddr st x i => .iaddr st (x.sub E) (i.sub E)
  | .idxs x i => .idxs (x.sub E) (i.sub E)
  | .lookup kk z x k ok => .lookup kk z (x.sub E) (k.sub E) ok
  | .mapup kk x k v => .mapup kk (x.sub E) (k.sub E) (v.sub E)
  | .ext x i => .ext (x.sub E) i
  | .mkif t x => .mkif t (x.sub E)
  | .len ty x => .len ty (x.sub E)
  | .append ty st b s x => .append ty st b (s.sub E) (x.sub E)
  | .copy st b x => .copy st b (x.sub E)
  | .mx xs => .mx (xs.map (·.sub E))
  | .mn xs => .mn (xs.map (·.sub E))
  | .keys tk p o z => .keys tk (p.sub E) (o.sub E) (z.sub E)
  | .call pc f xs => .call pc (f.sub E) (xs.map (·.sub E))

theorem sub_ev {n : Nat} (E : EnvF n) (e : Env) (x : Opd) : (x.sub E).ev e = x.ev (toL E) := (ev_toL E x).symm
theorem fillP_sub {n : Nat} (E : EnvF n) (e : Env) : ∀ (ps : List (Nat × Nat × Opd)) (cs : List PV), fillP e cs (ps.map fun q => (q.1, q.2.1, q.2.2.sub E)) = fillP (toL E) cs ps
  | [], _ => rfl
  | (off, sz, x) :: r, cs => by
    simp only [List.map_cons, fillP, sub_ev]
    split
    · split
      · exact fillP_sub E e r _
      · rfl
    · rfl
theorem fillR_sub {n : Nat} (E : EnvF n) (e : Env) (σ : Heap) (st : Nat) (sh : List (Option Nat)) : ∀ (ps : List (Nat × Opd)) (cs : List (List PV)), fillR σ e st sh cs (ps.map fun q => (q.1, q.2.sub E)) = fillR σ (toL E) st sh cs ps
  | [], _ => rfl
  | (i, x) :: r, cs => by
    simp only [List.map_cons, fillR, sub_ev]
    split
    · split
      · exact fillR_sub E e σ st sh r _
      · rfl
    · rfl
theorem prim_sub {n : Nat} (E : EnvF n) (e : Env) (σ : Heap) (p : POp) : evPrim e σ (p.sub E) = evPrim (toL E) σ p := by
  have ml : ∀ xs : List Opd, (xs.map (·.sub E)).map (·.ev e) = xs.map (·.ev (toL E)) := fun xs => by simp [sub_ev]
  have on : ∀ d (y : Option Opd), optNat e d (y.map (·.sub E)) = optNat (toL E) d y := fun d y => by cases y <;> simp [optNat, sub_ev]
  cases p <;> simp only [POp.sub, evPrim, sub_ev, fillP_sub, fillR_sub, ml]
  case slice s st x l h m =>
    cases s
    · simp only [sliceP, sliceL, on]
      cases m with
      | none => rfl
      | some m => simp only [Option.map_some, sub_ev, Option.isSome_map]
    · simp only [sliceP, sliceS, on]
      cases m <;> rfl

section
variable {R : Type} (C : Funcs) (H : Handler) {n : Nat}

/-! ### Without a continuation -/
def wantF (E : EnvF n) : Option (Nat × Bool) → Option Bool
  | none => some true
  | some (t, b) => match gtF E t with
    | .bool c => some (c == b)
    | .tup [] => some false
    | _ => none
def evOpsE : List PO → EnvF n → Heap → Option (EnvF n × Heap)
  | [], E, σ => some (E, σ)
  | o :: r, E, σ => match wantF E o.guard with
    | some true => (evOp C H (toL E) σ o.op).bind fun p => evOpsE r (putF E o.dst p.1) p.2
    | some false => evOpsE r (putF E o.dst (.tup [])) σ
    | none => none
def evCE : PC → EnvF n → Heap → Option (Out × EnvF n × Heap)
  | .skip, E, σ => some (.norm, E, σ)
  | .ops l, E, σ => (evOpsE C H l E σ).map fun p => (.norm, p.1, p.2)
  | .seq a b, E, σ => (evCE a E σ).bind fun r => match r with
    | (.norm, E', σ') => evCE b E' σ'
    | r => some r
  | .cond x a b, E, σ => match x.evF E with
    | .bool true => evCE a E σ
    | .bool false => evCE b E σ
    | _ => none
  | .block id a, E, σ => (evCE a E σ).map fun (r : Out × EnvF n × Heap) => match r with
    | (.exit id', E', σ') => (if id' = id then .norm else .exit id', E', σ')
    | r => r
  | .loop a, E, σ => (H.loop a (toL (headF a E)) σ).map fun r => (r.1, ofL n r.2.1, r.2.2)
  | .exit id, E, σ => some (.exit id, E, σ)
  | .ret, E, σ => some (.ret, E, σ)
  | .keep ts a, E, σ => evCE a (keepF ts E) σ
/-- Where the text of a piece ends: what follows is a piece of its own. -/
def cutK (a : PC) (E : EnvF n) (σ : Heap) (k : Out → EnvF n → Heap → Option R) : Option R := (evCE C H a E σ).bind fun r => k r.1 r.2.1 r.2.2
def callK (σ : Heap) (pc : Bool) (f : PV) (args : List PV) (k : PV → Heap → Option R) : Option R :=
  match f with
  | .fn f caps => (evCall C H σ pc f (args ++ caps)).bind fun p => k p.1 p.2
  | _ => none
def evPrimK (E : EnvF n) (σ : Heap) (op : POp) (k : PV → Heap → Option R) : Option R :=
  match op with
  | .mov x => k (x.evF E) σ
  | .pick c a b => (pickV (c.evF E) (a.evF E) (b.evF E)).bind fun v => k v σ
  | .new cells => k (.ptr σ.length 0) (σ ++ [.box cells])
  | .box x => (boxV (x.evF E) σ).bind fun σ' => k (.ptr σ.length 0) σ'
  | .load agg sz x => (loadV σ agg sz (x.evF E)).bind fun v => k v σ
  | .store sz x y => (storeV σ sz (x.evF E) (y.evF E)).bind fun σ' => k (.tup []) σ'
  | .bin op ty x y => (evBin op ty (x.evF E) (y.evF E)).bind fun v => k v σ
  | .un op x => (evUn op (x.evF E)).bind fun v => k v σ
  | .faddr off x => (faddrV off (x.evF E)).bind fun v => k v σ
  | .fld agg off sz x => (fldV agg off sz (x.evF E)).bind fun v => k v σ
  | .iaddr st x i => (iaddrV σ st (x.evF E) (i.evF E)).bind fun v => k v σ
  | .idxs x i => (idxV (x.evF E) (i.evF E)).bind fun v => k v σ
  | .ext x i => (extV (x.evF E) i).bind fun v => k v σ
  | .len ty x => (lenP σ ty (x.evF E)).bind fun n => k (.int .i64 (n : Int)) σ
  | .mkfn f caps => k (.fn f (caps.map (·.evF E))) σ
  | .mkmap => k (.mp σ.length) (σ ++ [.map []])
  | .append ty st b s x => (appendP ty st b σ (s.evF E) (x.evF E)).bind fun p => k p.1 p.2
  | .call pc f args => callK C H σ pc (f.evF E) (args.map (·.evF E)) k
  | op => (evPrim [] σ (op.sub E)).bind fun p => k p.1 p.2
def evOpsK : List PO → EnvF n → Heap → (EnvF n → Heap → Option R) → Option R
  | [], E, σ, k => k E σ
  | o :: r, E, σ, k => match o.guard with
    | none => evPrimK C H E σ o.op fun v σ' => evOpsK r (putF E o.dst v) σ' k
    | some (t, b) => guardK (gtF E t) b (fun _ => evPrimK C H E σ o.op fun v σ' => evOpsK r (putF E o.dst v) σ' k) (fun _ => evOpsK r (putF E o.dst (.tup [])) σ k)
def evOpsU : List PO → EnvF n → Heap → (EnvF n → Heap → Option R) → Option R
  | [], E, σ, k => k E σ
  | o :: r, E, σ, k => evPrimK C H E σ o.op fun v σ' => evOpsU r (putF E o.dst v) σ' k
def skipU : List PO → EnvF n → EnvF n
  | [], E => E
  | o :: r, E => skipU r (putF E o.dst (.tup []))
/-- One guard for all of them, which none of them writes. -/
def uniform : List PO → Option (Nat × Bool)
  | [] => none
  | o :: r => match o.guard with
    | none => none
    | some g => if (o :: r).all (fun p => p.guard == some g && p.dst != some g.1) then some g else none
def free (l : List PO) : Bool := l.all fun o => o.guard.isNone
def putsF (vs : List PV) : List PO → Nat → EnvF n → EnvF n
  | [], _, E => E
  | o :: r, i, E => putsF vs r (i + 1) (putF E o.dst (nthV vs i))
def runVals (l : List PO) (E : EnvF n) : List PV := l.map fun o => match o.dst with
  | some d => gtF E d
  | none => .tup []
def evSegK (l : List PO) (E : EnvF n) (σ : Heap) (k : EnvF n → Heap → Option R) : Option R :=
  match free l with
  | true => evOpsU C H l E σ k
  | false => match uniform l with
    | some g => (guardR (gtF E g.1) g.2 l.length σ fun _ => evOpsU C H l E σ fun E' σ' => some (runVals l E', σ')).bind fun p => k (putsF p.1 l 0 E) p.2
    | none => evOpsK C H l E σ k
/-- Runs of operations under one guard. -/
def splitRun (g : Option (Nat × Bool)) : List PO → List PO × List PO
  | [] => ([], [])
  | o :: r => if o.guard = g then ((o :: (splitRun g r).1), (splitRun g r).2) else ([], o :: r)
def evRunsK : Nat → List PO → EnvF n → Heap → (EnvF n → Heap → Option R) → Option R
  | m + 1, o :: r, E, σ, k => match splitRun o.guard r with
    | (a, []) => evSegK C H (o :: a) E σ k
    | (a, b) => evSegK C H (o :: a) E σ fun E' σ' => evRunsK m b E' σ' k
  | _, l, E, σ, k => evSegK C H l E σ k
abbrev seqK (B : EnvF n → Heap → Option R) (k : Out → EnvF n → Heap → Option R) : Out → EnvF n → Heap → Option R
  | .norm, E, σ => B E σ
  | o, E, σ => k o E σ
abbrev blockK (id : Nat) (k : Out → EnvF n → Heap → Option R) : Out → EnvF n → Heap → Option R
  | .exit id', E, σ => if id' = id then k .norm E σ else k (.exit id') E σ
  | o, E, σ => k o E σ
def loopK (a : PC) (E : EnvF n) (σ : Heap) (k : Out → EnvF n → Heap → Option R) : Option R :=
  (H.loop a (toL E) σ).bind fun r => k r.1 (ofL n r.2.1) r.2.2
def evCK : PC → EnvF n → Heap → (Out → EnvF n → Heap → Option R) → Option R
  | .skip, E, σ, k => k .norm E σ
  | .ops l, E, σ, k => evRunsK C H l.length l E σ fun E' σ' => k .norm E' σ'
  | .seq a b, E, σ, k => evCK a E σ (seqK (fun E' σ' => evCK b E' σ' k) k)
  | .cond x a b, E, σ, k => condK (x.evF E) (fun _ => evCK a E σ k) (fun _ => evCK b E σ k)
  | .block id a, E, σ, k => evCK a E σ (blockK id k)
  | .loop a, E, σ, k => loopK H a (headF a E) σ k
  | .exit id, E, σ, k => k (.exit id) E σ
  | .ret, E, σ, k => k .ret E σ
  | .keep ts a, E, σ, k => cutK C H a (keepF ts E) σ k
end

section
variable {R : Type} {C : Funcs} {H : Handler} {n : Nat}
theorem want_toL (E : EnvF n) (g : Option (Nat × Bool)) : wantP (toL E) g = wantF E g := by
  cases g with
  | none => rfl
  | some p =>
    simp only [wantP, wantF, get_toL]
    cases h : gtF E p.1 <;> first
      | rfl
      | (rename_i vs; cases vs <;> rfl)
theorem evOps_toL : ∀ (l : List PO) (E : EnvF n) (σ : Heap), evOps C H l (toL E) σ = (evOpsE C H l E σ).map fun p => (toL p.1, p.2)
  | [], E, σ => rfl
  | o :: l, E, σ => by
    simp only [evOps, evOpsE, want_toL]
    cases wantF E o.guard with
    | none => rfl
    | some b =>
      cases b with
      | false => simp only [put_toL, evOps_toL l]
      | true =>
        simp only
        rw [Option.map_bind]
        congr 1
        funext p
        simp only [Function.comp, put_toL, evOps_toL l]
theorem evPrimK_eq (E : EnvF n) (σ : Heap) (op : POp) (k : PV → Heap → Option R) : evPrimK C H E σ op k = (evOp C H (toL E) σ op).bind fun p => k p.1 p.2 := by
  have bm : ∀ {α β γ : Type} (a : Option α) (f : α → β) (g : β → Option γ), (a.map f).bind g = a.bind fun x => g (f x) := fun a f g => by cases a <;> rfl
  have gen : (∀ pc f xs, op ≠ .call pc f xs) → (evPrim [] σ (op.sub E)).bind (fun p => k p.1 p.2) = (evOp C H (toL E) σ op).bind fun p => k p.1 p.2 := fun hne => by
    rw [prim_sub E]
    congr 1
    cases op <;> first | rfl | exact absurd rfl (hne _ _ _)
  cases op <;> simp only [evPrimK] <;> first
    | exact gen (fun _ _ _ h => by cases h)
    | skip
  case pick c a b =>
    simp only [evOp, evPrim, ev_toL, pickV]
    generalize c.evF E = vc
    cases vc <;> first | rfl | (rename_i b; cases b <;> rfl)
  case box x =>
    simp only [evOp, evPrim, ev_toL, boxV]
    cases (x.evF E).cells? <;> rfl
  case load agg sz x =>
    simp only [evOp, evPrim, ev_toL, loadV]
    cases cellsAt σ (x.evF E) with
    | none => rfl
    | some cs => simp only [Option.bind_some, bm]
  case store sz x y =>
    have h := prim_sub E [] σ (.store sz x y)
    have hv : ∀ p, evPrim (toL E) σ (.store sz x y) = some p → p.1 = .tup [] := fun p h1 => by
      simp only [evPrim] at h1
      repeat' split at h1
      all_goals first | (cases h1; rfl) | cases h1
    have e1 : storeV σ sz (x.evF E) (y.evF E) = (evPrim (toL E) σ (.store sz x y)).map (·.2) := by rw [← h]; rfl
    rw [e1, bm]
    show _ = (evPrim (toL E) σ (.store sz x y)).bind _
    cases he : evPrim (toL E) σ (.store sz x y) with
    | none => rfl
    | some p => simp only [Option.bind_some, hv p he]
  case bin op ty x y => simp only [evOp, evPrim, ev_toL, bm]
  case un op x => simp only [evOp, evPrim, ev_toL, bm]
  case faddr off x =>
    simp only [evOp, evPrim, ev_toL, faddrV]
    generalize x.evF E = v
    cases v <;> rfl
  case fld agg off sz x =>
    have h := prim_sub E [] σ (.fld agg off sz x)
    have hσ : ∀ p, evPrim (toL E) σ (.fld agg off sz x) = some p → p.2 = σ := fun p h1 => by
      have := quiet_same (C := C) (H := H) (p := .fld agg off sz x) rfl (v := p.1) (σ' := p.2) h1
      exact this
    have e1 : fldV agg off sz (x.evF E) = (evPrim (toL E) σ (.fld agg off sz x)).map (·.1) := by
      rw [← h]
      simp only [fldV, POp.sub, evPrim, Opd.sub, Opd.ev]
      generalize x.evF E = v
      cases v <;> first | rfl | skip
      rename_i cells
      cases agg with
      | true =>
        simp only [if_true]
        split <;> rfl
      | false =>
        simp only [Bool.false_eq_true, if_false]
        cases cells[off]? <;> rfl
    rw [e1, bm]
    show _ = (evPrim (toL E) σ (.fld agg off sz x)).bind _
    cases he : evPrim (toL E) σ (.fld agg off sz x) with
    | none => rfl
    | some p => simp only [Option.bind_some, hσ p he]
  case iaddr st x i =>
    have h := prim_sub E [] σ (.iaddr st x i)
    have hσ : ∀ p, evPrim (toL E) σ (.iaddr st x i) = some p → p.2 = σ := fun p h1 => by
      have := quiet_same (C := C) (H := H) (p := .iaddr st x i) rfl (v := p.1) (σ' := p.2) h1
      exact this
    have e1 : iaddrV σ st (x.evF E) (i.evF E) = (evPrim (toL E) σ (.iaddr st x i)).map (·.1) := by rw [← h]; rfl
    rw [e1, bm]
    show _ = (evPrim (toL E) σ (.iaddr st x i)).bind _
    cases he : evPrim (toL E) σ (.iaddr st x i) with
    | none => rfl
    | some p => simp only [Option.bind_some, hσ p he]
  case idxs x i =>
    have ec : ∀ (e : Env) (v : PV), (Opd.cst v).ev e = v := fun _ _ => rfl
    simp only [evOp, evPrim, ev_toL, idxV, ec]
    generalize x.evF E = v
    generalize i.evF E = u
    cases v <;> first | rfl | skip
    cases u <;> first | rfl | skip
    rename_i s _ m
    simp only
    split
    · cases s[m.toNat]? <;> rfl
    · rfl
  case ext x i =>
    simp only [evOp, evPrim, ev_toL, extV]
    generalize x.evF E = v
    cases v <;> first | rfl | skip
    simp only [bm]
  case len ty x => simp only [evOp, evPrim, ev_toL, bm]
  case mkfn f caps => simp only [evOp, evPrim, ev_toL, Option.bind_some]
  case call pc f args =>
    simp only [evOp, ev_toL, callK]
    generalize f.evF E = v
    cases v <;> rfl
theorem gtF_put_ne (E : EnvF n) {d : Option Nat} {t : Nat} (h : d ≠ some t) (v : PV) : gtF (putF E d v) t = gtF E t := by
  cases d with
  | none => rfl
  | some d =>
    by_cases ht : t < n
    · rw [gtF_putF E d v ht, if_neg fun e => h (by rw [e])]
    · exact ((putF E (some d) v).can t (by omega)).trans (E.can t (by omega)).symm
theorem want_put (E : EnvF n) {g : Option (Nat × Bool)} {d : Option Nat} (h : ∀ t b, g = some (t, b) → d ≠ some t) (v : PV) : wantF (putF E d v) g = wantF E g := by
  cases g with
  | none => rfl
  | some p => simp only [wantF, gtF_put_ne E (h p.1 p.2 rfl) v]
theorem evOpsU_eq {g : Option (Nat × Bool)} : ∀ (l : List PO) (E : EnvF n) (σ : Heap) (k : EnvF n → Heap → Option R), (∀ o ∈ l, o.guard = g ∧ ∀ t b, g = some (t, b) → o.dst ≠ some t) → wantF E g = some true → evOpsU C H l E σ k = (evOpsE C H l E σ).bind fun p => k p.1 p.2
  | [], E, σ, k, _, _ => rfl
  | o :: l, E, σ, k, hg, hw => by
    obtain ⟨g1, g2⟩ := hg o (by simp)
    simp only [evOpsU, evOpsE, g1, hw, evPrimK_eq, Option.bind_assoc]
    congr 1
    funext p
    exact evOpsU_eq l _ _ k (fun q hq => hg q (by simp [hq])) ((want_put E g2 _).trans hw)
theorem evOpsE_skip {g : Option (Nat × Bool)} : ∀ (l : List PO) (E : EnvF n) (σ : Heap), (∀ o ∈ l, o.guard = g ∧ ∀ t b, g = some (t, b) → o.dst ≠ some t) → wantF E g = some false → evOpsE C H l E σ = some (skipU l E, σ)
  | [], E, σ, _, _ => rfl
  | o :: l, E, σ, hg, hw => by
    obtain ⟨g1, g2⟩ := hg o (by simp)
    simp only [evOpsE, g1, hw, skipU]
    exact evOpsE_skip l _ _ (fun q hq => hg q (by simp [hq])) ((want_put E g2 _).trans hw)
theorem evOpsE_frame : ∀ {l : List PO} {E : EnvF n} {σ : Heap} {E' : EnvF n} {σ' : Heap}, evOpsE C H l E σ = some (E', σ') → ∀ t, (∀ o ∈ l, o.dst ≠ some t) → gtF E' t = gtF E t
  | [], E, σ, E', σ', h, t, _ => by cases h; rfl
  | o :: l, E, σ, E', σ', h, t, hd => by
    have h0 := fun v => gtF_put_ne E (hd o (by simp)) v
    simp only [evOpsE] at h
    split at h
    · obtain ⟨p, _, h2⟩ := Option.bind_eq_some_iff.1 h
      exact (evOpsE_frame h2 t fun q hq => hd q (by simp [hq])).trans (h0 _)
    · exact (evOpsE_frame h t fun q hq => hd q (by simp [hq])).trans (h0 _)
    · cases h
theorem puts_ok {vs : List PV} {E' : EnvF n} : ∀ (l : List PO) (i : Nat) (E : EnvF n), (∀ (j : Nat) o d, l[j]? = some o → o.dst = some d → nthV vs (i + j) = gtF E' d) → (∀ t, (∀ o ∈ l, o.dst ≠ some t) → gtF E t = gtF E' t) → putsF vs l i E = E'
  | [], i, E, _, h => EnvF.ext' fun t _ => h t (by simp)
  | o :: l, i, E, hv, h => by
    refine puts_ok l (i + 1) _ (fun j q d hq hd => by rw [Nat.add_assoc, Nat.add_comm 1 j]; exact hv (j + 1) q d (by simpa using hq) hd) fun t ht => ?_
    by_cases hd : o.dst = some t
    · rw [hd]
      by_cases hlt : t < n
      · rw [gtF_putF _ _ _ hlt, if_pos rfl]
        exact hv 0 o t rfl hd
      · exact (EnvF.can _ t (by omega)).trans (E'.can t (by omega)).symm
    · rw [gtF_put_ne E hd]
      refine h t fun q hq => ?_
      rcases List.mem_cons.1 hq with rfl | hq
      · exact hd
      · exact ht q hq
theorem puts_skip {m : Nat} : ∀ (l : List PO) (i : Nat) (E : EnvF n), i + l.length ≤ m → putsF (List.replicate m (.tup [])) l i E = skipU l E
  | [], i, E, _ => rfl
  | o :: l, i, E, h => by
    simp only [List.length_cons] at h
    have : nthV (List.replicate m (.tup [])) i = .tup [] := by simp [nthV, show i < m by omega]
    simp only [putsF, skipU, this]
    exact puts_skip l (i + 1) _ (by omega)
theorem evOpsK_eq : ∀ (l : List PO) (E : EnvF n) (σ : Heap) (k : EnvF n → Heap → Option R), evOpsK C H l E σ k = (evOpsE C H l E σ).bind fun p => k p.1 p.2
  | [], E, σ, k => rfl
  | o :: l, E, σ, k => by
    simp only [evOpsK, evOpsE]
    cases hg : o.guard with
    | none =>
      simp only [wantF, evPrimK_eq, Option.bind_assoc]
      congr 1
      funext p
      exact evOpsK_eq l _ _ k
    | some q =>
      obtain ⟨t, b⟩ := q
      have ht : (evPrimK C H E σ o.op fun v σ' => evOpsK C H l (putF E o.dst v) σ' k) = ((evOp C H (toL E) σ o.op).bind fun p => evOpsE C H l (putF E o.dst p.1) p.2).bind fun p => k p.1 p.2 := by
        rw [evPrimK_eq, Option.bind_assoc]
        congr 1
        funext p
        exact evOpsK_eq l _ _ k
      have hf := evOpsK_eq l (putF E o.dst (.tup [])) σ k
      simp only [wantF, guardK]
      cases gtF E t <;> first | rfl | skip
      · rename_i c
        simp only
        cases c <;> cases b <;> first | exact ht | exact hf
      · rename_i vs
        cases vs with
        | nil => exact hf
        | cons _ _ => rfl
theorem evSegK_eq (l : List PO) (E : EnvF n) (σ : Heap) (k : EnvF n → Heap → Option R) : evSegK C H l E σ k = (evOpsE C H l E σ).bind fun p => k p.1 p.2 := by
  unfold evSegK
  split
  · rename_i hf
    refine evOpsU_eq (g := none) l E σ k (fun o ho => ⟨?_, fun t b h => by cases h⟩) rfl
    simp only [free, List.all_eq_true] at hf
    simpa using hf o ho
  · split
    · rename_i g hu
      have hg : ∀ p ∈ l, p.guard = some g ∧ ∀ t b, some g = some (t, b) → p.dst ≠ some t := by
        unfold uniform at hu
        split at hu
        · cases hu
        · split at hu
          · cases hu
          · split at hu
            · rename_i g' _ hall
              cases hu
              intro p hp
              rw [List.all_eq_true] at hall
              have := hall p hp
              simp only [Bool.and_eq_true, beq_iff_eq, bne_iff_ne, ne_eq] at this
              refine ⟨this.1, fun t b e => ?_⟩
              cases e
              exact this.2
            · cases hu
      have hne : ∃ o r, l = o :: r := by
        cases l with
        | nil => cases hu
        | cons o r => exact ⟨o, r, rfl⟩
      have yes : wantF E (some g) = some true → ((evOpsU C H l E σ fun E' σ' => some (runVals l E', σ')).bind fun p => k (putsF p.1 l 0 E) p.2) = (evOpsE C H l E σ).bind fun p => k p.1 p.2 := fun hw => by
        rw [evOpsU_eq (g := some g) l E σ _ hg hw]
        cases h : evOpsE C H l E σ with
        | none => rfl
        | some p =>
          obtain ⟨E', σ'⟩ := p
          simp only [Option.bind_some]
          rw [puts_ok (E' := E') l 0 E (fun j o d ho hd => by simp [nthV, runVals, ho, hd]) fun t ht => (evOpsE_frame h t ht).symm]
      have no : wantF E (some g) = some false → k (putsF (List.replicate l.length (.tup [])) l 0 E) σ = (evOpsE C H l E σ).bind fun p => k p.1 p.2 := fun hw => by
        rw [evOpsE_skip (g := some g) l E σ hg hw, puts_skip l 0 E (by omega)]
        rfl
      have bad : wantF E (some g) = none → none = (evOpsE C H l E σ).bind fun p => k p.1 p.2 := fun hw => by
        obtain ⟨o, r, rfl⟩ := hne
        simp only [evOpsE, (hg o (by simp)).1, hw]
        rfl
      obtain ⟨t, b⟩ := g
      simp only [wantF] at yes no bad
      unfold guardR
      revert yes no bad
      cases gtF E t <;> intro yes no bad <;> first | exact bad rfl | skip
      · rename_i c
        simp only at yes no ⊢
        cases c <;> cases b <;> first | exact yes rfl | exact no rfl
      · rename_i vs
        cases vs with
        | nil => exact no rfl
        | cons _ _ => exact bad rfl
    · exact evOpsK_eq l E σ k
theorem evOpsE_append : ∀ (a b : List PO) (E : EnvF n) (σ : Heap), evOpsE C H (a ++ b) E σ = (evOpsE C H a E σ).bind fun p => evOpsE C H b p.1 p.2
  | [], b, E, σ => rfl
  | o :: a, b, E, σ => by
    simp only [List.cons_append, evOpsE]
    split
    · rw [Option.bind_assoc]
      congr 1
      funext p
      exact evOpsE_append a b _ _
    · exact evOpsE_append a b _ _
    · rfl
theorem splitRun_ok (g : Option (Nat × Bool)) : ∀ l, (splitRun g l).1 ++ (splitRun g l).2 = l
  | [] => rfl
  | o :: r => by
    simp only [splitRun]
    split
    · simp [splitRun_ok g r]
    · rfl
theorem evRunsK_eq : ∀ (m : Nat) (l : List PO) (E : EnvF n) (σ : Heap) (k : EnvF n → Heap → Option R), evRunsK C H m l E σ k = (evOpsE C H l E σ).bind fun p => k p.1 p.2
  | 0, l, E, σ, k => evSegK_eq l E σ k
  | m + 1, [], E, σ, k => evSegK_eq [] E σ k
  | m + 1, o :: r, E, σ, k => by
    have hs := splitRun_ok o.guard r
    simp only [evRunsK]
    split
    · rename_i a he
      rw [he] at hs
      simp only [List.append_nil] at hs
      rw [evSegK_eq, hs]
    · rename_i a b _ he
      rw [he] at hs
      simp only at hs
      have e1 : o :: r = (o :: a) ++ b := by rw [List.cons_append, hs]
      rw [evSegK_eq, e1, evOpsE_append, Option.bind_assoc]
      congr 1
      funext p
      exact evRunsK_eq m b _ _ k
end

section
variable {R : Type} {C : Funcs} {H : Handler} {n : Nat}
theorem evCK_eq : ∀ (c : PC) (E : EnvF n) (σ : Heap) (k : Out → EnvF n → Heap → Option R), evCK C H c E σ k = (evCE C H c E σ).bind fun r => k r.1 r.2.1 r.2.2
  | .skip, E, σ, k => rfl
  | .ops l, E, σ, k => by
    simp only [evCK, evCE, evRunsK_eq]
    cases evOpsE C H l E σ <;> rfl
  | .seq a b, E, σ, k => by
    simp only [evCK, evCE, Option.bind_assoc]
    rw [evCK_eq a]
    congr 1
    funext r
    obtain ⟨o, E', σ'⟩ := r
    cases o with
    | norm => exact evCK_eq b E' σ' k
    | exit id => rfl
    | ret => rfl
  | .cond x a b, E, σ, k => by
    simp only [evCK, evCE, condK]
    cases x.evF E <;> first | rfl | skip
    rename_i c
    cases c
    · exact evCK_eq b E σ k
    · exact evCK_eq a E σ k
  | .block id a, E, σ, k => by
    simp only [evCK, evCE]
    rw [evCK_eq a]
    cases evCE C H a E σ with
    | none => rfl
    | some r =>
      obtain ⟨o, E', σ'⟩ := r
      cases o with
      | norm => rfl
      | ret => rfl
      | exit id' =>
        simp only [Option.bind_some, Option.map_some, blockK]
        split <;> rfl
  | .loop a, E, σ, k => by
    simp only [evCK, evCE, loopK]
    cases H.loop a (toL (headF a E)) σ <;> rfl
  | .exit id, E, σ, k => rfl
  | .ret, E, σ, k => rfl
  | .keep ts a, E, σ, k => rfl
theorem cutK_eq (c : PC) (E : EnvF n) (σ : Heap) (k : Out → EnvF n → Heap → Option R) : cutK C H c E σ k = evCK C H c E σ k := (evCK_eq c E σ k).symm
/-- Loops keep the number of temporaries. -/
def LenH (H : Handler) : Prop := ∀ a e σ o e' σ', H.loop a e σ = some (o, e', σ') → e'.length = e.length
theorem evC_toL (hL : LenH H) : ∀ (c : PC) (E : EnvF n) (σ : Heap), evC C H c (toL E) σ = (evCE C H c E σ).map fun r => (r.1, toL r.2.1, r.2.2)
  | .skip, E, σ => rfl
  | .ops l, E, σ => by
    simp only [evC, evCE, evOps_toL]
    cases evOpsE C H l E σ <;> rfl
  | .seq a b, E, σ => by
    simp only [evC, evCE]
    rw [evC_toL hL a]
    cases evCE C H a E σ with
    | none => rfl
    | some r =>
      obtain ⟨o, E', σ'⟩ := r
      cases o with
      | norm => exact evC_toL hL b E' σ'
      | exit id => rfl
      | ret => rfl
  | .cond x a b, E, σ => by
    simp only [evC, evCE, ev_toL]
    cases x.evF E <;> first | rfl | skip
    rename_i c
    cases c
    · exact evC_toL hL b E σ
    · exact evC_toL hL a E σ
  | .block id a, E, σ => by
    simp only [evC, evCE]
    rw [evC_toL hL a]
    cases evCE C H a E σ with
    | none => rfl
    | some r =>
      obtain ⟨o, E', σ'⟩ := r
      cases o <;> rfl
  | .loop a, E, σ => by
    simp only [evC, evCE, head_toL]
    cases h : H.loop a (toL (headF a E)) σ with
    | none => rfl
    | some r =>
      obtain ⟨o, e', σ'⟩ := r
      have := hL _ _ _ _ _ _ h
      rw [toL_length] at this
      simp only [Option.map_some, toL_ofL this]
  | .exit id, E, σ => rfl
  | .ret, E, σ => rfl
  | .keep ts a, E, σ => by
    simp only [evC, evCE, keep_toL]
    exact evC_toL hL a _ σ
theorem evC_length (hL : LenH H) {c : PC} {e : Env} {σ : Heap} {o : Out} {e' : Env} {σ' : Heap} (h : evC C H c e σ = some (o, e', σ')) : e'.length = e.length := by
  have h1 := evC_toL (C := C) hL c (ofL e.length e) σ
  rw [toL_ofL rfl, h] at h1
  obtain ⟨r, _, hr⟩ := Option.map_eq_some_iff.1 h1.symm
  have : e' = toL r.2.1 := by
    have := congrArg (fun x : Out × Env × Heap => x.2.1) hr
    exact this.symm
  rw [this, toL_length]
end

section
variable {R : Type} {C : Funcs} {X : Ext} {n : Nat}
theorem lenHk (C : Funcs) (X : Ext) : ∀ k, LenH (Hk C X k)
  | 0 => fun _ _ _ _ _ _ h => (nomatch h)
  | k + 1 => fun a e σ o e' σ' h => by
    have ih := lenHk C X k
    simp only [Hk, loopStep] at h
    obtain ⟨⟨o1, e1, σ1⟩, h1, h2⟩ := Option.bind_eq_some_iff.1 h
    have hh : (headE a e1).length = e1.length := by cases a <;> simp [headE, keepL]
    cases o1 with
    | norm => exact ((ih _ _ _ _ _ _ h2).trans hh).trans (evC_length ih h1)
    | exit id => cases h2; exact evC_length ih h1
    | ret => cases h2; exact evC_length ih h1
theorem lenHw (C : Funcs) (X : Ext) : LenH (Hw C X) := fun a e σ o e' σ' h => by
  obtain ⟨k, hk⟩ := Hw_loop.1 h
  exact lenHk C X k _ _ _ _ _ _ hk
/-- What follows behind a round. -/
noncomputable abbrev roundK (C : Funcs) (X : Ext) (a : PC) (k : Out → EnvF n → Heap → Option R) : Out → EnvF n → Heap → Option R
  | .norm, E, σ => loopK (Hw C X) a (headF a E) σ k
  | o, E, σ => k o E σ
/-- ONE ROUND of a loop. -/
theorem loopK_eq (a : PC) (E : EnvF n) (σ : Heap) (k : Out → EnvF n → Heap → Option R) : loopK (Hw C X) a E σ k = evCK C (Hw C X) a E σ (roundK C X a k) := by
  rw [evCK_eq]
  unfold loopK
  rw [loop_eq, loopStep, evC_toL (lenHw C X)]
  cases evCE C (Hw C X) a E σ with
  | none => rfl
  | some r =>
    obtain ⟨o, E', σ'⟩ := r
    cases o with
    | norm => simp only [Option.map_some, Option.bind_some, roundK, loopK, head_toL]
    | exit id => simp only [Option.map_some, Option.bind_some, roundK, ofL_toL]
    | ret => simp only [Option.map_some, Option.bind_some, roundK, ofL_toL]

theorem loopK_keep (ts : List Nat) (a : PC) (E : EnvF n) (σ : Heap) (k : Out → EnvF n → Heap → Option R) : loopK (Hw C X) (.keep ts a) E σ k = evCK C (Hw C X) a (keepF ts E) σ (roundK C X (.keep ts a) k) :=
  (loopK_eq _ _ _ _).trans (cutK_eq a _ _ _)

/-- The environment at a function's begin. -/
def env0 (n : Nat) (args : List PV) : EnvF n := bnd n fun t => (args[t]?).getD (.tup [])
theorem toL_env0 {n : Nat} {args : List PV} (h : args.length ≤ n) : toL (env0 n args) = args ++ List.replicate (n - args.length) (.tup []) := by
  refine env_ext (by simp [toL_length]; omega) fun t ht => ?_
  rw [toL_length] at ht
  rw [get_toL]
  show (if t < n then (args[t]?).getD (.tup []) else .top) = _
  rw [if_pos ht, get]
  by_cases h1 : t < args.length
  · rw [List.getElem?_append_left h1]
    simp [h1]
  · rw [List.getElem?_append_right (by omega), List.getElem?_eq_none (by omega), List.getElem?_replicate, if_pos (by omega)]
    rfl
def resK {R : Type} (E : EnvF n) (σ : Heap) : List PRes → (List PV → Option R) → Option R
  | [], k => k []
  | .tmp t :: rs, k => resK E σ rs fun vs => k (gtF E t :: vs)
  | .cell t agg sz :: rs, k => (loadV σ agg sz (gtF E t)).bind fun v => resK E σ rs fun vs => k (v :: vs)
theorem resK_eq {R : Type} (E : EnvF n) (σ : Heap) : ∀ (l : List PRes) (k : List PV → Option R), resK E σ l k = (resPs (toL E) σ l).bind k
  | [], k => rfl
  | .tmp t :: l, k => by
    simp only [resK, resPs, resP, get_toL, resK_eq E σ l, Option.bind_some]
    cases resPs (toL E) σ l <;> rfl
  | .cell t agg sz :: l, k => by
    simp only [resK, resPs, resP, get_toL, resK_eq E σ l, loadV, Option.bind_assoc]
    congr 1
    funext cs
    congr 1
    funext v
    cases resPs (toL E) σ l <;> rfl
def finVs (keepr : List (Bool × List (Option Nat))) (vs : List PV) (σ : Heap) : Option (List PV) := if pureL (finArgs σ keepr vs) = true then some (finArgs σ keepr vs) else none
/-- What follows behind a body whose call is pure. -/
abbrev finK (pf : PFunc) : Out → EnvF n → Heap → Option (List PV)
  | .exit _, _, _ => none
  | .norm, E, σ => resK E σ pf.results fun vs => finVs pf.keepr vs σ
  | .ret, E, σ => resK E σ pf.results fun vs => finVs pf.keepr vs σ
theorem pure_of {f : Nat} {pf : PFunc} (hf : C f = some pf) {args : List PV} (hl : args.length ≤ pf.ntmps) : (Hw C X).pure f args = evCK C (Hw C X) pf.body (env0 pf.ntmps args) [] (finK pf) := by
  rw [pure_eq hf, evCK_eq]
  unfold runPure runF
  rw [← toL_env0 hl, evC_toL (lenHw C X)]
  cases evCE C (Hw C X) pf.body (env0 pf.ntmps args) [] with
  | none => rfl
  | some r =>
    obtain ⟨o, E', σ'⟩ := r
    cases o <;> simp only [Option.map_some, Option.bind_some, finK, resK_eq] <;> first | rfl | (cases resPs (toL E') σ' pf.results <;> rfl)
abbrev finI (pf : PFunc) : Out → EnvF n → Heap → Option (List PV × Heap)
  | .exit _, _, _ => none
  | .norm, E, σ => resK E σ pf.results fun vs => some (keepArgs σ pf.keepr vs, σ)
  | .ret, E, σ => resK E σ pf.results fun vs => some (keepArgs σ pf.keepr vs, σ)
theorem imp_of {f : Nat} {pf : PFunc} (hf : C f = some pf) {args : List PV} {σ : Heap} (hl : args.length ≤ pf.ntmps) : (Hw C X).imp f args σ = evCK C (Hw C X) pf.body (env0 pf.ntmps args) σ (finI pf) := by
  rw [imp_eq hf, evCK_eq]
  unfold runImp runF
  rw [← toL_env0 hl, evC_toL (lenHw C X)]
  cases evCE C (Hw C X) pf.body (env0 pf.ntmps args) σ with
  | none => rfl
  | some r =>
    obtain ⟨o, E', σ'⟩ := r
    cases o <;> simp only [Option.map_some, Option.bind_some, finI, resK_eq] <;> first | rfl | (cases resPs (toL E') σ' pf.results <;> rfl)
end
end Go.PE
