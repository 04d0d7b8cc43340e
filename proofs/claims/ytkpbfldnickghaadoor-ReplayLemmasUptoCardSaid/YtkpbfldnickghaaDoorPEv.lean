/- The keys of a map, collected and sorted. -/
import Derived.Test.YtkpbfldnickghaaDoorPEka
import Derived.Sort.KeysCollected
import Derived.Sort.OwnSorted
import Derived.Maps.RangeWalk
import Derived.Laws.AppendOwn
import Derived.Maps.AppendAt
set_option linter.unusedVariables false
set_option linter.unusedSimpArgs false
set_option linter.unusedSectionVars false
namespace Go.PE
open Go.Maps Go.RowKit Go.WideShapes
variable [Globs]
/-- An object that is a map from texts is one that the kit's laws know. -/
theorem map_owns {P : Program} {base : Nat} {w : World} {g : Gh} {σ : Heap} {id : Nat} {ks : List (List UInt8)} {vs : List Bool} (hi : Inv base w g σ) {es : List (PV × PV)} (ho : σ[id]? = some (.map es)) (hes : es.map (·.1) = ks.map .str) (hvs : es.map (·.2) = vs.map .bool)
    (hn : ks.Nodup) (hlen : ks.length ≤ maxLen) (hstr : ∀ n ∈ ks, n.length ≤ maxLen) {tk te : TypeId} (hk : P.underlying tk = some .string) (he : P.underlying te = some .bool) :
    ∃ D0 : DataW Unit, w.ownsMap P tk (plainElem P te) (g.loc id) ks.length D0 ∧ (strKeys D0).Perm ks := by
  obtain ⟨_, ents, clock, hh, hsz, ⟨hb1, hb2⟩, hr⟩ := hi.obj id _ ho
  have hl1 : es.length = ks.length := by have := congrArg List.length hes; simpa using this
  have hl2 : es.length = vs.length := by have := congrArg List.length hvs; simpa using this
  have hkey : ∀ (i : Nat) (x : MapEntry), ents[i]? = some x → ∃ n b s, ks[i]? = some n ∧ x.key = .string s ∧ s.data.toList = n ∧ x.val = .bool b := by
    intro i x hx
    have hi' := (Array.getElem?_eq_some_iff.1 hx).1
    have hi2 : i < es.length := by omega
    obtain ⟨r1, r2⟩ := hr i x es[i] hx (List.getElem?_eq_getElem hi2)
    have e1 : es[i].1 = .str (ks[i]'(by omega)) := by
      have := congrArg (fun l => l[i]?) hes
      simp only [List.getElem?_map, List.getElem?_eq_getElem hi2, List.getElem?_eq_getElem (show i < ks.length by omega), Option.map_some, Option.some.injEq] at this
      exact this
    have e2 : es[i].2 = .bool (vs[i]'(by omega)) := by
      have := congrArg (fun l => l[i]?) hvs
      simp only [List.getElem?_map, List.getElem?_eq_getElem hi2, List.getElem?_eq_getElem (show i < vs.length by omega), Option.map_some, Option.some.injEq] at this
      exact this
    rw [e1] at r1
    rw [e2] at r2
    obtain ⟨s, hs1, hs2⟩ := r1.str_inv
    exact ⟨_, _, s, List.getElem?_eq_getElem (by omega), hs1, hs2, r2.bool_inv⟩
  have hks : ents.toList.map (·.key) = ks.map fun n => Value.string ⟨n.toArray⟩ := by
    apply List.ext_getElem?
    intro i
    simp only [List.getElem?_map, Array.getElem?_toList]
    cases hx : ents[i]? with
    | none =>
      have := Array.getElem?_eq_none_iff.1 hx
      rw [List.getElem?_eq_none (by omega)]
      rfl
    | some x =>
      obtain ⟨n, b, s, h1, h2, h3, _⟩ := hkey i x hx
      rw [h1, Option.map_some, Option.map_some, h2, ← h3]
  have hnd : (ents.toList.map (·.key)).Nodup := by
    rw [hks]
    refine List.pairwise_map.2 (hn.imp fun {a b} hne e => hne ?_)
    simpa using e
  have rdx : ∀ x ∈ ents.toList, ∃ n b, n ∈ ks ∧ WideElems.rd P tk (plainElem (H := Unit) P te) x = some (.string n, .lit (.bool b)) := by
    intro x hx
    obtain ⟨i, hx⟩ := List.getElem?_of_mem hx
    rw [Array.getElem?_toList] at hx
    obtain ⟨n, b, s, h1, h2, h3, h4⟩ := hkey i x hx
    have hm := List.mem_of_getElem? h1
    have hsz : s.size ≤ maxLen := by
      have := hstr n hm
      rw [← h3, Array.length_toList] at this
      exact this
    refine ⟨n, b, hm, ?_⟩
    simp only [WideElems.rd, h2, h4, keyOf, hk, mapKey, plainElem, he]
    simp [hsz, h3]
  refine ⟨_, ⟨ents, clock, hh, ⟨by rw [hsz, hl1]; exact hlen, ⟨hb1, hb2, hnd⟩, fun x hx => ?_⟩, by omega, rfl⟩, ?_⟩
  · obtain ⟨n, b, _, h⟩ := rdx x hx
    exact ⟨_, h⟩
  · show ((ents.toList.map (WideElems.rg P tk (plainElem P te))).foldr DataW.insert []).map (fun p => strOf p.1) |>.Perm ks
    refine ((sorted_perm _).map _).trans ?_
    rw [List.map_map]
    have e : ents.toList.map ((fun p : Lit × DataW Unit => strOf p.1) ∘ WideElems.rg P tk (plainElem P te)) = ks := by
      apply List.ext_getElem?
      intro i
      simp only [List.getElem?_map, Array.getElem?_toList]
      cases hx : ents[i]? with
      | none =>
        have := Array.getElem?_eq_none_iff.1 hx
        rw [List.getElem?_eq_none (by omega)]
        rfl
      | some x =>
        obtain ⟨n, b, s, h1, h2, h3, h4⟩ := hkey i x hx
        obtain ⟨n', b', _, h⟩ := rdx x (by rw [Array.mem_toList_iff]; exact Array.mem_of_getElem? hx)
        have hn' : n' = n := by
          have := WideElems.rd_key h
          rw [h2] at this
          obtain ⟨y, hy1, hy2, _⟩ := Maps.keyOf_str hk this
          have e1 : s.data.toList = y := by simpa [Go.Proofs.encStr] using congrArg (fun v => match v with | .string s => s.data.toList | _ => []) hy1
          rw [← h3, e1]
          simpa using hy2
        rw [h1, Option.map_some, Function.comp, WideElems.rg_of h, hn']
        rfl
    rw [e]
/-! ### The loop that collects -/
theorem eval_same {a : Act} {d : Nat} (h : d < a.tmps.size) (v : Value) : (a.put (some d) v).eval (.tmp d) = v := by simp [Act.put, Act.eval, h]
theorem eval_other {a : Act} {d x : Nat} (h : x ≠ d) (v : Value) : (a.put (some d) v).eval (.tmp x) = a.eval (.tmp x) := Act.eval_put fun d' hd hx => by
  cases hd
  cases hx
  exact h rfl
theorem put_size {a : Act} (d : Nat) (v : Value) : (a.put (some d) v).tmps.size = a.tmps.size := by simp [Act.put]
theorem put_at {a : Act} {d x : Nat} (h : x ≠ d) (v : Value) : (a.put (some d) v).tmps[x]? = a.tmps[x]? := by simp [Act.put, Array.getElem?_setIfInBounds, Ne.symm h]
theorem put_def {a : Act} (d : Nat) (v : Value) : (a.put (some d) v).defers = a.defers := rfl
theorem wpl_val {P : Program} {ops : Array Oper} {Q : Exit → Act → World → Prop} {o : Oper} {rest : List Oper} {a : Act} {w w' : World} {v : Value} {d : Nat} (hg : o.guard = none) (hd : o.dst = some d) (hrun : (execOp a.eval o).run P w = .ok (.value v) w')
    (h : wpList P ops Q rest (a.put (some d) v) w') : wpList P ops Q (o :: rest) a w :=
  wpList_plain hg fun K hK => by
    unfold Oper.wp
    rw [hrun, ← hd] at *
    exact hK _ _ (by rw [hd]; exact h)
/-- An operation of the code: what it does, where it puts it. -/
structure Is (o : Oper) (op : Op) (d : Nat) : Prop where
  op : o.op = op
  dst : o.dst = some d
  guard : o.guard = none
/-- One round's code. -/
def keysBody (t bid b1 i9 i10 i11 : Nat) (o3 o4 o5 o6 o7 o8 o9 o10 o11 o12 : Oper) : Code :=
  .seq (.region i9 #[o3, o4] false) (.seq (.cond (.tmp (t + 3)) .skip (.exit bid)) (.block b1 (.seq (.region i10 #[o5, o6, o7] false) (.region i11 #[o8, o9, o10, o11, o12] false))))
/-- The temporaries that the code writes. -/
def Touched (out n t x : Nat) : Prop := x = out ∨ x = n ∨ (t ≤ x ∧ x ≤ t + 11)
structure Round (P : Program) (tk te : TypeId) (out n t : Nat) (w0 : World) (a0 : Act) (b r N : Nat) (D0 : DataW Unit) (left : Lit → Bool) (cnt : Nat) (ss : List (List UInt8)) (v : Value) (a : Act) (w : World) : Prop where
  ranges : w.ranges P tk (plainElem P te) b r N D0 left cnt
  count : ss.length + cnt ≤ Maps.size D0
  row : w.ownsRow w0.heap.size tk 1 v ss.length (ss.map Go.Proofs.encStr)
  coll : Collected D0 left ss
  below : Below w0.heap.size w0 w
  it : a.eval (.tmp (t + 1)) = .pointer (some ⟨r, 0, none⟩)
  outv : a.eval (.tmp out) = v
  defers : a.defers = a0.defers
  size : a.tmps.size = a0.tmps.size
  same : ∀ x, ¬ Touched out n t x → a.tmps[x]? = a0.tmps[x]?
  nil : ss = [] → v = .slice none 0 0
theorem keys_loop {P : Program} {tk te ts tm : TypeId} {out n t bid b1 i9 i10 i11 : Nat} {o3 o4 o5 o6 o7 o8 o9 o10 o11 o12 : Oper}
    (h3 : Is o3 (.next (.tmp (t + 1)) false) (t + 2)) (h4 : Is o4 (.extract (.tmp (t + 2)) 0) (t + 3)) (h5 : Is o5 (.entry (.tmp (t + 1))) (t + 4)) (h6 : Is o6 (.extract (.tmp (t + 4)) 0) (t + 5)) (h7 : Is o7 (.assign (.tmp (t + 5))) n)
    (h8 : Is o8 (.move (.tmp out)) (t + 6)) (h9 : Is o9 (.move (.tmp n)) (t + 7)) (h10 : Is o10 (.buildSlice ts 1 #[(0, .tmp (t + 7))]) (t + 8)) (h11 : Is o11 (.call { callee := .builtin .append, args := #[.tmp (t + 6), .tmp (t + 8)], argTypes := #[ts, ts] }) (t + 9)) (h12 : Is o12 (.assign (.tmp (t + 9))) out)
    (hon : out ≠ n) (hot : out < t) (hnt : n < t)
    (hk : P.underlying tk = some .string) (he : P.underlying te = some .bool) (hts : P.underlying ts = some (.slice tk)) {i0 : TypeInfo} (hi0 : P.info? tk = some i0) (hz : i0.zero = some (.string ⟨#[]⟩)) (hz1 : i0.size = 1) (hz2 : i0.bytes = 16) (K : Maps.Keyed P tk)
    {w0 : World} {a0 : Act} {b r N : Nat} {D0 : DataW Unit} (hbl : b < w0.heap.size) (hr : w0.heap.size ≤ r) (hS : t + 11 < a0.tmps.size) (hmax : Maps.size D0 ≤ maxLen) (hbytes : 16 * Maps.size D0 ≤ 140737488355328) {Q : Exit → Act → World → Prop}
    (hend : ∀ ss v a w left, Round P tk te out n t w0 a0 b r N D0 left 0 ss v a w → (∀ kl, left kl = false) → Q (.exit bid) a w) :
    ∀ (cnt : Nat) (left : Lit → Bool) (ss : List (List UInt8)) (v : Value) (a : Act) (w : World), Round P tk te out n t w0 a0 b r N D0 left cnt ss v a w → LoopIn P (keysBody t bid b1 i9 i10 i11 o3 o4 o5 o6 o7 o8 o9 o10 o11 o12) Q a w := by
  intro cnt
  induction cnt using Nat.strongRecOn with
  | ind cnt ih =>
    intro left ss v a w R
    have hs := R.size
    refine loopIn_step ?_
    unfold keysBody
    refine wp_seq (wp_region_list ?_)
    refine wpList_next_ranges w h3.guard _ h3.op tk K (plainElem P te) Go.Proofs.encStr Value.bool (fun key kl hk' => by obtain ⟨x, hx, _⟩ := Maps.keyOf_str hk hk'; exact ⟨x, hx⟩) (fun v y hv => by
      unfold plainElem at hv
      rw [he] at hv
      split at hv <;> first | exact ⟨_, rfl⟩ | (simp_all; done) | cases hv) b r N D0 left cnt R.it R.ranges ?_ ?_
    · -- nothing is left
      intro hc0 hl0
      subst hc0
      rw [h3.dst]
      refine wpl_val h4.guard h4.dst (v := .bool false) (w' := w) ?_ (wpList_nil ?_)
      · unfold execOp
        simp only [h4.op, eval_same (show t + 2 < a.tmps.size by omega)]
        simp [Instr.extract]
      · show Code.wp P (Code.seq _ _) _ _ w
        refine wp_seq (wp_cond_false (eval_same (by rw [put_size]; omega) _) (wp_exit ?_))
        refine hend ss v _ w left ⟨R.ranges, R.count, R.row, R.coll, R.below, ?_, ?_, R.defers, ?_, fun x hx => ?_, R.nil⟩ hl0
        · rw [eval_other (by omega), eval_other (by omega)]; exact R.it
        · rw [eval_other (by omega), eval_other (by omega)]; exact R.outv
        · rw [put_size, put_size]; exact R.size
        · rw [put_at (fun e => hx (by unfold Touched; omega)), put_at (fun e => hx (by unfold Touched; omega))]; exact R.same x hx
    · -- an entry has come
      intro x c kl y w2 cnt2 hkey hlk hv hat hrg2 hlt hg2 hs2 hen
      obtain ⟨x', ex, rfl, _⟩ := Maps.keyOf_str hk hkey
      obtain rfl : x = x' := encStr_inj ex
      have hrow2 := R.row.kept hg2 (Or.inr (row_ne_iter R.row R.ranges).symm)
      rw [h3.dst]
      refine wpl_val h4.guard h4.dst (v := .bool true) (w' := w2) ?_ (wpList_nil ?_)
      · unfold execOp
        simp only [h4.op, eval_same (show t + 2 < a.tmps.size by omega)]
        simp [Instr.extract]
      show Code.wp P (Code.seq _ _) _ _ w2
      refine wp_seq (wp_cond_true (eval_same (by rw [put_size]; omega) _) (wp_skip ?_))
      show Code.wp P (Code.block b1 _) _ _ w2
      refine wp_block (wp_seq (wp_region_list ?_))
      refine wpl_val h5.guard h5.dst (v := .tuple #[Go.Proofs.encStr x, .bool c]) (w' := w2) ?_ ?_
      · unfold execOp
        simp (disch := first | omega | (simp only [put_size]; omega)) only [h5.op, eval_other, R.it]
        simp [hen]
      refine wpl_val h6.guard h6.dst (v := Go.Proofs.encStr x) (w' := w2) ?_ ?_
      · unfold execOp
        simp (disch := first | omega | (simp only [put_size]; omega)) only [h6.op, eval_same]
        simp [Instr.extract]
      refine wpl_val h7.guard h7.dst (v := Go.Proofs.encStr x) (w' := w2) ?_ (wpList_nil ?_)
      · unfold execOp
        simp (disch := first | omega | (simp only [put_size]; omega)) only [h7.op, eval_same]
        simp
      show Code.wp P (Code.region i11 _ false) _ _ w2
      refine wp_region_list ?_
      refine wpl_val h8.guard h8.dst (v := v) (w' := w2) ?_ ?_
      · unfold execOp
        simp (disch := first | omega | (simp only [put_size]; omega)) only [h8.op, eval_other, R.outv]
        simp
      refine wpl_val h9.guard h9.dst (v := Go.Proofs.encStr x) (w' := w2) ?_ ?_
      · unfold execOp
        simp (disch := first | omega | (simp only [put_size]; omega)) only [h9.op, eval_other, eval_same]
        simp
      refine wpl_val h10.guard h10.dst (v := .slice (some ⟨w2.heap.size, 0, none⟩) 1 1) (w' := w2.alloc (.cells #[Go.Proofs.encStr x] tk)) ?_ ?_
      · unfold execOp
        simp (disch := first | omega | (simp only [put_size]; omega)) only [h10.op, eval_same, List.map_toArray, List.map_cons, List.map_nil]
        have r1 : Array.range 1 = #[0] := by decide
        simp [Instr.buildSlice, run_underlying hts, run_sizeOf_of hi0, run_zero_of hi0 hz, hz1, newRow, Instr.fill, Go.Proofs.encStr, Value.cells, r1]
      have hsz := R.below.size
      have hgs := hg2.size
      refine wpList_append_own _ h11.guard (.tmp (t + 6)) (.tmp (t + 8)) ts h11.op w0.heap.size tk i0 (.string ⟨#[]⟩) 1 16 hts hi0 hz hz1 hz2 rfl (by decide) v _ _ ?_ (hrow2.alloc _) ⟨w2.heap.size, 0, none⟩ 1 1 [Go.Proofs.encStr x] ?_ rfl (cell_one_new _ _ _) (by simp [Value.oneCell', Go.Proofs.encStr]) (by have := R.count; omega) (by have := R.count; omega) (by simp; omega) ?_
      · simp (disch := first | omega | (simp only [put_size]; omega)) only [eval_other, eval_same]
      · simp (disch := first | omega | (simp only [put_size]; omega)) only [eval_same]
      intro v' w3 hown' hg3 hnil3
      rw [h11.dst]
      refine wpl_val h12.guard h12.dst (v := v') (w' := w3) ?_ (wpList_nil ?_)
      · unfold execOp
        simp (disch := first | omega | (simp only [put_size]; omega)) only [h12.op, eval_same]
        simp
      have hrg3 := (hrg2.alloc (.cells #[Go.Proofs.encStr x] tk)).kept hg3 (row_ne_low hrow2 hbl) (row_ne_iter hrow2 hrg2)
      refine ih cnt2 hlt _ (ss ++ [x]) v' _ w3 ⟨hrg3, by have := R.count; simp; omega, by simpa using hown', R.coll.step hlk hat, ?_, ?_, ?_, ?_, ?_, fun z hz' => ?_, fun h => by simp at h⟩
      · exact ((R.below.grown hg2 hsz (fun j hj => by cases hj; exact hr)).alloc (by omega) _).grown hg3 (by simp; omega) (fun j hj => (hrow2.lt j hj).1)
      · simp (disch := first | omega | (simp only [put_size]; omega)) only [eval_other]
        exact R.it
      · simp (disch := first | omega | (simp only [put_size]; omega)) only [eval_same]
      · simp only [put_def]
        exact R.defers
      · simp only [put_size]
        exact R.size
      · unfold Touched at hz'
        simp (disch := first | omega | (simp only [put_size]; omega)) only [put_at]
        exact R.same z (by unfold Touched; omega)
/-! ### What was collected becomes an object -/
/-- A block of one's own that nobody knows becomes a log. -/
theorem adoptLog {base : Nat} {w0 w : World} {g : Gh} {σ : Heap} (hp : Prog base w0 g σ w g σ) {b cap st : Nat} {ty : TypeId} {rows : List (List PV)} {c : Array Value} (hb0 : base ≤ b) (hb1 : w0.heap.size ≤ b) (hblk : w.heap[b]? = some (.cells c ty (0, 0))) (hc : c.size = cap * st)
    (hfree : ∀ i, i < σ.length → g.loc i ≠ b) (hbare : ∀ a : Addr, a.block = b → ¬ g.prot a) (hcap : rows.length ≤ cap) (hmax : cap ≤ maxLen) (hst : ∀ r ∈ rows, r.length = st) (hpure : pureLL rows = true)
    (hrows : ∀ (j i : Nat) r p, rows[j]? = some r → r[i]? = some p → ∃ v, c[j * st + i]? = some v ∧ ∀ (w : World) (g : Gh) (σ : Heap), Rep w g σ v p) (hi1 : ∀ (j i : Nat) r p, rows[j]? = some r → r[i]? = some p → j * st + i < rows.length * st) (hin : rows.length * st ≤ c.size) :
    ∃ g', Prog base w0 g σ w g' (σ ++ [.log ty st rows]) ∧ WExt w g σ w g' (σ ++ [.log ty st rows]) ∧ g'.loc σ.length = b ∧ g'.cap σ.length = cap := by
  have hi := hp.inv
  let new : Addr → Prop := fun a => a.block = b ∧ a.spot = none ∧ a.off < rows.length * st
  let g' : Gh := { prot := fun a => g.prot a ∨ new a, loc := fun i => if i = σ.length then b else g.loc i, cap := fun i => if i = σ.length then cap else g.cap i }
  have hold : ∀ id o', σ[id]? = some o' → id < σ.length ∧ (σ ++ [Obj.log ty st rows])[id]? = some o' ∧ g'.loc id = g.loc id ∧ g'.cap id = g.cap id := by
    intro id o' ho
    have hid := (List.getElem?_eq_some_iff.1 ho).1
    refine ⟨hid, by rw [List.getElem?_append_left hid]; exact ho, ?_, ?_⟩ <;> simp [g', Nat.ne_of_lt hid]
  have hx : WExt w g σ w g' (σ ++ [.log ty st rows]) := by
    refine ⟨fun a v hp hc => ⟨.inl hp, hc⟩, fun id ty st rows ho => ?_, fun id cells ho => ?_, fun id es ho => ?_⟩
    · obtain ⟨_, e1, e2, e3⟩ := hold id _ ho
      exact ⟨rows, e1, Nat.le_refl _, fun _ => ⟨e2, e3⟩⟩
    · obtain ⟨_, e1, e2, e3⟩ := hold id _ ho
      exact ⟨cells, e1, rfl, e2⟩
    · obtain ⟨_, e1, e2, e3⟩ := hold id _ ho
      exact ⟨es, e1, e2⟩
  refine ⟨g', ⟨⟨hi.size, fun a ha => ?_, fun id o' ho => ?_, fun i j h1 h2 he => ?_, hi.glob⟩, hp.ext.trans hx, hp.below, fun a ha hl => ?_, fun k hk hn => ?_⟩, hx, by simp [g'], by simp [g']⟩
  · rcases ha with ha | ⟨e1, e2, e3⟩
    · exact hi.prot a ha
    · obtain ⟨blk, off, sp⟩ := a
      simp only at e1 e2 e3
      subst e1 e2
      have hlt : off < c.size := by omega
      exact ⟨c[off], by simp [World.cell?, hblk, hlt]⟩
  · rcases Nat.lt_or_ge id σ.length with hid | hid
    · rw [List.getElem?_append_left hid] at ho
      obtain ⟨_, _, e2, e3⟩ := hold id _ ho
      have hk := hi.obj id o' ho
      refine hk.mono hx e2 e3 rfl fun a ha he => ?_
      rcases ha with ha | ha
      · exact ha
      · exact absurd (he.symm.trans ha.1) (hfree id hid)
    · have hid' : id = σ.length := by
        have := (List.getElem?_eq_some_iff.1 ho).1
        simp at this
        omega
      subst hid'
      have ho' : o' = .log ty st rows := by simpa using ho.symm
      subst ho'
      have hl : g'.loc σ.length = b := by simp [g']
      have hcp : g'.cap σ.length = cap := by simp [g']
      refine ⟨by rw [hl]; exact hb0, ⟨c, by rw [hl]; exact hblk, by rw [hcp]; exact hc, fun j i r p k1 k2 => ?_⟩, by rw [hcp]; exact hcap, by rw [hcp]; exact hmax, hst, hpure, fun a ha he => ?_⟩
      · obtain ⟨v, e1, e2⟩ := hrows j i r p k1 k2
        exact ⟨v, e1, e2 _ _ _, .inr ⟨by rw [hl], rfl, hi1 j i r p k1 k2⟩⟩
      · rw [hl] at he
        rcases ha with ha | ha
        · exact absurd ha (hbare a he)
        · exact ha.2.2
  · simp only [List.length_append, List.length_singleton] at h1 h2
    simp only [g'] at he
    split at he
    · split at he
      · omega
      · exact absurd he.symm (hfree j (by omega))
    · split at he
      · exact absurd he (hfree i (by omega))
      · exact hi.inj i j (by omega) (by omega) he
  · rcases ha with ha | ha
    · exact hp.old a ha hl
    · have := ha.1
      omega
  · obtain ⟨k1, k2, k3⟩ := hp.frame k hk hn
    refine ⟨k1, fun id hid => ?_, fun a ha hpa => ?_⟩
    · simp only [List.length_append, List.length_singleton] at hid
      simp only [g']
      split
      · omega
      · exact k2 id (by omega)
    · rcases hpa with hpa | hpa
      · exact k3 a ha hpa
      · have := hpa.1
        omega
/-- What sort.Strings does. -/
structure SortOK (P : Program) (fs : Nat) : Prop where
  is : FuncIn P fs
  some : ∀ (blk cap : Nat) (ss : List (List UInt8)) (w : World), Go.Sort.Holds Go.Proofs.encStr w blk 0 ss.toArray → blk < w.heap.size → ss.length < 4611686018427387904 →
    Calls P fs #[.slice (some ⟨blk, 0, none⟩) ss.length cap] w fun e w' => e = .returned (.tuple #[]) ∧ ∃ n os, w' = Go.Sort.grow (Go.Sort.putRow Go.Proofs.encStr (Go.Sort.ahead w n) blk 0 (ss.mergeSort leB).toArray) os
  none : ∀ w : World, Calls P fs #[.slice none 0 0] w fun e w' => e = .returned (.tuple #[]) ∧ w' = w
theorem keys_run {P : Program} {tk te ts tm fs : TypeId} {tp out n t bid b1 i8 i9 i10 i11 i12 : Nat} {o1 o2 o3 o4 o5 o6 o7 o8 o9 o10 o11 o12 o13 o14 : Oper}
    (h1 : Is o1 (.load tm (.tmp tp)) t) (h2 : Is o2 (.range tm (.tmp t)) (t + 1))
    (h3 : Is o3 (.next (.tmp (t + 1)) false) (t + 2)) (h4 : Is o4 (.extract (.tmp (t + 2)) 0) (t + 3)) (h5 : Is o5 (.entry (.tmp (t + 1))) (t + 4)) (h6 : Is o6 (.extract (.tmp (t + 4)) 0) (t + 5)) (h7 : Is o7 (.assign (.tmp (t + 5))) n)
    (h8 : Is o8 (.move (.tmp out)) (t + 6)) (h9 : Is o9 (.move (.tmp n)) (t + 7)) (h10 : Is o10 (.buildSlice ts 1 #[(0, .tmp (t + 7))]) (t + 8)) (h11 : Is o11 (.call { callee := .builtin .append, args := #[.tmp (t + 6), .tmp (t + 8)], argTypes := #[ts, ts] }) (t + 9)) (h12 : Is o12 (.assign (.tmp (t + 9))) out)
    (h13 : Is o13 (.move (.tmp out)) (t + 10)) (h14 : Is o14 (.call { callee := .value (.func fs), args := #[.tmp (t + 10)], argTypes := #[ts] }) (t + 11))
    (hon : out ≠ n) (hot : out < t) (hnt : n < t) (htp : tp < t) (hpo : tp ≠ out) (hpn : tp ≠ n)
    (hm : P.underlying tm = some (.map tk te)) {im : TypeInfo} (him : P.info? tm = some im) (hims : im.size = 1) (hk : P.underlying tk = some .string) (he : P.underlying te = some .bool) (hts : P.underlying ts = some (.slice tk)) {i0 : TypeInfo} (hi0 : P.info? tk = some i0) (hz : i0.zero = some (.string ⟨#[]⟩)) (hz1 : i0.size = 1) (hz2 : i0.bytes = 16) (K : Maps.Keyed P tk) (hS : SortOK P fs)
    {base : Nat} {w : World} {g : Gh} {σ : Heap} {a : Act} {e : Env} (hi : Inv base w g σ) (hs : Sim w g σ a e) {ib m : Nat} (hp : get e tp = .ptr ib 0) (hb : σ[ib]? = some (.box [.mp m])) {es : List (PV × PV)} {ks : List (List UInt8)} {vs : List Bool} (ho : σ[m]? = some (.map es)) (hes : es.map (·.1) = ks.map .str) (hvs : es.map (·.2) = vs.map .bool)
    (hn : ks.Nodup) (hlen : 16 * ks.length ≤ 140737488355328) (hstr : ∀ n ∈ ks, n.length ≤ maxLen) (hout : get e out = .nils) (htl : t + 11 < e.length)
    {Q : Exit → Act → World → Prop} {N : Act → World → Prop} {e' : Env} (he0 : e'.length = e.length) (he1 : get e' out = (keysV σ tk ks).1) (he2 : ∀ x, ¬ Touched out n t x → get e' x = get e x) (he3 : ∀ x, Touched out n t x → x ≠ out → get e' x = .top)
    (hN : ∀ a' w' g', a'.defers = a.defers → Prog base w g σ w' g' (keysV σ tk ks).2 → Sim w' g' (keysV σ tk ks).2 a' e' → N a' w') :
    (Code.seq (.region i8 #[o1, o2] false) (.block bid (.loop (keysBody t bid b1 i9 i10 i11 o3 o4 o5 o6 o7 o8 o9 o10 o11 o12)))).wp P (Exit.then ((Code.region i12 #[o13, o14] false).wp P (Exit.then N Q)) Q) a w := by
  have hsz : a.tmps.size = e.length := by have := hs.1; simpa using this
  have hlm : ks.length ≤ maxLen := by unfold maxLen; omega
  obtain ⟨D0, hown, hperm⟩ := map_owns hi ho hes hvs hn hlm hstr hk he
  have hlt := (hi.obj m _ ho).lt
  have hD : Maps.size D0 = ks.length := by
    obtain ⟨es', hD', _⟩ := hown.entries K
    have := hperm.length_eq
    rw [hD'] at this ⊢
    simpa [strKeys, Maps.size] using this
  refine wp_seq (wp_region_list ?_)
  -- the map is loaded
  obtain ⟨ad, us, k1, k2, k3⟩ := cellsAt_ok hi (ev_ok hs (x := .tmp tp) (px := .tmp tp) rfl) (cs := [.mp m]) (by
    show cellsAt σ (get e tp) = _
    rw [hp]
    simp [cellsAt, hb])
  obtain ⟨v1, e1, e2⟩ := loadVar_ok hi k2 k3 hm him (p := .mp m) (by simp [loadP, aggTy])
  have hrun : (Instr.loadAt tm (a.eval (.tmp tp))).run P w = .ok v1 w := by simp [Instr.loadAt, k1, Instr.sureAddr, e1]
  obtain ⟨es2, _, q2⟩ := e2.mp_inv
  refine wpl_val h1.guard h1.dst (v := v1) (w' := w) (by unfold execOp; simp only [h1.op]; simp [hrun]) ?_
  refine wpList_range_own w h2.guard (.tmp t) tm h2.op tk te K hm (plainElem P te) (g.loc m) ks.length D0 (by rw [eval_same (by omega)]; exact q2) hown fun w' hrg hg0 hs0 => ?_
  rw [h2.dst]
  refine wpList_nil ?_
  show Code.wp P (.block bid _) _ _ w'
  have hov : a.eval (.tmp out) = .slice none 0 0 := by
    have := ev_ok hs (x := .tmp out) (px := .tmp out) rfl
    have e3 : (Opd.tmp out).ev e = .nils := hout
    rw [e3] at this
    exact this.nils_inv
  refine wp_block (loop_of (keys_loop h3 h4 h5 h6 h7 h8 h9 h10 h11 h12 hon hot hnt hk he hts hi0 hz hz1 hz2 K (tm := tm) (w0 := w) (a0 := a) (b := g.loc m) (r := w.heap.size) (N := ks.length) (D0 := D0) hlt (Nat.le_refl _) (by omega) (by omega) (by omega) ?_ (Maps.size D0) (Maps.has D0) [] (.slice none 0 0) _ w'
    ⟨hrg, by simp, ⟨by simp, .inl ⟨rfl, rfl⟩⟩, Collected.start D0, (Below.refl _ _).grown hg0 (Nat.le_refl _) (fun j hj => by cases hj), ?_, ?_, rfl, ?_, fun x hx => ?_, fun _ => rfl⟩))
  rotate_left
  · simp (disch := first | omega | (simp only [put_size]; omega)) only [eval_same]
  · simp (disch := first | omega | (simp only [put_size]; omega)) only [eval_other]
    exact hov
  · simp only [put_size]
  · unfold Touched at hx
    simp (disch := first | omega | (simp only [put_size]; omega)) only [put_at]
  -- behind the loop
  intro ss v a2 w2 left R hl0
  have hp2 : ss.Perm ks := (R.coll.perm hown K hk hl0).trans hperm
  have hso : ss.mergeSort leB = ks.mergeSort leB := mergeSort_of_perm hp2
  have hll := hp2.length_eq
  have hs2 := R.size
  simp only [Exit.inBlock, if_true]
  show Code.wp P (.region i12 _ false) _ a2 w2
  refine wp_region_list ?_
  refine wpl_val h13.guard h13.dst (v := v) (w' := w2) (by unfold execOp; simp only [h13.op, R.outv]; simp) ?_
  refine wpList_plain h14.guard fun K' hK' => ?_
  unfold Oper.wp
  rw [run_call h14.op rfl (f := fs) (us := #[]) rfl hS.is]
  have harg : (#[Operand.tmp (t + 10)].map (a2.put (some (t + 10)) v).eval ++ #[]) = #[v] := by
    simp [eval_same (show t + 10 < a2.tmps.size by omega)]
  have hgrow : ∀ w3 : World, Below w.heap.size w w3 → Prog base w g σ w3 { g with prot := g.prot } σ := fun w3 hb3 => hi.grow hb3 (fun a h => h) (fun a h _ => h) fun a h => by
    obtain ⟨v, hv⟩ := hi.prot a h
    exact ⟨v, by rw [hb3.cell (block_lt hv)]; exact hv⟩
  have hsim : ∀ (w3 : World) (g3 : Gh) (σ3 : Heap), WExt w g σ w3 g3 σ3 → Rep w3 g3 σ3 v (get e' out) → Sim w3 g3 σ3 ((a2.put (some (t + 10)) v).put (some (t + 11)) (.tuple #[])) e' := by
    intro w3 g3 σ3 hx hr
    refine ⟨?_, fun x u p hu hp' => ?_⟩
    · rw [Array.length_toList, put_size, put_size, R.size, he0]
      exact hsz
    · rw [Array.getElem?_toList] at hu
      have hp'' : get e' x = p := by unfold get; rw [hp']; rfl
      by_cases hT : Touched out n t x
      · by_cases hxo : x = out
        · subst hxo
          rw [put_at (by omega), put_at (by omega)] at hu
          have : u = v := by
            have h := R.outv
            simp only [Act.eval, Array.getD_eq_getD_getElem?, hu] at h
            exact h
          rw [this, ← hp'']
          exact hr
        · rw [he3 x hT hxo] at hp''
          rw [← hp'']
          exact .top _
      · have hne : x ≠ t + 10 ∧ x ≠ t + 11 := by unfold Touched at hT; omega
        rw [put_at hne.2, put_at hne.1, R.same x hT] at hu
        rw [he2 x hT] at hp''
        have hxl : x < e.length := by rw [← he0]; exact (List.getElem?_eq_some_iff.1 hp').1
        have hpe : e[x]? = some p := by
          rw [List.getElem?_eq_getElem hxl]
          unfold get at hp''
          rw [List.getElem?_eq_getElem hxl] at hp''
          simpa using hp''
        exact (hs.2 x u p (by rw [Array.getElem?_toList]; exact hu) hpe).mono hx
  rcases R.row.2 with ⟨hnil, hz0⟩ | ⟨gb, cap, cur, hv, hbase, hblk, c1, c2, c3, c4⟩
  · -- nothing was collected
    have hks : ks = [] := List.eq_nil_of_length_eq_zero (by omega)
    have hkv : keysV σ tk ks = (.nils, σ) := by unfold keysV; rw [if_pos hks]
    rw [hkv] at hN he1
    rw [harg, hnil]
    refine (hS.none w2).mono fun e3 w3 ⟨e31, e32⟩ => ?_
    subst e31
    subst e32
    refine hK' _ _ (wpList_nil ?_)
    rw [h14.dst, ← hnil]
    have hp3 := hgrow w3 R.below
    exact hN _ w3 _ R.defers hp3 (hsim w3 _ σ hp3.ext (by rw [he1, hnil]; exact .nils))
  · have hne : ss ≠ [] := fun h => by
      have := R.nil h
      rw [hv] at this
      cases this
    have hks : ks ≠ [] := fun h => hne (List.eq_nil_of_length_eq_zero (by rw [hll, h]; rfl))
    have hkv : keysV σ tk ks = (.own σ.length 1 ks.length, σ ++ [.log tk 1 (strRows (ks.mergeSort leB))]) := by unfold keysV; rw [if_neg hks]
    rw [hkv] at hN he1
    have hH := holds_of_block hblk (by simpa using c4)
    rw [harg, hv]
    refine (hS.some gb cap ss w2 hH (Array.getElem?_eq_some_iff.1 hblk).1 (by omega)).mono fun e3 w3 ⟨e31, nn, os, e32⟩ => ?_
    subst e31
    rw [hso] at e32
    refine hK' _ _ (wpList_nil ?_)
    rw [h14.dst, ← hv]
    have hsl : (ks.mergeSort leB).length = ks.length := List.length_mergeSort ks
    have hcs : cur.size = cap := by omega
    have hb3 : Below w.heap.size w w3 := by
      rw [e32]
      exact R.below.grown (grownBy_sorted _) R.below.size (fun j hj => by cases hj; exact hbase)
    have hblk3 := heap_sorted (n := nn) (os := os) (ks.mergeSort leB).toArray hblk
    rw [← e32] at hblk3
    have hcell : ∀ (j : Nat) s, (ks.mergeSort leB)[j]? = some s → (Go.Sort.putCells Go.Proofs.encStr 0 (ks.mergeSort leB).toArray cur)[j]? = some (Go.Proofs.encStr s) := by
      intro j s hj
      have hlt := (List.getElem?_eq_some_iff.1 hj).1
      have h := take_putCells cur (ks.mergeSort leB) (by omega)
      have h2 := congrArg (fun l => l[j]?) h
      simp only [List.getElem?_take_of_lt hlt, Array.getElem?_toList, List.getElem?_map, hj, Option.map_some] at h2
      exact h2
    obtain ⟨g3, p1, p2, p3, p4⟩ := adoptLog (hgrow w3 hb3) (b := gb) (cap := cap) (st := 1) (ty := tk) (rows := strRows (ks.mergeSort leB)) (by have := hi.size; omega) hbase hblk3 (by simp [Go.Sort.putCells, hcs])
      (fun i hi' => by have := (hi.obj i _ (List.getElem?_eq_getElem hi')).lt; show g.loc i ≠ gb; omega)
      (fun a ha hpa => by
        obtain ⟨v, hv⟩ := hi.prot a hpa
        have := block_lt hv
        omega)
      (by simp [strRows, hsl]; omega) c2 (fun r hr => by simp only [strRows, List.mem_map] at hr; obtain ⟨s, _, rfl⟩ := hr; rfl)
      (pureLL_of fun r hr => by simp only [strRows, List.mem_map] at hr; obtain ⟨s, _, rfl⟩ := hr; rfl)
      (fun j i r p h1 h2 => by
        simp only [strRows, List.getElem?_map, Option.map_eq_some_iff] at h1
        obtain ⟨s, h1, rfl⟩ := h1
        have hi0 : i = 0 := by have := (List.getElem?_eq_some_iff.1 h2).1; simpa using this
        subst hi0
        simp only [List.getElem?_cons_zero, Option.some.injEq] at h2
        subst h2
        exact ⟨Go.Proofs.encStr s, by rw [Nat.mul_one, Nat.add_zero]; exact hcell j s h1, fun w g σ => .str _ _ (by simp)⟩)
      (fun j i r p h1 h2 => by
        have hj := (List.getElem?_eq_some_iff.1 h1).1
        simp only [strRows, List.getElem?_map, Option.map_eq_some_iff] at h1
        obtain ⟨s, h1, rfl⟩ := h1
        have := (List.getElem?_eq_some_iff.1 h2).1
        simp at this
        omega)
      (by simp [strRows, hsl, Go.Sort.putCells]; omega)
    have hg3 : w3.heap = w3.heap := rfl
    refine hN _ w3 g3 R.defers p1 (hsim w3 g3 _ ((hgrow w3 hb3).ext.trans p2) ?_)
    rw [he1, hv]
    refine .own _ _ _ _ ⟨⟨_, _, by rw [hll]⟩, ?_⟩
    simp only [List.getElem?_concat_length]
    intro _
    exact ⟨by simp [strRows, hsl], fun _ => by rw [p3, p4, hll]⟩
end Go.PE
