/- A region whose order is drawn and that makes several slices. -/
import Derived.Test.YtkpbfldnickghaaDoorPEk
set_option linter.unusedVariables false
set_option linter.unusedSimpArgs false
set_option linter.unusedSectionVars false
namespace Go.PE
variable [Globs]
open Go.RowKit (Below)
section
variable {P : Program} {C : Funcs} {H : Handler}

theorem isMk_inv {p : POp} (h : p.isMk = true) : ∃ ty st by_ zs t, p = .mkslice ty st by_ zs (.tmp t) (.tmp t) := by
  cases p <;> first | (simp [POp.isMk] at h; done) | skip
  case mkslice ty st by_ zs l c =>
    cases l <;> first | (simp [POp.isMk] at h; done) | skip
    cases c <;> first | (simp [POp.isMk] at h; done) | skip
    simp only [POp.isMk, beq_iff_eq] at h
    subst h
    exact ⟨_, _, _, _, _, rfl⟩
/-- What the making of a slice answers. -/
theorem mk_ev {e : Env} {σ : Heap} {ty st by_ : Nat} {zs : List PV} {t : Nat} {v : PV} {σ' : Heap} (h : evOp C H e σ (.mkslice ty st by_ zs (.tmp t) (.tmp t)) = some (v, σ')) :
    ∃ n : Int, get e t = .int .i64 n ∧ 0 ≤ n ∧ n * by_ ≤ 140737488355328 ∧ v = .own σ.length st n.toNat ∧ σ' = σ ++ [.box (List.replicate n.toNat zs).flatten] := by
  simp only [evOp, evPrim, Opd.ev] at h
  split at h
  · rename_i n m e1 e2
    rw [e1] at e2
    cases e2
    split at h
    · rename_i hc
      cases h
      exact ⟨n, e1, hc.1, hc.2.2, rfl, rfl⟩
    · rename_i hc
      split at h
      · rename_i hd
        exfalso
        refine hc ⟨by omega, rfl, ?_⟩
        rw [hd.1]; simp
      · cases h
  · cases h
/-- What the machine does. -/
theorem mk_run {w : World} {g : Gh} {σ : Heap} {a : Act} {e : Env} {o : Oper} (hs : Sim w g σ a e) {ty st by_ : Nat} {zs : List PV} {t : Nat} (hc : compOp P o = some (.mkslice ty st by_ zs (.tmp t) (.tmp t))) {n : Int} (hn : get e t = .int .i64 n) (h0 : 0 ≤ n) (hb : n * by_ ≤ 140737488355328) :
    ∃ c, (execOp a.eval o).run P w = .ok (.value (.slice (some ⟨w.heap.size, 0, none⟩) n.toNat n.toNat)) (w.alloc (.cells c ty)) ∧ ∀ (w : World) (g : Gh) (σ : Heap), RepL w g σ c.toList (List.replicate n.toNat zs).flatten := by
  unfold compOp at hc
  split at hc
  case h_16 t' l c ho =>
    split at hc
    · rename_i el h1
      split at hc
      · rename_i i pl pc h2 h3 h4
        split at hc
        · rename_i z h5
          split at hc
          · rename_i zs' h6
            split at hc
            · rename_i h7
              simp only [Option.some.injEq, POp.mkslice.injEq] at hc
              obtain ⟨rfl, rfl, rfl, rfl, rfl, rfl⟩ := hc
              have hrl := ev_ok hs h3
              have hrc := ev_ok hs h4
              simp only [Opd.ev, hn] at hrl hrc
              have hzr := fun w g σ => pvConsts_rep (w := w) (g := g) (σ := σ) h6
              have hzsz : z.cells.size = i.size := by have := (hzr w g σ).1; simp only [Array.length_toList] at this; omega
              have small : n ≤ 140737488355328 := by
                have := Int.mul_le_mul_of_nonneg_left (show (1 : Int) ≤ i.bytes by omega) h0
                omega
              have hrun := run_make (P := P) w t' el i z h1 h2 h5 .i64 .i64 n n h0 (Int.le_refl _) (by rw [Int.mul_comm]; omega) (by omega)
              refine ⟨madeCells z.cells (n.toNat * i.size), ?_, fun w g σ => ?_⟩
              · unfold execOp
                simp only [ho, hrl.int_inv, hrc.int_inv, Sem.run_bind, hrun, Result.andThen_ok, Sem.run_pure]
              · have := made_flat z.cells n.toNat (by omega)
                rw [hzsz] at this
                unfold madeCells
                rw [hzsz, this]
                exact rep_flat (hzr w g σ) _
            · cases hc
          · cases hc
        · cases hc
      · cases hc
    · cases hc
  all_goals
    exfalso
    revert hc
    repeat' split
    all_goals first
      | (intro h; cases h; done)
      | (simp; done)
      | skip

theorem mov_run {w : World} {a : Act} {o : Oper} {t : Nat} (hc : compOp P o = some (.mov (.tmp t))) : (execOp a.eval o).run P w = .ok (.value (a.tmps.getD t undef)) w := by
  have key : ∀ x : Operand, cOpd x = some (.tmp t) → a.eval x = a.tmps.getD t undef := fun x h => by
    cases x <;> simp [cOpd] at h
    · rw [h]; rfl
  unfold compOp at hc
  split at hc
  case h_1 x ho =>
    simp only [Option.map_eq_some_iff, POp.mov.injEq] at hc
    obtain ⟨px, hx, rfl⟩ := hc
    unfold execOp
    simp only [ho, key x hx, Sem.run_pure]
  case h_2 x ho =>
    simp only [Option.map_eq_some_iff, POp.mov.injEq] at hc
    obtain ⟨px, hx, rfl⟩ := hc
    unfold execOp
    simp only [ho, key x hx, Sem.run_pure]
  all_goals
    exfalso
    revert hc
    repeat' split
    all_goals first
      | (intro h; cases h; done)
      | (simp; done)
      | skip
theorem getD_same' {l : Array Bool} {i : Nat} (h : i < l.size) (d d' : Bool) : l.getD i d = l.getD i d' := getD_same h d d'
/-- The heaps of the text's order: what comes to them. -/
theorem al_trace {pl : List PO} {E : Nat → Env} {S : Nat → Heap} {V : Nat → PV} (ht : Trace C H pl E S V) (hk : ∀ (k : Nat) po, pl[k]? = some po → (po.op.isMk = true ∧ po.guard = none) ∨ po.op.quiet = true) :
    ∀ (k : Nat), k ≤ pl.length → ∃ l, S k = S 0 ++ l ∧ ∀ id, (S 0).length ≤ id → id < (S k).length → ∃ (k' : Nat) (po : PO) (cells : List PV), k' < k ∧ pl[k']? = some po ∧ po.op.isMk = true ∧ (S k').length = id ∧ (S k)[id]? = some (.box cells)
  | 0, _ => ⟨[], by simp, fun id h1 h2 => by omega⟩
  | k + 1, hkl => by
    obtain ⟨l, h1, h2⟩ := al_trace ht hk k (by omega)
    have hx : pl[k]? = some pl[k] := List.getElem?_eq_getElem (by omega)
    rcases hk k _ hx with ⟨hm, hg⟩ | hq
    · rcases (ht.step k _ hx).2 with ⟨_, h⟩ | ⟨h, _⟩
      · obtain ⟨ty, st, by_, zs, t, hop⟩ := isMk_inv hm
        rw [hop] at h
        obtain ⟨n, _, _, _, _, hs⟩ := mk_ev h
        refine ⟨l ++ [.box (List.replicate n.toNat zs).flatten], by rw [hs, h1, List.append_assoc], fun id k1 k2 => ?_⟩
        rw [hs, List.length_append, List.length_singleton] at k2
        by_cases hid : id < (S k).length
        · obtain ⟨k', po, cells, e1, e2, e3, e4, e5⟩ := h2 id k1 hid
          exact ⟨k', po, cells, by omega, e2, e3, e4, by rw [hs, List.getElem?_append_left hid]; exact e5⟩
        · have : id = (S k).length := by omega
          subst this
          exact ⟨k, _, _, by omega, hx, hm, rfl, by rw [hs, List.getElem?_concat_length]⟩
      · rw [hg] at h; cases h
    · have : S (k + 1) = S k := by
        rcases (ht.step k _ hx).2 with ⟨_, h⟩ | ⟨_, _, h⟩
        · exact quiet_same hq h
        · exact h
      rw [this]
      refine ⟨l, h1, fun id k1 k2 => ?_⟩
      obtain ⟨k', po, cells, e1, e2, e3, e4, e5⟩ := h2 id k1 k2
      exact ⟨k', po, cells, by omega, e2, e3, e4, e5⟩
theorem al_len {pl : List PO} {E : Nat → Env} {S : Nat → Heap} {V : Nat → PV} (ht : Trace C H pl E S V) (hk : ∀ (k : Nat) po, pl[k]? = some po → (po.op.isMk = true ∧ po.guard = none) ∨ po.op.quiet = true) {k : Nat} {po : PO} (hx : pl[k]? = some po) (hm : po.op.isMk = true) : ∀ (d : Nat), k + 1 + d ≤ pl.length → (S k).length < (S (k + 1 + d)).length
  | 0, _ => by
    rcases hk k _ hx with ⟨_, hg⟩ | hq
    · rcases (ht.step k _ hx).2 with ⟨_, h⟩ | ⟨h, _⟩
      · obtain ⟨ty, st, by_, zs, t, hop⟩ := isMk_inv hm
        rw [hop] at h
        obtain ⟨n, _, _, _, _, hs⟩ := mk_ev h
        rw [Nat.add_zero, hs]
        simp
      · rw [hg] at h; cases h
    · obtain ⟨ty, st, by_, zs, t, hop⟩ := isMk_inv hm
      rw [hop] at hq
      cases hq
  | d + 1, hd => by
    have ih := al_len ht hk hx hm d (by omega)
    have hx' : pl[k + 1 + d]? = some pl[k + 1 + d] := List.getElem?_eq_getElem (by omega)
    have : (S (k + 1 + d)).length ≤ (S (k + 1 + d + 1)).length := by
      rcases (ht.step _ _ hx').2 with ⟨_, h⟩ | ⟨_, _, h⟩
      · rcases hk _ _ hx' with ⟨hm', _⟩ | hq
        · obtain ⟨ty, st, by_, zs, t, hop⟩ := isMk_inv hm'
          rw [hop] at h
          obtain ⟨n, _, _, _, _, hs⟩ := mk_ev h
          rw [hs]
          simp
        · rw [quiet_same hq h]; exact Nat.le_refl _
      · rw [h]; exact Nat.le_refl _
    show (S k).length < (S (k + 1 + d + 1)).length
    omega

/-- What is known of a slice that has been made and that the abstract heap doesn't have yet. -/
structure Made (base N : Nat) (w : World) (g : Gh) (σ0 : Heap) (F : Heap) (b id : Nat) : Prop where
  base : base ≤ b
  new : N ≤ b
  lt : b < w.heap.size
  free : ∀ i, i < σ0.length → g.loc i ≠ b
  bare : ∀ a : Addr, a.block = b → ¬ g.prot a
  cells : ∃ c t cells, F[id]? = some (.box cells) ∧ w.heap[b]? = some (.cells c t (0, 0)) ∧ ∀ (w : World) (g : Gh) (σ : Heap), RepL w g σ c.toList cells
theorem Made.mono {base N : Nat} {w w' : World} {g g' : Gh} {σ0 F : Heap} {b id : Nat} (h : Made base N w g σ0 F b id) (hp : Prog base w g σ0 w' g' σ0) : Made base N w' g' σ0 F b id := by
  obtain ⟨k1, k2, k3⟩ := hp.frame b h.lt h.free
  obtain ⟨c, t, cells, c1, c2, c3⟩ := h.cells
  exact ⟨h.base, h.new, Nat.lt_of_lt_of_le h.lt hp.below.size, k2, fun a ha hpr => h.bare a ha (k3 a ha hpr), c, t, cells, c1, by rw [k1]; exact c2, c3⟩
/-- A value that is such a slice, or one of the abstract heap's. -/
def RepT (pl : List PO) (S : Nat → Heap) (listed : Array Bool) (L : Nat → Nat) (w : World) (g : Gh) (σ0 : Heap) (v : Value) (p : PV) : Prop :=
  Rep w g σ0 v p ∨ ∃ (k : Nat) (po : PO) (n st : Nat), pl[k]? = some po ∧ po.op.isMk = true ∧ listed.getD k false = true ∧ p = .own (S k).length st n ∧ v = .slice (some ⟨L (S k).length, 0, none⟩) n n
structure MidA (base : Nat) (ops : Array Oper) (pl : List PO) (S : Nat → Heap) (V : Nat → PV) (e : Env) (T : List Nat) (w0 : World) (g0 : Gh) (σ0 : Heap) (a0 : Act) (listed : Array Bool) (L : Nat → Nat) (a : Act) (w : World) (g : Gh) : Prop where
  size : listed.size = ops.size
  closed : ∀ (j : Nat) o, ops[j]? = some o → listed.getD j false = true → ∀ ed ∈ o.after, Region.binds .any ed = true → listed.getD ed.on false = true
  defers : a.defers = a0.defers
  prog : Prog base w0 g0 σ0 w g σ0
  tsize : a.tmps.size = e.length
  tmp : ∀ (t : Nat) v, a.tmps[t]? = some v → T.contains t = false → Rep w g σ0 v (curV pl V e (fun i => listed.getD i false) t)
  tmpT : ∀ (t : Nat) v, a.tmps[t]? = some v → RepT pl S listed L w g σ0 v (curV pl V e (fun i => listed.getD i false) t)
  made : ∀ (k : Nat) po, pl[k]? = some po → po.op.isMk = true → listed.getD k false = true → Made base w0.heap.size w g σ0 (S pl.length) (L (S k).length) (S k).length
  inj : ∀ (k k' : Nat) po po', pl[k]? = some po → pl[k']? = some po' → po.op.isMk = true → po'.op.isMk = true → listed.getD k false = true → listed.getD k' false = true → L (S k).length = L (S k').length → k = k'

/-- The slices become objects. -/
theorem adopt {base : Nat} {w0 w : World} {g0 g : Gh} {σ0 F : Heap} {L : Nat → Nat} (hp : Prog base w0 g0 σ0 w g σ0) {l : Heap} (hF : F = σ0 ++ l) (hm : ∀ id, σ0.length ≤ id → id < F.length → Made base w0.heap.size w g σ0 F (L id) id) (hL : ∀ i j, σ0.length ≤ i → i < F.length → σ0.length ≤ j → j < F.length → L i = L j → i = j) :
    ∃ g', Prog base w0 g0 σ0 w g' F ∧ WExt w g σ0 w g' F ∧ (∀ id, σ0.length ≤ id → g'.loc id = L id) := by
  have hi := hp.inv
  let g' : Gh := { g with loc := fun id => if id < σ0.length then g.loc id else L id }
  have hlen : σ0.length ≤ F.length := by rw [hF]; simp
  have hget : ∀ id o, σ0[id]? = some o → F[id]? = some o ∧ g'.loc id = g.loc id := fun id o ho => by
    have := (List.getElem?_eq_some_iff.1 ho).1
    exact ⟨by rw [hF, List.getElem?_append_left this]; exact ho, by simp [g', this]⟩
  have hx : WExt w g σ0 w g' F := by
    refine ⟨fun a v h1 h2 => ⟨h1, h2⟩, fun id ty st rows ho => ?_, fun id cells ho => ?_, fun id es ho => ?_⟩
    · obtain ⟨h1, h2⟩ := hget id _ ho
      exact ⟨rows, h1, Nat.le_refl _, fun _ => ⟨h2, rfl⟩⟩
    · obtain ⟨h1, h2⟩ := hget id _ ho
      exact ⟨cells, h1, rfl, h2⟩
    · obtain ⟨h1, h2⟩ := hget id _ ho
      exact ⟨es, h1, h2⟩
  refine ⟨g', ⟨⟨hi.size, hi.prot, fun id o ho => ?_, fun i j h1 h2 he => ?_, hi.glob⟩, hp.ext.trans hx, hp.below, hp.old, fun b hb hn => ?_⟩, hx, fun id hid => ?_⟩
  · have hlt := (List.getElem?_eq_some_iff.1 ho).1
    by_cases hid : id < σ0.length
    · rw [hF, List.getElem?_append_left hid] at ho
      have hk := hi.obj id o ho
      exact hk.mono hx (hget id o ho).2 rfl rfl fun _ h _ => h
    · have hM := hm id (by omega) hlt
      obtain ⟨c, t, cells, c1, c2, c3⟩ := hM.cells
      rw [c1] at ho
      cases ho
      have hloc : g'.loc id = L id := by simp [g', hid]
      exact ⟨by rw [hloc]; exact hM.base, ⟨c, t, by rw [hloc]; exact c2, c3 _ _ _⟩, fun a ha hb => hM.bare a (by rw [hb, hloc]) ha⟩
  · simp only [g'] at he
    split at he
    · rename_i hi'
      split at he
      · rename_i hj'
        exact hi.inj i j hi' hj' he
      · exact absurd he ((hm j (by omega) h2).free i hi')
    · split at he
      · rename_i hj'
        exact absurd he.symm ((hm i (by omega) h1).free j hj')
      · exact hL i j (by omega) h1 (by omega) h2 he
  · obtain ⟨k1, k2, k3⟩ := hp.frame b hb hn
    refine ⟨k1, fun id hid => ?_, k3⟩
    simp only [g']
    split
    · rename_i h; exact k2 id h
    · have := (hm id (by omega) hid).new
      omega
  · simp only [g']
    rw [if_neg (by omega)]

theorem al_any (SH : SoundH P C H) {ops : Array Oper} {pl : List PO} {E : Nat → Env} {S : Nat → Heap} {V : Nat → PV} (ht : Trace C H pl E S V) {e : Env} (hE0 : E 0 = e) {T : List Nat} (hlen : ops.size = pl.length) (hI : ∀ (i : Nat) o po, ops[i]? = some o → pl[i]? = some po → CompI P ops o po)
    (hback : ∀ (j : Nat) o, ops[j]? = some o → ∀ ed ∈ o.after, Region.binds .any ed = true → ed.on < j) (hpair : ∀ (i j : Nat) x y, i < j → pl[i]? = some x → pl[j]? = some y → x.apartD y = true ∨ Anc ops j i)
    (hkind : ∀ (i : Nat) x, pl[i]? = some x → x.kindA T = true ∨ x.kindB T = true ∨ x.kindC T = true)
    {base : Nat} {w0 : World} {g0 : Gh} {a0 : Act} {Q : Exit → Act → World → Prop} (hQ : Ends base w0 g0 (S 0) a0.defers .norm (E pl.length) (S pl.length) Q) :
    ∀ (fuel : Nat) (listed : Array Bool) (L : Nat → Nat) (a : Act) (w : World) (g : Gh), (List.range ops.size).countP (fun i => !listed.getD i true) = fuel → MidA base ops pl S V e T w0 g0 (S 0) a0 listed L a w g → wpAny P .any ops Q fuel listed a w := by
  have hq : ∀ (k : Nat) po, pl[k]? = some po → (po.op.isMk = true ∧ po.guard = none) ∨ po.op.quiet = true := fun k po hx => by
    rcases hkind k po hx with h | h | h
    · simp only [PO.kindA, Bool.and_eq_true] at h
      exact .inl ⟨h.1.1.1, by simpa using h.1.1.2⟩
    · right
      unfold PO.kindB at h
      split at h
      · rename_i hop _ _; rw [hop]; rfl
      · cases h
    · simp only [PO.kindC, Bool.and_eq_true] at h
      exact .inr h.1.1.1
  have mkq : ∀ {po : PO}, po.op.isMk = true → po.op.quiet = false := fun h => by
    obtain ⟨_, _, _, _, _, hop⟩ := isMk_inv h
    rw [hop]; rfl
  obtain ⟨lF, hF1, hF2⟩ := al_trace ht hq pl.length (Nat.le_refl _)
  have hpre : ∀ k, k ≤ pl.length → (S 0).length ≤ (S k).length := fun k hk => by
    obtain ⟨l, h, _⟩ := al_trace ht hq k hk
    rw [h]; simp
  have hlt : ∀ (k : Nat) po, pl[k]? = some po → po.op.isMk = true → (S k).length < (S pl.length).length := fun k po hx hm => by
    have hk := (List.getElem?_eq_some_iff.1 hx).1
    have := al_len ht hq hx hm (pl.length - (k + 1)) (by omega)
    rwa [show k + 1 + (pl.length - (k + 1)) = pl.length by omega] at this
  have hdist : ∀ (k k' : Nat) po po', pl[k]? = some po → pl[k']? = some po' → po.op.isMk = true → po'.op.isMk = true → (S k).length = (S k').length → k = k' := fun k k' po po' hx hx' hm hm' he => by
    have hk := (List.getElem?_eq_some_iff.1 hx).1
    have hk' := (List.getElem?_eq_some_iff.1 hx').1
    rcases Nat.lt_trichotomy k k' with h | h | h
    · have := al_len ht hq hx hm (k' - (k + 1)) (by omega)
      rw [show k + 1 + (k' - (k + 1)) = k' by omega] at this
      omega
    · exact h
    · have := al_len ht hq hx' hm' (k - (k' + 1)) (by omega)
      rw [show k' + 1 + (k - (k' + 1)) = k by omega] at this
      omega
  -- all listed: done
  have done_ : ∀ (listed : Array Bool) (L : Nat → Nat) (a : Act) (w : World) (g : Gh), (∀ i, i < ops.size → listed.getD i false = true) → MidA base ops pl S V e T w0 g0 (S 0) a0 listed L a w g → Q .normal a w := by
    intro listed L a w g hall M
    obtain ⟨k1, k2⟩ := trace_get ht hE0 pl.length (Nat.le_refl _)
    have hmk : ∀ id, (S 0).length ≤ id → id < (S pl.length).length → ∃ (k : Nat) (po : PO), pl[k]? = some po ∧ po.op.isMk = true ∧ (S k).length = id := fun id h1 h2 => by
      obtain ⟨k, po, _, _, e1, e2, e3, _⟩ := hF2 id h1 h2
      exact ⟨k, po, e1, e2, e3⟩
    have hal : ∀ (k : Nat) po, pl[k]? = some po → listed.getD k false = true := fun k po hx => hall k (by have := (List.getElem?_eq_some_iff.1 hx).1; omega)
    obtain ⟨g', hp, hx, hloc⟩ := adopt (L := L) M.prog hF1 (fun id h1 h2 => by
      obtain ⟨k, po, e1, e2, rfl⟩ := hmk id h1 h2
      exact M.made k po e1 e2 (hal k po e1)) (fun i j h1 h2 h3 h4 he => by
      obtain ⟨k, po, e1, e2, rfl⟩ := hmk i h1 h2
      obtain ⟨k', po', e1', e2', rfl⟩ := hmk j h3 h4
      rw [M.inj k k' po po' e1 e1' e2 e2' (hal k po e1) (hal k' po' e1') he])
    refine hQ a w g' M.defers hp ⟨by simp [M.tsize, k1], fun t v p hv hpt => ?_⟩
    have hlt' : t < e.length := by rw [← k1]; exact (List.getElem?_eq_some_iff.1 hpt).1
    have := M.tmpT t v (by simpa using hv)
    have hp' : p = get (E pl.length) t := by simp [get, hpt]
    rw [hp', show get (E pl.length) t = curV pl V e (fun _ => true) t from k2 t hlt']
    have hcur : curV pl V e (fun i => listed.getD i false) t = curV pl V e (fun _ => true) t := by
      unfold curV
      rw [lastw_congr (f' := fun _ => true) pl.length t fun i hi _ => hall i (by omega)]
    rw [hcur] at this
    rcases this with h | ⟨k, po, n, st, e1, e2, _, e4, e5⟩
    · exact h.mono hx
    · rw [e4]
      have h1 := hpre k (by have := (List.getElem?_eq_some_iff.1 e1).1; omega)
      obtain ⟨_, _, cells, _, _, _, _, hc⟩ := hF2 _ h1 (hlt k po e1 e2)
      refine .own _ _ _ _ ⟨⟨_, _, e5⟩, ?_⟩
      rw [hc]
      intro _
      rw [e5, hloc _ h1]
  have small : ∀ (listed : Array Bool), listed.size = ops.size → Region.ready .any ops listed = [] → ∀ i, i < ops.size → listed.getD i false = true := by
    intro listed hsz hr i
    induction i using Nat.strongRecOn with
    | _ i ih =>
      intro hi
      cases hli : listed.getD i false with
      | true => rfl
      | false =>
        exfalso
        have : i ∈ Region.ready .any ops listed := mem_ready.2 ⟨by rw [getD_same (by omega) true false]; exact hli, ops[i], Array.getElem?_eq_getElem hi, fun ed hed hb => by
          have := hback i _ (Array.getElem?_eq_getElem hi) ed hed hb
          exact ih ed.on this (by omega)⟩
        rw [hr] at this
        cases this
  intro fuel
  induction fuel with
  | zero =>
    intro listed L a w g hcnt M
    have hall : ∀ i, i < ops.size → listed.getD i false = true := fun i hi => by
      rw [List.countP_eq_zero] at hcnt
      have := hcnt i (List.mem_range.2 hi)
      rw [getD_same (by rw [M.size]; exact hi) false true]
      simpa using this
    refine ⟨?_, done_ listed L a w g hall M⟩
    rw [List.eq_nil_iff_forall_not_mem]
    intro j hj
    obtain ⟨h1, o, ho, _⟩ := mem_ready.1 hj
    have hlt := (Array.getElem?_eq_some_iff.1 ho).1
    rw [getD_same (by rw [M.size]; exact hlt) true false, hall j hlt] at h1
    cases h1
  | succ fuel ih =>
    intro listed L a w g hcnt M
    refine ⟨fun hr => done_ listed L a w g (small listed M.size hr) M, fun j hj => ?_⟩
    obtain ⟨hun, o, ho, hed⟩ := mem_ready.1 hj
    have hjlt := (Array.getElem?_eq_some_iff.1 ho).1
    have hun' : listed.getD j false = false := by rw [getD_same (by rw [M.size]; exact hjlt) false true]; exact hun
    have hpo : pl[j]? = some (pl[j]'(by omega)) := List.getElem?_eq_getElem (by omega)
    generalize hpodef : pl[j]'(by omega) = po at hpo
    have hIj := hI j o po ho hpo
    have up : ∀ i, Anc ops j i → listed.getD i false = true := fun i hA => by
      cases hA with
      | edge _ o' ed h1 h2 h3 => rw [ho] at h1; cases h1; exact hed ed h2 h3
      | far _ _ o' ed h1 h2 h3 h4 => rw [ho] at h1; cases h1; exact anc_listed M.closed h4 (hed ed h2 h3)
    have down : ∀ i, Anc ops i j → listed.getD i false = false := fun i hA => by
      cases hli : listed.getD i false with
      | false => rfl
      | true => rw [anc_listed M.closed hA hli] at hun'; cases hun'
    have near : ∀ (i : Nat) x, pl[i]? = some x → i ≠ j → (i < j → x.apartD po = false) → (j < i → po.apartD x = false) → (listed.getD i false = true ↔ i < j) := by
      intro i x hx hne h1 h2
      constructor
      · intro hl
        rcases Nat.lt_or_ge i j with h | h
        · exact h
        · exfalso
          have hji : j < i := by omega
          rcases hpair j i po x hji hpo hx with h | h
          · rw [h2 hji] at h; cases h
          · rw [down i h] at hl; cases hl
      · intro hij
        rcases hpair i j x po hij hx hpo with h | h
        · rw [h1 hij] at h; cases h
        · exact up i h
    obtain ⟨k1, k2⟩ := trace_get ht hE0 j (by omega)
    have hread : ∀ t ∈ po.reads, t < e.length → curV pl V e (fun i => listed.getD i false) t = get (E j) t := by
      intro t htr htl
      rw [k2 t htl, ← lastw_lt pl.length j t (by omega)]
      unfold curV
      rw [lastw_congr (f' := fun i => decide (i < j)) pl.length t fun i hi hd => ?_]
      have hx : pl[i]? = some pl[i] := List.getElem?_eq_getElem hi
      rw [hx] at hd
      simp only [Option.bind_some] at hd
      by_cases hij : i = j
      · subst hij
        simp only [hun']
        simp
      · have := near i pl[i] hx hij (fun _ => by simp [PO.apartD, hd, htr]) (fun _ => by simp [PO.apartD, hd, htr])
        rw [Bool.eq_iff_iff, this]
        simp
    -- the state behind it
    have hcnt' : (List.range ops.size).countP (fun i => !(listed.setIfInBounds j true).getD i true) = fuel := by
      have := count_set (p := fun i => !listed.getD i true) (p' := fun i => !(listed.setIfInBounds j true).getD i true) (j := j) (by simp [hun]) (by simp [M.size, hjlt]) (fun i hi => by show (!_) = (!_); rw [getD_set_ne true (Ne.symm hi)]) ops.size hjlt
      omega
    have hset : ∀ i, i ≠ j → (listed.setIfInBounds j true).getD i false = listed.getD i false := fun i hi => getD_set_ne false (Ne.symm hi)
    have hsetj : (listed.setIfInBounds j true).getD j false = true := by simp [M.size, hjlt]
    have hup : ∀ i, listed.getD i false = true → (listed.setIfInBounds j true).getD i false = true := fun i h => by
      by_cases hi : i = j
      · subst hi; exact hsetj
      · rw [hset i hi]; exact h
    -- an operation has been carried out
    have after : ∀ (v : Value) (w' : World) (g' : Gh) (L' : Nat → Nat), Prog base w g (S 0) w' g' (S 0) →
        (∀ (k : Nat) po', pl[k]? = some po' → po'.op.isMk = true → listed.getD k false = true → L' (S k).length = L (S k).length) →
        RepT pl S (listed.setIfInBounds j true) L' w' g' (S 0) v (V j) → (∀ d, po.dst = some d → T.contains d = false → Rep w' g' (S 0) v (V j)) →
        (po.op.isMk = true → Made base w0.heap.size w' g' (S 0) (S pl.length) (L' (S j).length) (S j).length ∧ ∀ (k : Nat) po', pl[k]? = some po' → po'.op.isMk = true → listed.getD k false = true → L' (S k).length ≠ L' (S j).length) →
        wpAny P .any ops Q fuel (listed.setIfInBounds j true) (a.put o.dst v) w' := by
      intro v w' g' L' hp hLL hrT hr hmade
      have hdst := hIj.dst
      have carry : ∀ u p, RepT pl S listed L w g (S 0) u p → RepT pl S (listed.setIfInBounds j true) L' w' g' (S 0) u p := by
        rintro u p (h | ⟨k, po', n, st, e1, e2, e3, e4, e5⟩)
        · exact .inl (h.mono hp.ext)
        · exact .inr ⟨k, po', n, st, e1, e2, hup k e3, e4, by rw [e5, hLL k po' e1 e2 e3]⟩
      have cur_new : ∀ t, o.dst = some t → curV pl V e (fun i => (listed.setIfInBounds j true).getD i false) t = V j := by
        intro t hd
        have hdpo : (pl[j]?).bind (·.dst) = some t := by rw [hpo]; simp [hdst, hd]
        unfold curV
        rw [lastw_new pl.length t j (by omega) hsetj hdpo fun i h1 h2 h3 => ?_]
        have hx : pl[i]? = some pl[i] := List.getElem?_eq_getElem h2
        rw [hx] at h3
        simp only [Option.bind_some] at h3
        rw [hset i (by omega)]
        rcases hpair j i po _ h1 hpo hx with h | h
        · simp [PO.apartD, hdst, hd, h3] at h
        · exact down i h
      have cur_old : ∀ t, o.dst ≠ some t → curV pl V e (fun i => (listed.setIfInBounds j true).getD i false) t = curV pl V e (fun i => listed.getD i false) t := by
        intro t hd
        unfold curV
        rw [lastw_congr (f' := fun i => listed.getD i false) pl.length t fun i hi h3 => ?_]
        refine hset i fun e => ?_
        subst e
        rw [hpo] at h3
        simp only [Option.bind_some, hdst] at h3
        exact hd h3
      have put_new : ∀ t u, o.dst = some t → (a.put o.dst v).tmps[t]? = some u → u = v := by
        intro t u hd hu
        rw [hd] at hu
        simp only [Act.put, Array.getElem?_setIfInBounds] at hu
        simp only [if_true] at hu
        split at hu
        · cases hu; rfl
        · cases hu
      have put_old : ∀ t u, o.dst ≠ some t → (a.put o.dst v).tmps[t]? = some u → a.tmps[t]? = some u := by
        intro t u hd hu
        cases hod : o.dst with
        | none => rw [hod] at hu; exact hu
        | some d =>
          rw [hod] at hu hd
          simp only [Act.put] at hu
          rw [Array.getElem?_setIfInBounds_ne (fun e => hd (by rw [e]))] at hu
          exact hu
      refine ih _ L' _ w' g' hcnt' ⟨by simp [M.size], fun i oi hoi hli ed hed' hb => ?_, ?_, M.prog.trans hp, ?_, fun t u hu htT => ?_, fun t u hu => ?_, fun k pk hk hm hl => ?_, fun k k' pk pk' hk hk' hm hm' hl hl' he => ?_⟩
      · by_cases hij : i = j
        · subst hij
          rw [ho] at hoi
          cases hoi
          exact getD_set_true (hed ed hed' hb)
        · rw [hset i hij] at hli
          exact getD_set_true (M.closed i oi hoi hli ed hed' hb)
      · rw [← M.defers]
        unfold Act.put
        split <;> rfl
      · unfold Act.put
        split <;> simp [M.tsize]
      · by_cases hd : o.dst = some t
        · obtain rfl := put_new t u hd hu
          rw [cur_new t hd]
          exact hr t (by rw [hdst, hd]) htT
        · rw [cur_old t hd]
          exact (M.tmp t u (put_old t u hd hu) htT).mono hp.ext
      · by_cases hd : o.dst = some t
        · obtain rfl := put_new t u hd hu
          rw [cur_new t hd]
          exact hrT
        · rw [cur_old t hd]
          exact carry _ _ (M.tmpT t u (put_old t u hd hu))
      · by_cases hkj : k = j
        · subst hkj
          rw [hpo] at hk
          cases hk
          exact (hmade hm).1
        · rw [hset k hkj] at hl
          rw [hLL k pk hk hm hl]
          exact (M.made k pk hk hm hl).mono hp
      · by_cases hkj : k = j
        · subst hkj
          rw [hpo] at hk
          cases hk
          by_cases hkj' : k' = k
          · exact hkj'.symm
          · rw [hset k' hkj'] at hl'
            exact absurd he.symm ((hmade hm).2 k' pk' hk' hm' hl')
        · rw [hset k hkj] at hl
          by_cases hkj' : k' = j
          · subst hkj'
            rw [hpo] at hk'
            cases hk'
            exact absurd he ((hmade hm').2 k pk hk hm hl)
          · rw [hset k' hkj'] at hl'
            rw [hLL k pk hk hm hl, hLL k' pk' hk' hm' hl'] at he
            exact M.inj k k' pk pk' hk hk' hm hm' hl hl' he
    -- what an operation that looks at no such slice looks at
    let em : Env := (List.range e.length).map fun t => if t ∈ po.reads then get (E j) t else .top
    have hem : ∀ t ∈ po.reads, get em t = get (E j) t := fun t htr => by
      by_cases htl : t < e.length
      · simp [em, get, htl, htr]
      · have h1 : em[t]? = none := List.getElem?_eq_none (by simp [em]; omega)
        have h2 : (E j)[t]? = none := List.getElem?_eq_none (by omega)
        simp [get, h1, h2]
    have hsim : (∀ t ∈ po.reads, T.contains t = false) → Sim w g (S 0) a em := fun hT => by
      refine ⟨by simp [em, M.tsize], fun t v p hv hp => ?_⟩
      have htl : t < e.length := by have := (List.getElem?_eq_some_iff.1 hp).1; simpa [em] using this
      simp only [em, List.getElem?_map, List.getElem?_range htl, Option.map_some, Option.some.injEq] at hp
      split at hp
      · rename_i htr
        rw [← hp, ← hread t htr htl]
        exact M.tmp t v (by simpa using hv) (hT t htr)
      · rw [← hp]; exact .top _
    have hwant : wantP em po.guard = wantP (E j) po.guard := by
      unfold wantP
      split
      · rfl
      · rename_i t b hg
        rw [hem t (by simp [PO.reads, hg])]
    unfold wpOp
    simp only [ho]
    rcases hkind j po hpo with hA | hB | hC
    · -- a slice is made
      simp only [PO.kindA, Bool.and_eq_true] at hA
      obtain ⟨⟨⟨hm, hg⟩, hT⟩, hd⟩ := hA
      have hg : po.guard = none := by simpa using hg
      have hT : ∀ t ∈ po.reads, T.contains t = false := fun t h => by
        rw [List.all_eq_true] at hT
        simpa using hT t h
      have hs := hsim hT
      rw [want_ok hIj hs (b := true) (by rw [hg]; rfl)]
      simp only [if_true]
      rcases (ht.step j po hpo).2 with ⟨_, hop⟩ | ⟨h, _⟩
      · obtain ⟨ty, st, by_, zs, t, hpop⟩ := isMk_inv hm
        have hop' : evOp C H em (S j) po.op = some (V j, S (j + 1)) := by
          rw [← hop]
          exact evOp_congr (S j) po.op fun t htm => hem t (by simp [PO.reads, htm])
        rw [hpop] at hop'
        obtain ⟨n, e1, e2, e3, e4, e5⟩ := mk_ev hop'
        have hc : compOp P o = some (.mkslice ty st by_ zs (.tmp t) (.tmp t)) := by
          rcases hIj.op with h | ⟨f, xs, _, h⟩
          · rw [h, hpop]
          · rw [hpop] at h; cases h
        obtain ⟨c, hrun, hcells⟩ := mk_run hs hc e1 e2 e3
        left
        unfold Oper.wp
        rw [hrun]
        have hp : Prog base w g (S 0) (w.alloc (.cells c ty)) g (S 0) := M.prog.inv.grow (prot' := g.prot) ((Below.refl _ _).alloc (Nat.le_refl _) _) (fun _ h => h) (fun _ h _ => h) (fun ad h => by
          obtain ⟨u, hu⟩ := M.prog.inv.prot ad h
          exact ⟨u, by rw [((Below.refl w.heap.size w).alloc (Nat.le_refl _) _).cell (block_lt hu)]; exact hu⟩)
        have hidx := hpre j (by omega)
        refine after _ _ g (fun i => if i = (S j).length then w.heap.size else L i) hp (fun k po' hk hm' hl => ?_) (.inr ⟨j, po, n.toNat, st, hpo, hm, hsetj, e4, by simp⟩) (fun d hd' hdT => ?_) (fun _ => ⟨⟨?_, ?_, ?_, fun i hi => ?_, fun ad had hpr => ?_, ?_⟩, fun k po' hk hm' hl => ?_⟩)
        · have : (S k).length ≠ (S j).length := fun he => by
            have := hdist k j po' po hk hpo hm' hm he
            subst this
            rw [hun'] at hl; cases hl
          simp [this]
        · rw [hd'] at hd
          simp only at hd
          rw [hd] at hdT; cases hdT
        · simp only [if_true]; exact M.prog.inv.size
        · simp only [if_true]; exact M.prog.below.size
        · simp
        · simp only [if_true]
          have := (M.prog.inv.obj i _ (List.getElem?_eq_getElem hi)).lt
          omega
        · simp only [if_true] at had
          obtain ⟨u, hu⟩ := M.prog.inv.prot ad hpr
          have := block_lt hu
          omega
        · simp only [if_true]
          obtain ⟨lj, hj1, _⟩ := al_trace ht hq (j + 1) (by omega)
          refine ⟨c, ty, _, ?_, heap_alloc_new w _, hcells⟩
          have hpref : ∃ r, S pl.length = S (j + 1) ++ r := by
            have : ∀ d, j + 1 + d ≤ pl.length → ∃ r, S (j + 1 + d) = S (j + 1) ++ r := by
              intro d
              induction d with
              | zero => exact fun _ => ⟨[], by simp⟩
              | succ d ihd =>
                intro hd
                obtain ⟨r, hr⟩ := ihd (by omega)
                have hx' : pl[j + 1 + d]? = some pl[j + 1 + d] := List.getElem?_eq_getElem (by omega)
                show ∃ r, S (j + 1 + d + 1) = _
                rcases (ht.step _ _ hx').2 with ⟨_, h⟩ | ⟨_, _, h⟩
                · rcases hq _ _ hx' with ⟨hm', _⟩ | hq'
                  · obtain ⟨ty', st', by', zs', t', hpop'⟩ := isMk_inv hm'
                    rw [hpop'] at h
                    obtain ⟨n', _, _, _, _, hs'⟩ := mk_ev h
                    exact ⟨r ++ [.box (List.replicate n'.toNat zs').flatten], by rw [hs', hr, List.append_assoc]⟩
                  · exact ⟨r, by rw [quiet_same hq' h, hr]⟩
                · exact ⟨r, by rw [h, hr]⟩
            have := this (pl.length - (j + 1)) (by omega)
            rwa [show j + 1 + (pl.length - (j + 1)) = pl.length by omega] at this
          obtain ⟨r, hr⟩ := hpref
          rw [hr, e5, List.append_assoc, List.getElem?_append_right (Nat.le_refl _), Nat.sub_self]
          rfl
        · have hne : (S k).length ≠ (S j).length := fun he => by
            have := hdist k j po' po hk hpo hm' hm he
            subst this
            rw [hun'] at hl; cases hl
          simp only [hne, if_false, if_true]
          have := (M.made k po' hk hm' hl).lt
          omega
      · rw [hg] at h; cases h
    · -- it is handed on
      unfold PO.kindB at hB
      split at hB
      · rename_i t d hop hg hd
        simp only [Bool.and_eq_true] at hB
        obtain ⟨hT, hdT⟩ := hB
        have hsim0 : Sim w g (S 0) a ((List.range e.length).map fun _ => PV.top) := ⟨by simp [M.tsize], fun t v p hv hp => by
          have htl : t < e.length := by have := (List.getElem?_eq_some_iff.1 hp).1; simpa using this
          simp only [List.getElem?_map, List.getElem?_range htl, Option.map_some, Option.some.injEq] at hp
          rw [← hp]; exact .top _⟩
        rw [want_ok hIj hsim0 (b := true) (by rw [hg]; rfl)]
        simp only [if_true]
        rcases (ht.step j po hpo).2 with ⟨_, h⟩ | ⟨h, _⟩
        · rw [hop] at h
          simp only [evOp, evPrim, Opd.ev, Option.some.injEq, Prod.mk.injEq] at h
          obtain ⟨hv, _⟩ := h
          have hc : compOp P o = some (.mov (.tmp t)) := by
            rcases hIj.op with h | ⟨f, xs, _, h⟩
            · rw [h, hop]
            · rw [hop] at h; cases h
          left
          unfold Oper.wp
          rw [mov_run hc]
          have htr : t ∈ po.reads := by simp [PO.reads, hop, POp.opds, tmpsOf]
          refine after _ w g L (Prog.refl M.prog.inv) (fun _ _ _ _ _ => rfl) ?_ (fun d' hd' hdT' => by rw [hd] at hd'; cases hd'; rw [hdT] at hdT'; cases hdT') fun h => by obtain ⟨_, _, _, _, _, hpop⟩ := isMk_inv h; rw [hop] at hpop; cases hpop
          by_cases htl : t < e.length
          · have hlt2 : t < a.tmps.size := by rw [M.tsize]; exact htl
            have h1 := M.tmpT t a.tmps[t] (Array.getElem?_eq_getElem hlt2)
            rw [hread t htr htl, hv] at h1
            have h2 : a.tmps.getD t undef = a.tmps[t] := by simp [hlt2]
            rw [h2]
            rcases h1 with h1 | ⟨k, po', n, st, e1, e2, e3, e4, e5⟩
            · exact .inl h1
            · exact .inr ⟨k, po', n, st, e1, e2, hup k e3, e4, e5⟩
          · have h2 : (E j)[t]? = none := List.getElem?_eq_none (by omega)
            rw [← hv]
            left
            simp only [get, h2, Option.getD_none]
            exact .top _
        · rw [hg] at h; cases h
      · cases hB
    · -- any other
      simp only [PO.kindC, Bool.and_eq_true] at hC
      obtain ⟨⟨⟨hqj, hbc⟩, hT⟩, hd⟩ := hC
      have hT : ∀ t ∈ po.reads, T.contains t = false := fun t h => by
        rw [List.all_eq_true] at hT
        simpa using hT t h
      have hs := hsim hT
      have hq0 : po.op.blind = true ∨ po.op.csts = true := by simpa using hbc
      have hnm : po.op.isMk = false := by
        cases hm : po.op.isMk with
        | false => rfl
        | true => rw [mkq hm] at hqj; cases hqj
      rcases (ht.step j po hpo).2 with ⟨hw, hop⟩ | ⟨hw, hv, hs'⟩
      · rw [want_ok hIj hs (hwant.trans hw)]
        simp only [if_true]
        have hop' : evOp C H em (S j) po.op = some (V j, S (j + 1)) := by
          rw [← hop]
          exact evOp_congr (S j) po.op fun t htm => hem t (by simp [PO.reads, htm])
        have e2 : S (j + 1) = S j := quiet_same hqj hop
        rw [e2] at hop'
        have hop'' : evOp C H em (S 0) po.op = some (V j, S 0) := by
          have hb := between_of ht hq0 (i := 0) (j := j) (fun m x hx hqx h1 h2 => by
            have hal : x.op.alloc = true := by
              rcases hq m x hx with ⟨hm, _⟩ | h
              · obtain ⟨_, _, _, _, _, hpop⟩ := isMk_inv hm
                rw [hpop]; rfl
              · rw [h] at hqx; cases hqx
            simp only [POp.free, hal, Bool.true_or, Bool.and_true, hqx, Bool.false_or, Bool.or_eq_true]
            exact hq0) (Nat.zero_le j) (by omega)
          by_cases hbl : po.op.blind = true
          · exact comm_blind hbl hop'
          · refine comm_bwd hqj hb (fun x hx => ?_) hop'
            have hcs : po.op.csts = true := hq0.resolve_left hbl
            simp only [POp.csts, List.all_eq_true] at hcs
            have hc := hcs x hx
            cases x with
            | cst v => exact pure_inH _ hc
            | fn f => rfl
            | tmp t =>
              show (get em t).inH _ = true
              by_cases htl : t < a.tmps.size
              · have hl : em.length = a.tmps.size := by simp [em, M.tsize]
                have := hs.2 t a.tmps[t] (get em t) (by simp [htl]) (by simp [get, hl, htl])
                exact rep_inH this
              · have : em[t]? = none := List.getElem?_eq_none (by simp [em, ← M.tsize]; omega)
                simp [get, this, PV.inH]
        exact .inl (op_ok SH M.prog.inv hs hIj.op hop'' fun v w' g' hp hr => after v w' g' L hp (fun _ _ _ _ _ => rfl) (.inl hr) (fun _ _ _ => hr) fun h => by rw [hnm] at h; cases h)
      · rw [want_ok hIj hs (hwant.trans hw)]
        simp only [Bool.false_eq_true, if_false]
        exact after undef w g L (Prog.refl M.prog.inv) (fun _ _ _ _ _ => rfl) (.inl (by rw [hv]; exact Rep.und _ _ _)) (fun _ _ _ => by rw [hv]; exact Rep.und _ _ _) fun h => by rw [hnm] at h; cases h
theorem region_ok (SH : SoundH P C H) (hm : P.follows .mixedOrders = true) {id : Nat} {ops : Array Oper} {draw : Bool} {pl : List PO} (hc : compRegion P ops draw = some pl) {base : Nat} {w : World} {g : Gh} {σ : Heap} {a : Act} {e e' : Env} {σ' : Heap} {Q : Exit → Act → World → Prop}
    (h : evOps C H pl e σ = some (e', σ')) (hi : Inv base w g σ) (hs : Sim w g σ a e) (hQ : Ends base w g σ a.defers .norm e' σ' Q) : (Code.region id ops draw).wp P Q a w := by
  have cur0 : ∀ (E : Nat → Env) (S : Nat → Heap) (V : Nat → PV) {pl : List PO} (ht : Trace C H pl E S V) (pl' : List PO) (hlen : ops.size = pl'.length) (hdr : Prog base w g σ w.drew g σ) (e0 : E 0 = e) (t : Nat) (v : Value), a.tmps[t]? = some v → Rep w.drew g σ v (curV pl' V e (fun i => (Array.replicate ops.size false).getD i false) t) := by
    intro E S V pl ht pl' hlen hdr e0 t v hv
    have hnone : lastw pl' (fun i => (Array.replicate ops.size false).getD i false) pl'.length t = none := by
      have : ∀ n, n ≤ pl'.length → lastw pl' (fun i => (Array.replicate ops.size false).getD i false) n t = none := by
        intro n
        induction n with
        | zero => exact fun _ => rfl
        | succ n ihn =>
          intro hn
          simp only [lastw]
          rw [if_neg (by
            have : n < ops.size := by omega
            simp [this]), ihn (by omega)]
      exact this _ (Nat.le_refl _)
    unfold curV
    rw [hnone]
    simp only
    have hlt : t < e.length := by rw [← hs.1]; simpa using (Array.getElem?_eq_some_iff.1 hv).1
    have := hs.2 t v e[t] (by simpa using hv) (List.getElem?_eq_getElem hlt)
    have hg : get e t = e[t] := by simp [get, hlt]
    rw [hg]
    exact this.mono hdr.ext
  unfold compRegion at hc
  split at hc
  · rename_i l hl
    obtain ⟨k1, k2, k3⟩ := compOs_I hl
    cases draw with
    | false =>
      simp only [Bool.false_eq_true, if_false, Option.some.injEq] at hc
      subst hc
      have := ops_ok SH (ops := ops) ops.toList 0 l (by simp) k1 k2 h hi hs hQ
      refine wp_region ?_
      rw [List.range_eq_range']
      simpa using this
    | true =>
      simp only [if_true] at hc
      have main : drawOK ops pl = true → ops.size = pl.length → (∀ (i : Nat) o po, ops[i]? = some o → pl[i]? = some po → CompI P ops o po) → (Code.region id ops true).wp P Q a w := by
        intro hd hlen hI
        simp only [drawOK, Bool.and_eq_true] at hd
        obtain ⟨d1, d2⟩ := hd
        obtain ⟨E, S, V, ht, e0, s0, en, sn⟩ := evOps_trace pl h
        have hdr := drew_prog hi
        refine wp_region_any hm ?_
        subst en
        subst sn
        refine mid_any SH ht e0 hlen hI (fun j o ho ed hed hb => ?_) (fun i j x y hij hx hy => ?_) hQ ops.size _ a w.drew g σ ?_ ⟨by simp, fun j o ho hl => ?_, rfl, hdr, fun k hk hall => ?_, ?_, fun t v hv => ?_⟩
        · have := edgesBack_ok (ops := ops) ops.toList 0 (by simp) d1 j o (by simpa using ho) ed hed hb
          omega
        · simp only [pairsOK, List.all_eq_true, List.mem_range] at d2
          have hj := (List.getElem?_eq_some_iff.1 hy).1
          have := d2 j hj i hij
          rw [hx, hy] at this
          simp only [Bool.or_eq_true] at this
          rcases this with h | h
          · exact .inl h
          · refine .inr ?_
            rw [List.getD_eq_getElem?_getD] at h
            cases hta : (ancTab ops.toList [])[j]? with
            | none => rw [hta] at h; simp at h
            | some is =>
              rw [hta] at h
              exact ancTab_ok (ops := ops) ops.toList [] (by simp) (fun j is h => by simp at h) j is hta i (by simpa using h)
        · rw [List.countP_eq_length.2 fun i hi => ?_, List.length_range]
          rw [List.mem_range] at hi
          simp [hi]
        · have hlt := (Array.getElem?_eq_some_iff.1 ho).1
          simp [hlt] at hl
        · -- nothing is carried out
          have chain : ∀ m, m ≤ k → S m = S 0 := by
            intro m
            induction m with
            | zero => exact fun _ => rfl
            | succ m ihm =>
              intro hmk
              have hx : pl[m]? = some pl[m] := List.getElem?_eq_getElem (by omega)
              have hqm : (pl[m]).op.quiet = true := by
                cases hqm : (pl[m]).op.quiet with
                | true => rfl
                | false =>
                  exfalso
                  have h1 := (hall m _ hx hqm).1 (by omega)
                  have : m < ops.size := by omega
                  simp [this] at h1
              rw [← ihm (by omega)]
              rcases (ht.step m _ hx).2 with ⟨_, h⟩ | ⟨_, _, h⟩
              · exact quiet_same hqm h
              · exact h
          rw [chain k (Nat.le_refl _), s0]
        · have := hs.1
          simpa using this
        · have hnone : lastw pl (fun i => (Array.replicate ops.size false).getD i false) pl.length t = none := by
            have : ∀ n, n ≤ pl.length → lastw pl (fun i => (Array.replicate ops.size false).getD i false) n t = none := by
              intro n
              induction n with
              | zero => exact fun _ => rfl
              | succ n ihn =>
                intro hn
                simp only [lastw]
                rw [if_neg (by
                  have : n < ops.size := by omega
                  simp [this]), ihn (by omega)]
            exact this _ (Nat.le_refl _)
          unfold curV
          rw [hnone]
          simp only
          have hlt : t < e.length := by rw [← hs.1]; simpa using (Array.getElem?_eq_some_iff.1 hv).1
          have := hs.2 t v e[t] (by simpa using hv) (List.getElem?_eq_getElem hlt)
          have hg : get e t = e[t] := by simp [get, hlt]
          rw [hg]
          exact this.mono hdr.ext
      split at hc
      · rename_i hd
        cases hc
        exact main hd (by simpa using k1) fun i o po h1 h2 => k2 i o po (by simpa using h1) h2
      · split at hc
        · rename_i hd
          cases hc
          exact main hd (by simpa using k1) fun i o po h1 h2 => k3 i o po (by simpa using h1) h2
        · split at hc
          · rename_i hd
            cases hc
            -- several slices are made
            simp only [drawAl, Bool.and_eq_true] at hd
            obtain ⟨⟨d1, d3⟩, d2⟩ := hd
            obtain ⟨E, S, V, ht, e0, s0, en, sn⟩ := evOps_trace pl h
            have hdr := drew_prog hi
            refine wp_region_any hm ?_
            subst en
            subst sn
            subst s0
            have hlen : ops.size = pl.length := by simpa using k1
            refine al_any SH ht e0 (T := taintOf pl []) hlen (fun i o po h1 h2 => k2 i o po (by simpa using h1) h2) (fun j o ho ed hed hb => ?_) (fun i j x y hij hx hy => ?_) (fun i x hx => ?_) hQ ops.size _ (fun _ => 0) a w.drew g ?_ ⟨by simp, fun j o ho hl => ?_, rfl, hdr, ?_, fun t v hv _ => ?_, fun t v hv => .inl ?_, fun k po hk hm hl => ?_, fun k k' po po' hk hk' hm hm' hl => ?_⟩
            · have := edgesBack_ok (ops := ops) ops.toList 0 (by simp) d1 j o (by simpa using ho) ed hed hb
              omega
            · simp only [pairsD, List.all_eq_true, List.mem_range] at d2
              have hj := (List.getElem?_eq_some_iff.1 hy).1
              have := d2 j hj i hij
              rw [hx, hy] at this
              simp only [Bool.or_eq_true] at this
              rcases this with h | h
              · exact .inl h
              · refine .inr ?_
                rw [List.getD_eq_getElem?_getD] at h
                cases hta : (ancTab ops.toList [])[j]? with
                | none => rw [hta] at h; simp at h
                | some is =>
                  rw [hta] at h
                  exact ancTab_ok (ops := ops) ops.toList [] (by simp) (fun j is h => by simp at h) j is hta i (by simpa using h)
            · rw [List.all_eq_true] at d3
              have := d3 x (List.mem_of_getElem? hx)
              simpa [Bool.or_eq_true, or_assoc] using this
            · rw [List.countP_eq_length.2 fun i hi => ?_, List.length_range]
              rw [List.mem_range] at hi
              simp [hi]
            · have hlt := (Array.getElem?_eq_some_iff.1 ho).1
              simp [hlt] at hl
            · have := hs.1
              simpa using this
            · exact cur0 E S V ht pl hlen hdr e0 t v hv
            · exact cur0 E S V ht pl hlen hdr e0 t v hv
            · have := (List.getElem?_eq_some_iff.1 hk).1
              simp [show k < ops.size by omega] at hl
            · have := (List.getElem?_eq_some_iff.1 hk).1
              simp [show k < ops.size by omega] at hl
          · cases hc
  · cases hc
end
end Go.PE
