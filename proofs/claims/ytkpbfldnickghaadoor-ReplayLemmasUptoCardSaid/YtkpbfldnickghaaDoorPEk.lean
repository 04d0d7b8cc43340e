/- A region whose order is drawn; code; functions; the evaluator is right. -/
import Derived.Test.YtkpbfldnickghaaDoorPEjj
set_option linter.unusedVariables false
set_option linter.unusedSimpArgs false
set_option linter.unusedSectionVars false
namespace Go.PE
variable [Globs]
open Go.RowKit (Below)

/-! ### The states of the text's order -/
structure Trace (C : Funcs) (H : Handler) (pl : List PO) (E : Nat → Env) (S : Nat → Heap) (V : Nat → PV) : Prop where
  step : ∀ (k : Nat) po, pl[k]? = some po → E (k + 1) = put (E k) po.dst (V k) ∧ ((wantP (E k) po.guard = some true ∧ evOp C H (E k) (S k) po.op = some (V k, S (k + 1))) ∨ (wantP (E k) po.guard = some false ∧ V k = .tup [] ∧ S (k + 1) = S k))
theorem evOps_trace {C : Funcs} {H : Handler} : ∀ (pl : List PO) {e : Env} {σ : Heap} {e' : Env} {σ' : Heap}, evOps C H pl e σ = some (e', σ') → ∃ E S V, Trace C H pl E S V ∧ E 0 = e ∧ S 0 = σ ∧ E pl.length = e' ∧ S pl.length = σ'
  | [], e, σ, e', σ', h => by
    simp only [evOps, Option.some.injEq, Prod.mk.injEq] at h
    exact ⟨fun _ => e, fun _ => σ, fun _ => .top, ⟨fun k po h => by simp at h⟩, rfl, rfl, h.1, h.2⟩
  | po :: pl, e, σ, e', σ', h => by
    simp only [evOps] at h
    have key : ∀ (v : PV) (σ1 : Heap), ((wantP e po.guard = some true ∧ evOp C H e σ po.op = some (v, σ1)) ∨ (wantP e po.guard = some false ∧ v = .tup [] ∧ σ1 = σ)) → evOps C H pl (put e po.dst v) σ1 = some (e', σ') →
        ∃ E S V, Trace C H (po :: pl) E S V ∧ E 0 = e ∧ S 0 = σ ∧ E (po :: pl).length = e' ∧ S (po :: pl).length = σ' := by
      intro v σ1 h1 h2
      obtain ⟨E, S, V, ht, e0, s0, en, sn⟩ := evOps_trace pl h2
      refine ⟨fun k => match k with | 0 => e | k + 1 => E k, fun k => match k with | 0 => σ | k + 1 => S k, fun k => match k with | 0 => v | k + 1 => V k, ⟨fun k q hq => ?_⟩, rfl, rfl, en, sn⟩
      cases k with
      | zero =>
        simp only [List.getElem?_cons_zero, Option.some.injEq] at hq
        subst hq
        dsimp only
        rw [e0, s0]
        exact ⟨rfl, h1⟩
      | succ k => exact ht.step k q (by simpa using hq)
    split at h
    · rename_i hw
      simp only [Option.bind_eq_some_iff] at h
      obtain ⟨⟨v, σ1⟩, h1, h2⟩ := h
      exact key v σ1 (.inl ⟨hw, h1⟩) h2
    · rename_i hw
      exact key _ _ (.inr ⟨hw, rfl, rfl⟩) h
    · cases h

/-! ### Who waits for whom -/
inductive Anc (ops : Array Oper) : Nat → Nat → Prop where
  | edge (j : Nat) (o : Oper) (ed : Edge) : ops[j]? = some o → ed ∈ o.after → Region.binds .any ed = true → Anc ops j ed.on
  | far (j i : Nat) (o : Oper) (ed : Edge) : ops[j]? = some o → ed ∈ o.after → Region.binds .any ed = true → Anc ops ed.on i → Anc ops j i
theorem ancTab_ok {ops : Array Oper} : ∀ (l : List Oper) (tab : List (List Nat)), (∀ j : Nat, l[j]? = ops[tab.length + j]?) → (∀ (j : Nat) is, tab[j]? = some is → ∀ i ∈ is, Anc ops j i) → ∀ (j : Nat) is, (ancTab l tab)[j]? = some is → ∀ i ∈ is, Anc ops j i
  | [], tab, _, ht => ht
  | o :: l, tab, hl, ht => by
    simp only [ancTab]
    refine ancTab_ok l _ (fun j => by have := hl (j + 1); simpa [Nat.add_assoc, Nat.add_comm 1 j] using this) fun j is hj i hi => ?_
    rcases Nat.lt_or_ge j tab.length with hlt | hge
    · rw [List.getElem?_append_left hlt] at hj
      exact ht j is hj i hi
    · have hj' : j = tab.length := by
        have := (List.getElem?_eq_some_iff.1 hj).1
        simp at this
        omega
      subst hj'
      rw [List.getElem?_concat_length] at hj
      cases hj
      rw [List.mem_eraseDups, List.mem_flatMap] at hi
      obtain ⟨ed, hed, hi⟩ := hi
      rw [List.mem_filter] at hed
      have ho : ops[tab.length]? = some o := by simpa using (hl 0).symm
      have hmem : ed ∈ o.after := by simpa using hed.1
      rcases List.mem_cons.1 hi with rfl | hi
      · exact .edge _ o ed ho hmem hed.2
      · refine .far _ _ o ed ho hmem hed.2 ?_
        rw [List.getD_eq_getElem?_getD] at hi
        cases ht' : tab[ed.on]? with
        | none => rw [ht'] at hi; simp at hi
        | some is => rw [ht'] at hi; exact ht _ is ht' i hi
theorem edgesBack_ok {ops : Array Oper} : ∀ (l : List Oper) (k : Nat), (∀ j : Nat, l[j]? = ops[k + j]?) → edgesBack l k = true → ∀ (j : Nat) o, l[j]? = some o → ∀ ed ∈ o.after, Region.binds .any ed = true → ed.on < k + j
  | [], _, _, _, j, o, h => by simp at h
  | o :: l, k, hl, h, j, o', hj => by
    simp only [edgesBack, Bool.and_eq_true, List.all_eq_true] at h
    cases j with
    | zero =>
      simp at hj
      subst hj
      intro ed hed hb
      have := h.1 ed (by simpa using hed)
      rw [hb] at this
      simpa using this
    | succ j =>
      intro ed hed hb
      have := edgesBack_ok l (k + 1) (fun j => by have := hl (j + 1); simpa [Nat.add_assoc, Nat.add_comm 1 j] using this) h.2 j o' (by simpa using hj) ed hed hb
      omega

/-- The last of those with a number below n that answer yes and write t. -/
def lastw (pl : List PO) (f : Nat → Bool) : Nat → Nat → Option Nat
  | 0, _ => none
  | m + 1, t => if f m = true ∧ (pl[m]?).bind (·.dst) = some t then some m else lastw pl f m t
theorem lastw_congr {pl : List PO} {f f' : Nat → Bool} : ∀ (n t : Nat), (∀ i, i < n → (pl[i]?).bind (·.dst) = some t → f i = f' i) → lastw pl f n t = lastw pl f' n t
  | 0, _, _ => rfl
  | m + 1, t, h => by
    simp only [lastw]
    by_cases hd : (pl[m]?).bind (·.dst) = some t
    · rw [h m (by omega) hd, lastw_congr m t fun i hi => h i (by omega)]
    · simp only [hd, and_false, if_false]
      exact lastw_congr m t fun i hi => h i (by omega)
theorem lastw_new {pl : List PO} {f : Nat → Bool} : ∀ (n t j : Nat), j < n → f j = true → (pl[j]?).bind (·.dst) = some t → (∀ i, j < i → i < n → (pl[i]?).bind (·.dst) = some t → f i = false) → lastw pl f n t = some j
  | 0, _, _, h, _, _, _ => by omega
  | m + 1, t, j, hj, hf, hd, h => by
    simp only [lastw]
    by_cases hjm : j = m
    · subst hjm
      rw [if_pos ⟨hf, hd⟩]
    · rw [if_neg, lastw_new m t j (by omega) hf hd fun i h1 h2 => h i h1 (by omega)]
      rintro ⟨h1, h2⟩
      have := h m (by omega) (by omega) h2
      rw [h1] at this
      cases this
/-- What temporary t holds when those have been carried out. -/
def curV (pl : List PO) (V : Nat → PV) (e : Env) (f : Nat → Bool) (t : Nat) : PV :=
  match lastw pl f pl.length t with
  | some i => V i
  | none => get e t
theorem get_put {e : Env} {d : Option Nat} {v : PV} {t : Nat} (ht : t < e.length) : get (put e d v) t = if d = some t then v else get e t := by
  cases d with
  | none => simp [put]
  | some d =>
    simp only [put, get, Option.some.injEq]
    by_cases h : d = t
    · subst h; simp [ht]
    · rw [if_neg h, List.getElem?_set_ne h]
theorem put_length (e : Env) (d : Option Nat) (v : PV) : (put e d v).length = e.length := by cases d <;> simp [put]
theorem lastw_lt {pl : List PO} : ∀ (n k t : Nat), k ≤ n → lastw pl (fun i => decide (i < k)) n t = lastw pl (fun _ => true) k t
  | 0, k, t, h => by
    have : k = 0 := by omega
    subst this
    rfl
  | m + 1, k, t, h => by
    by_cases hk : k = m + 1
    · subst hk
      exact lastw_congr (m + 1) t fun i hi _ => by simpa using hi
    · simp only [lastw]
      rw [if_neg (by simp; omega)]
      exact lastw_lt m k t (by omega)
theorem trace_get {C : Funcs} {H : Handler} {pl : List PO} {E : Nat → Env} {S : Nat → Heap} {V : Nat → PV} (ht : Trace C H pl E S V) {e : Env} (h0 : E 0 = e) : ∀ (k : Nat), k ≤ pl.length → (E k).length = e.length ∧ ∀ t, t < e.length → get (E k) t = (match lastw pl (fun _ => true) k t with | some i => V i | none => get e t)
  | 0, _ => ⟨by rw [h0], fun t _ => by rw [h0]; rfl⟩
  | k + 1, hk => by
    obtain ⟨h1, h2⟩ := trace_get ht h0 k (by omega)
    have hpo : pl[k]? = some pl[k] := List.getElem?_eq_getElem (by omega)
    obtain ⟨h3, _⟩ := ht.step k _ hpo
    refine ⟨by rw [h3, put_length, h1], fun t hlt => ?_⟩
    rw [h3, get_put (by rw [h1]; exact hlt)]
    simp only [lastw, hpo, Option.bind_some, true_and]
    split
    · rfl
    · exact h2 t hlt

theorem count_set {p p' : Nat → Bool} {j : Nat} (h1 : p j = true) (h2 : p' j = false) (h3 : ∀ i, i ≠ j → p' i = p i) : ∀ n, j < n → (List.range n).countP p = (List.range n).countP p' + 1
  | 0, h => by omega
  | n + 1, h => by
    rw [List.range_succ, List.countP_append, List.countP_append, List.countP_singleton, List.countP_singleton]
    by_cases hj : j = n
    · subst hj
      have : (List.range j).countP p = (List.range j).countP p' := List.countP_congr fun i hi => by
        rw [List.mem_range] at hi
        rw [h3 i (by omega)]
      rw [this, h1, h2]
      simp
    · rw [count_set h1 h2 h3 n (by omega), h3 n (fun e => hj e.symm)]
      omega

section
variable {P : Program} {C : Funcs} {H : Handler}

/-- The state in the midst of a region. -/
structure Mid (base : Nat) (ops : Array Oper) (pl : List PO) (S : Nat → Heap) (V : Nat → PV) (e : Env) (w0 : World) (g0 : Gh) (σ0 : Heap) (a0 : Act) (listed : Array Bool) (a : Act) (w : World) (g : Gh) (σ : Heap) : Prop where
  size : listed.size = ops.size
  closed : ∀ (j : Nat) o, ops[j]? = some o → listed.getD j false = true → ∀ ed ∈ o.after, Region.binds .any ed = true → listed.getD ed.on false = true
  defers : a.defers = a0.defers
  prog : Prog base w0 g0 σ0 w g σ
  sig : ∀ k, k ≤ pl.length → (∀ (i : Nat) po, pl[i]? = some po → po.op.quiet = false → (i < k ↔ listed.getD i false = true)) → σ = S k
  tsize : a.tmps.size = e.length
  tmp : ∀ (t : Nat) v, a.tmps[t]? = some v → Rep w g σ v (curV pl V e (fun i => listed.getD i false) t)

theorem anc_listed {ops : Array Oper} {listed : Array Bool} (hc : ∀ (j : Nat) o, ops[j]? = some o → listed.getD j false = true → ∀ ed ∈ o.after, Region.binds .any ed = true → listed.getD ed.on false = true) {j i : Nat} (h : Anc ops j i) : listed.getD j false = true → listed.getD i false = true := by
  induction h with
  | edge j o ed h1 h2 h3 => exact fun hj => hc j o h1 hj ed h2 h3
  | far j i o ed h1 h2 h3 h4 ih => exact fun hj => ih (hc j o h1 hj ed h2 h3)

theorem getD_same {l : Array Bool} {i : Nat} (h : i < l.size) (d d' : Bool) : l.getD i d = l.getD i d' := by simp [h]

/-- Those that are carried out of a chain are its first ones. -/
theorem prefix_of {pl : List PO} {listed : Array Bool} (h : ∀ (i i' : Nat) x x', i < i' → pl[i]? = some x → pl[i']? = some x' → x.op.quiet = false → x'.op.quiet = false → listed.getD i' false = true → listed.getD i false = true) :
    ∃ k, k ≤ pl.length ∧ ∀ (i : Nat) po, pl[i]? = some po → po.op.quiet = false → (i < k ↔ listed.getD i false = true) := by
  have key : ∀ n, n ≤ pl.length → ∃ k, k ≤ n ∧ ∀ (i : Nat) po, i < n → pl[i]? = some po → po.op.quiet = false → (i < k ↔ listed.getD i false = true) := by
    intro n
    induction n with
    | zero => exact fun _ => ⟨0, Nat.le_refl _, fun i po h => by omega⟩
    | succ n ih =>
      intro hn
      obtain ⟨k, hk, hp⟩ := ih (by omega)
      have hx : pl[n]? = some pl[n] := List.getElem?_eq_getElem (by omega)
      by_cases hl : (pl[n]).op.quiet = false ∧ listed.getD n false = true
      · refine ⟨n + 1, Nat.le_refl _, fun i po hi hpo hq => ⟨fun _ => ?_, fun _ => hi⟩⟩
        by_cases hin : i = n
        · subst hin; exact hl.2
        · exact h i n po _ (by omega) hpo hx hq hl.1 hl.2
      · refine ⟨k, by omega, fun i po hi hpo hq => ?_⟩
        by_cases hin : i = n
        · subst hin
          rw [hx] at hpo
          cases hpo
          exact ⟨fun h => by omega, fun h => absurd ⟨hq, h⟩ hl⟩
        · exact hp i po (by omega) hpo hq
  obtain ⟨k, hk, hp⟩ := key pl.length (Nat.le_refl _)
  exact ⟨k, hk, fun i po hpo hq => hp i po (List.getElem?_eq_some_iff.1 hpo).1 hpo hq⟩
theorem between_of {pl : List PO} {E : Nat → Env} {S : Nat → Heap} {V : Nat → PV} (ht : Trace C H pl E S V) {q : POp} (hq : q.blind = true ∨ q.csts = true) {i : Nat} : ∀ {j : Nat}, (∀ (m : Nat) x, pl[m]? = some x → x.op.quiet = false → i ≤ m → m < j → q.free x.op = true) → i ≤ j → j ≤ pl.length → Between q (S i) (S j)
  | 0, _, hij, _ => by
    obtain rfl : i = 0 := by omega
    exact .refl q hq _
  | j + 1, hf, hij, hj => by
    by_cases he : i = j + 1
    · subst he; exact .refl q hq _
    · have ih := between_of ht hq (i := i) (j := j) (fun m x hx hqx h1 h2 => hf m x hx hqx h1 (by omega)) (by omega) (by omega)
      have hx : pl[j]? = some pl[j] := List.getElem?_eq_getElem (by omega)
      refine ih.trans ?_
      rcases (ht.step j _ hx).2 with ⟨_, h⟩ | ⟨_, _, h⟩
      · cases hqx : (pl[j]).op.quiet with
        | true => rw [quiet_same hqx h]; exact .refl q hq _
        | false => exact free_between hq (hf j _ hx hqx (by omega) (by omega)) h
      · rw [h]; exact .refl q hq _
theorem same_of {pl : List PO} {E : Nat → Env} {S : Nat → Heap} {V : Nat → PV} (ht : Trace C H pl E S V) {i : Nat} : ∀ {j : Nat}, (∀ (m : Nat) x, pl[m]? = some x → x.op.quiet = false → i ≤ m → m < j → False) → i ≤ j → j ≤ pl.length → S i = S j
  | 0, _, hij, _ => by
    obtain rfl : i = 0 := by omega
    rfl
  | j + 1, hf, hij, hj => by
    by_cases he : i = j + 1
    · subst he; rfl
    · have ih := same_of ht (i := i) (j := j) (fun m x hx hqx h1 h2 => hf m x hx hqx h1 (by omega)) (by omega) (by omega)
      have hx : pl[j]? = some pl[j] := List.getElem?_eq_getElem (by omega)
      rw [ih]
      rcases (ht.step j _ hx).2 with ⟨_, h⟩ | ⟨_, _, h⟩
      · cases hqx : (pl[j]).op.quiet with
        | true => exact (quiet_same hqx h).symm
        | false => exact (hf j _ hx hqx (by omega) (by omega)).elim
      · exact h.symm
theorem mid_any (SH : SoundH P C H) {ops : Array Oper} {pl : List PO} {E : Nat → Env} {S : Nat → Heap} {V : Nat → PV} (ht : Trace C H pl E S V) {e : Env} (hE0 : E 0 = e) (hlen : ops.size = pl.length) (hI : ∀ (i : Nat) o po, ops[i]? = some o → pl[i]? = some po → CompI P ops o po)
    (hback : ∀ (j : Nat) o, ops[j]? = some o → ∀ ed ∈ o.after, Region.binds .any ed = true → ed.on < j) (hpair : ∀ (i j : Nat) x y, i < j → pl[i]? = some x → pl[j]? = some y → x.apart y = true ∨ Anc ops j i)
    {base : Nat} {w0 : World} {g0 : Gh} {σ0 : Heap} {a0 : Act} {Q : Exit → Act → World → Prop} (hQ : Ends base w0 g0 σ0 a0.defers .norm (E pl.length) (S pl.length) Q) :
    ∀ (fuel : Nat) (listed : Array Bool) (a : Act) (w : World) (g : Gh) (σ : Heap), (List.range ops.size).countP (fun i => !listed.getD i true) = fuel → Mid base ops pl S V e w0 g0 σ0 a0 listed a w g σ → wpAny P .any ops Q fuel listed a w := by
  -- all listed: done
  have done_ : ∀ (listed : Array Bool) (a : Act) (w : World) (g : Gh) (σ : Heap), (∀ i, i < ops.size → listed.getD i false = true) → Mid base ops pl S V e w0 g0 σ0 a0 listed a w g σ → Q .normal a w := by
    intro listed a w g σ hall M
    obtain ⟨k1, k2⟩ := trace_get ht hE0 pl.length (Nat.le_refl _)
    have hσ : σ = S pl.length := M.sig _ (Nat.le_refl _) fun i po hpo _ => by
      have := (List.getElem?_eq_some_iff.1 hpo).1
      exact ⟨fun _ => hall i (by omega), fun _ => this⟩
    subst hσ
    refine hQ a w g M.defers M.prog ⟨by simp [M.tsize, k1], fun t v p hv hp => ?_⟩
    have hlt : t < e.length := by rw [← k1]; exact (List.getElem?_eq_some_iff.1 hp).1
    have := M.tmp t v (by simpa using hv)
    have hp' : p = get (E pl.length) t := by simp [get, hp]
    rw [hp', k2 t hlt]
    unfold curV at this
    rw [lastw_congr (f' := fun _ => true) pl.length t fun i hi _ => hall i (by omega)] at this
    exact this
  have small : ∀ (listed : Array Bool), listed.size = ops.size → Region.ready .any ops listed = [] → ∀ i, i < ops.size → listed.getD i false = true := by
    intro listed hsz hr i
    induction i using Nat.strongRecOn with
    | _ i ih =>
      intro hi
      cases hli : listed.getD i false with
      | true => rfl
      | false =>
        exfalso
        have : i ∈ Region.ready .any ops listed := mem_ready.2 ⟨by rw [getD_same (by omega) true false]; exact hli, ops[i], Array.getElem?_eq_getElem hi, fun ed hed hb => by
          have := hback i _ (Array.getElem?_eq_getElem hi) ed hed hb
          exact ih ed.on this (by omega)⟩
        rw [hr] at this
        cases this
  intro fuel
  induction fuel with
  | zero =>
    intro listed a w g σ hcnt M
    have hall : ∀ i, i < ops.size → listed.getD i false = true := fun i hi => by
      rw [List.countP_eq_zero] at hcnt
      have := hcnt i (List.mem_range.2 hi)
      rw [getD_same (by rw [M.size]; exact hi) false true]
      simpa using this
    refine ⟨?_, done_ listed a w g σ hall M⟩
    rw [List.eq_nil_iff_forall_not_mem]
    intro j hj
    obtain ⟨h1, o, ho, _⟩ := mem_ready.1 hj
    have hlt := (Array.getElem?_eq_some_iff.1 ho).1
    rw [getD_same (by rw [M.size]; exact hlt) true false, hall j hlt] at h1
    cases h1
  | succ fuel ih =>
    intro listed a w g σ hcnt M
    refine ⟨fun hr => done_ listed a w g σ (small listed M.size hr) M, fun j hj => ?_⟩
    obtain ⟨hun, o, ho, hed⟩ := mem_ready.1 hj
    have hlt := (Array.getElem?_eq_some_iff.1 ho).1
    have hun' : listed.getD j false = false := by rw [getD_same (by rw [M.size]; exact hlt) false true]; exact hun
    have hpo : pl[j]? = some (pl[j]'(by omega)) := List.getElem?_eq_getElem (by omega)
    generalize hpodef : pl[j]'(by omega) = po at hpo
    have hIj := hI j o po ho hpo
    -- who is an ancestor is listed; who has this one as an ancestor is not
    have up : ∀ i, Anc ops j i → listed.getD i false = true := fun i hA => by
      cases hA with
      | edge _ o' ed h1 h2 h3 => rw [ho] at h1; cases h1; exact hed ed h2 h3
      | far _ _ o' ed h1 h2 h3 h4 => rw [ho] at h1; cases h1; exact anc_listed M.closed h4 (hed ed h2 h3)
    have down : ∀ i, Anc ops i j → listed.getD i false = false := fun i hA => by
      cases hli : listed.getD i false with
      | false => rfl
      | true => rw [anc_listed M.closed hA hli] at hun'; cases hun'
    have ilt : ∀ (i : Nat) x, pl[i]? = some x → i < ops.size := fun i x h => by have := (List.getElem?_eq_some_iff.1 h).1; omega
    -- an operation that isn't apart from this one is listed just if it stands before
    have near : ∀ (i : Nat) x, pl[i]? = some x → i ≠ j → (i < j → x.apart po = false) → (j < i → po.apart x = false) → (listed.getD i false = true ↔ i < j) := by
      intro i x hx hne h1 h2
      constructor
      · intro hl
        rcases Nat.lt_or_ge i j with h | h
        · exact h
        · exfalso
          have hji : j < i := by omega
          rcases hpair j i po x hji hpo hx with h | h
          · rw [h2 hji] at h; cases h
          · rw [down i h] at hl; cases hl
      · intro hij
        rcases hpair i j x po hij hx hpo with h | h
        · rw [h1 hij] at h; cases h
        · exact up i h
    -- the abstract heap is one of the text's order
    have hσn : po.op.quiet = false → σ = S j := fun hqj => M.sig j (by omega) fun i x hx hq => by
      by_cases hij : i = j
      · subst hij; simp [hun']
      · exact (near i x hx hij (fun _ => by simp [PO.apart, hq, hqj]) (fun _ => by simp [PO.apart, hq, hqj])).symm
    obtain ⟨k0, hk0, hpre⟩ := prefix_of (listed := listed) (fun i i' x x' hii hx hx' hq hq' hl => by
      rcases hpair i i' x x' hii hx hx' with h | h
      · simp [PO.apart, hq, hq'] at h
      · exact anc_listed M.closed h hl)
    have hσk : σ = S k0 := M.sig k0 hk0 hpre
    -- who changes the heap between doesn't matter to a quiet one
    have hfree : po.op.quiet = true → ∀ (m : Nat) x, pl[m]? = some x → x.op.quiet = false → (k0 ≤ m ∧ m < j) ∨ (j ≤ m ∧ m < k0) → po.op.free x.op = true := fun hqj m x hx hqx hm => by
      have hmj : m ≠ j := fun e => by subst e; rw [hpo] at hx; cases hx; rw [hqj] at hqx; cases hqx
      have third : (x.apart po = true ∨ po.apart x = true) → po.op.free x.op = true := fun h => by
        rcases h with h | h <;> simp only [PO.apart, hqx, hqj, Bool.false_and, Bool.true_and, Bool.false_or, Bool.or_false, Bool.and_eq_true] at h <;> exact h.2
      rcases hm with ⟨h1, h2⟩ | ⟨h1, h2⟩
      · rcases hpair m j x po h2 hx hpo with h | h
        · exact third (.inl h)
        · have := (hpre m x hx hqx).2 (up m h)
          omega
      · rcases hpair j m po x (by omega) hpo hx with h | h
        · exact third (.inr h)
        · have := (hpre m x hx hqx).1 h2
          rw [down m h] at this
          cases this
    obtain ⟨k1, k2⟩ := trace_get ht hE0 j (by omega)
    -- what the operation looks at is as in the text's order
    have hread : ∀ t ∈ po.reads, t < e.length → curV pl V e (fun i => listed.getD i false) t = get (E j) t := by
      intro t htr htl
      rw [k2 t htl, ← lastw_lt pl.length j t (by omega)]
      unfold curV
      rw [lastw_congr (f' := fun i => decide (i < j)) pl.length t fun i hi hd => ?_]
      have hx : pl[i]? = some pl[i] := List.getElem?_eq_getElem hi
      rw [hx] at hd
      simp only [Option.bind_some] at hd
      by_cases hij : i = j
      · subst hij
        simp only [hun']
        simp
      · have := near i pl[i] hx hij (fun _ => by simp [PO.apart, hd, htr]) (fun _ => by simp [PO.apart, hd, htr])
        rw [Bool.eq_iff_iff, this]
        simp
    let em : Env := (List.range e.length).map fun t => if t ∈ po.reads then get (E j) t else .top
    have hem : ∀ t ∈ po.reads, get em t = get (E j) t := fun t htr => by
      by_cases htl : t < e.length
      · simp [em, get, htl, htr]
      · have h1 : em[t]? = none := List.getElem?_eq_none (by simp [em]; omega)
        have h2 : (E j)[t]? = none := List.getElem?_eq_none (by omega)
        simp [get, h1, h2]
    have hsim : Sim w g σ a em := by
      refine ⟨by simp [em, M.tsize], fun t v p hv hp => ?_⟩
      have htl : t < e.length := by have := (List.getElem?_eq_some_iff.1 hp).1; simpa [em] using this
      simp only [em, List.getElem?_map, List.getElem?_range htl, Option.map_some, Option.some.injEq] at hp
      split at hp
      · rename_i htr
        rw [← hp, ← hread t htr htl]
        exact M.tmp t v (by simpa using hv)
      · rw [← hp]; exact .top _
    have hwant : wantP em po.guard = wantP (E j) po.guard := by
      unfold wantP
      split
      · rfl
      · rename_i t b hg
        rw [hem t (by simp [PO.reads, hg])]
    -- the state behind it
    have hcnt' : (List.range ops.size).countP (fun i => !(listed.setIfInBounds j true).getD i true) = fuel := by
      have := count_set (p := fun i => !listed.getD i true) (p' := fun i => !(listed.setIfInBounds j true).getD i true) (j := j) (by simp [hun]) (by simp [M.size, hlt]) (fun i hi => by show (!_) = (!_); rw [getD_set_ne true (Ne.symm hi)]) ops.size hlt
      omega
    have hset : ∀ i, i ≠ j → (listed.setIfInBounds j true).getD i false = listed.getD i false := fun i hi => getD_set_ne false (Ne.symm hi)
    have hsetj : (listed.setIfInBounds j true).getD j false = true := by simp [M.size, hlt]
    have after : ∀ (v : Value) (w' : World) (g' : Gh) (σ1 : Heap), Prog base w g σ w' g' σ1 → Rep w' g' σ1 v (V j) → (po.op.quiet = true → σ1 = σ) → (po.op.quiet = false → σ1 = S (j + 1)) →
        wpAny P .any ops Q fuel (listed.setIfInBounds j true) (a.put o.dst v) w' := by
      intro v w' g' σ1 hp hr hq hnq
      refine ih _ _ w' g' σ1 hcnt' ⟨by simp [M.size], fun i oi hoi hli ed hed' hb => ?_, ?_, M.prog.trans hp, fun k hk hall => ?_, ?_, fun t u hu => ?_⟩
      · by_cases hij : i = j
        · subst hij
          rw [ho] at hoi
          cases hoi
          exact getD_set_true (hed ed hed' hb)
        · rw [hset i hij] at hli
          exact getD_set_true (M.closed i oi hoi hli ed hed' hb)
      · rw [← M.defers]
        unfold Act.put
        split <;> rfl
      · -- the abstract heap
        cases hqj : po.op.quiet with
        | true =>
          rw [hq hqj]
          refine M.sig k hk fun i x hx hqx => ?_
          have hij : i ≠ j := fun e => by subst e; rw [hpo] at hx; cases hx; rw [hqj] at hqx; cases hqx
          rw [hall i x hx hqx, hset i hij]
        | false =>
          rw [hnq hqj]
          have hjk : j < k := (hall j po hpo hqj).2 hsetj
          have chain : ∀ d, j + 1 + d ≤ k → S (j + 1 + d) = S (j + 1) := by
            intro d
            induction d with
            | zero => exact fun _ => rfl
            | succ d ihm =>
              intro hmk
              have hx : pl[j + 1 + d]? = some pl[j + 1 + d] := List.getElem?_eq_getElem (by omega)
              have hqm : (pl[j + 1 + d]).op.quiet = true := by
                cases hqm : (pl[j + 1 + d]).op.quiet with
                | true => rfl
                | false =>
                  exfalso
                  have h1 := (hall (j + 1 + d) _ hx hqm).1 (by omega)
                  rw [hset (j + 1 + d) (by omega)] at h1
                  rcases hpair j (j + 1 + d) po _ (by omega) hpo hx with h | h
                  · simp [PO.apart, hqj, hqm] at h
                  · rw [down (j + 1 + d) h] at h1; cases h1
              rw [← ihm (by omega)]
              rcases (ht.step (j + 1 + d) _ hx).2 with ⟨_, h⟩ | ⟨_, _, h⟩
              · exact quiet_same hqm h
              · exact h
          have hc := chain (k - (j + 1)) (by omega)
          rw [show j + 1 + (k - (j + 1)) = k by omega] at hc
          exact hc.symm
      · unfold Act.put
        split <;> simp [M.tsize]
      · -- the temporaries
        have hdst := hIj.dst
        by_cases hd : o.dst = some t
        · have hut : u = v := by
            rw [hd] at hu
            simp only [Act.put, Array.getElem?_setIfInBounds] at hu
            simp only [if_true] at hu
            split at hu
            · cases hu; rfl
            · cases hu
          subst hut
          have hdpo : (pl[j]?).bind (·.dst) = some t := by rw [hpo]; simp [hdst, hd]
          unfold curV
          rw [lastw_new pl.length t j (by omega) hsetj hdpo fun i h1 h2 h3 => ?_]
          · exact hr
          · have hx : pl[i]? = some pl[i] := List.getElem?_eq_getElem h2
            rw [hx] at h3
            simp only [Option.bind_some] at h3
            rw [hset i (by omega)]
            rcases hpair j i po _ h1 hpo hx with h | h
            · simp [PO.apart, hdst, hd, h3] at h
            · exact down i h
        · have hu' : a.tmps[t]? = some u := by
            cases hod : o.dst with
            | none => rw [hod] at hu; exact hu
            | some d =>
              rw [hod] at hu hd
              simp only [Act.put] at hu
              rw [Array.getElem?_setIfInBounds_ne (fun e => hd (by rw [e]))] at hu
              exact hu
          have := (M.tmp t u hu').mono hp.ext
          unfold curV at this ⊢
          rw [lastw_congr (f' := fun i => listed.getD i false) pl.length t fun i hi h3 => ?_]
          · exact this
          · refine hset i fun e => ?_
            subst e
            rw [hpo] at h3
            simp only [Option.bind_some, hdst] at h3
            exact hd h3
    unfold wpOp
    simp only [ho]
    rcases (ht.step j po hpo).2 with ⟨hw, hop⟩ | ⟨hw, hv, hs⟩
    · rw [want_ok hIj hsim (hwant.trans hw)]
      simp only [if_true]
      have hop' : evOp C H em (S j) po.op = some (V j, S (j + 1)) := by
        rw [← hop]
        exact evOp_congr (S j) po.op fun t htm => hem t (by simp [PO.reads, htm])
      cases hqj : po.op.quiet with
      | false =>
        have e1 := hσn hqj
        rw [← e1] at hop'
        exact .inl (op_ok SH M.prog.inv hsim hIj.op hop' fun v w' g' hp hr => after v w' g' _ hp hr (fun h => by rw [hqj] at h; cases h) fun _ => rfl)
      | true =>
        have e2 : S (j + 1) = S j := quiet_same hqj hop
        rw [e2] at hop'
        have hop'' : evOp C H em σ po.op = some (V j, σ) := by
          rw [hσk]
          by_cases hq0 : po.op.blind = true ∨ po.op.csts = true
          · rcases Nat.le_total k0 j with hkj | hkj
            · have hb := between_of ht hq0 (fun m x hx hqx h1 h2 => hfree hqj m x hx hqx (.inl ⟨h1, h2⟩)) hkj (by omega)
              by_cases hbl : po.op.blind = true
              · exact comm_blind hbl hop'
              · refine comm_bwd hqj hb (fun x hx => ?_) hop'
                have hcs : po.op.csts = true := hq0.resolve_left hbl
                simp only [POp.csts, List.all_eq_true] at hcs
                have hc := hcs x hx
                cases x with
                | cst v => exact pure_inH _ hc
                | fn f => rfl
                | tmp t =>
                  show (get em t).inH _ = true
                  by_cases htl : t < a.tmps.size
                  · have hl : em.length = a.tmps.size := by simp [em, M.tsize]
                    have := hsim.2 t a.tmps[t] (get em t) (by simp [htl]) (by simp [get, hl, htl])
                    rw [← hσk]
                    exact rep_inH this
                  · have : em[t]? = none := List.getElem?_eq_none (by simp [em, ← M.tsize]; omega)
                    simp [get, this, PV.inH]
            · have hb := between_of ht hq0 (fun m x hx hqx h1 h2 => hfree hqj m x hx hqx (.inr ⟨h1, h2⟩)) hkj hk0
              exact comm_fwd hqj hb hop'
          · have none_between : ∀ (m : Nat) x, pl[m]? = some x → x.op.quiet = false → (k0 ≤ m ∧ m < j) ∨ (j ≤ m ∧ m < k0) → False := fun m x hx hqx hm => by
              have := hfree hqj m x hx hqx hm
              simp only [POp.free, hqx, Bool.false_or, Bool.or_eq_true, Bool.and_eq_true] at this
              exact hq0 (this.imp_right (·.1))
            have e3 : S k0 = S j := by
              rcases Nat.le_total k0 j with hkj | hkj
              · exact same_of ht (fun m x hx hqx h1 h2 => none_between m x hx hqx (.inl ⟨h1, h2⟩)) hkj (by omega)
              · exact (same_of ht (fun m x hx hqx h1 h2 => none_between m x hx hqx (.inr ⟨h1, h2⟩)) hkj hk0).symm
            rw [e3]
            exact hop'
        exact .inl (op_ok SH M.prog.inv hsim hIj.op hop'' fun v w' g' hp hr => after v w' g' _ hp hr (fun _ => rfl) fun h => by rw [hqj] at h; cases h)
    · rw [want_ok hIj hsim (hwant.trans hw)]
      simp only [Bool.false_eq_true, if_false]
      exact after undef w g σ (Prog.refl M.prog.inv) (by rw [hv]; exact Rep.und _ _ _) (fun _ => rfl) fun h => by rw [hs]; exact hσn h

end
end Go.PE
