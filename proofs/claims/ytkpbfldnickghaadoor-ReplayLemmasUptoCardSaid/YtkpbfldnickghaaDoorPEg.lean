/- The operations, fifth part: append, make, maps. -/
import Derived.Test.YtkpbfldnickghaaDoorPEf
set_option linter.unusedVariables false
set_option linter.unusedSimpArgs false
set_option linter.unusedSectionVars false
namespace Go.PE
variable [Globs]
open Go.RowKit (Below)
section
variable {P : Program} {base : Nat} {w : World} {g : Gh} {σ : Heap} {a : Act} {e : Env} {o : Oper}

theorem ones_of {vs : List Value} {rows : List (List PV)} (hr : RepL w g σ vs rows.flatten) {st : Nat} (h : rows.all (fun r => r.length == st && r.all PV.scalar) = true) : (∀ u ∈ vs, u.oneCell' = true) ∧ ∀ r ∈ rows, r.length = st := by
  rw [List.all_eq_true] at h
  refine ⟨fun u hu => ?_, fun r hr => by have := h r hr; simp only [Bool.and_eq_true, beq_iff_eq] at this; exact this.1⟩
  obtain ⟨j, hj⟩ := List.getElem?_of_mem hu
  have hlt : j < rows.flatten.length := by rw [← hr.1]; exact (List.getElem?_eq_some_iff.1 hj).1
  refine (hr.2 j u _ hj (List.getElem?_eq_getElem hlt)).one ?_
  obtain ⟨r, hr1, hr2⟩ := List.mem_flatten.1 (List.getElem_mem hlt)
  have := h r hr1
  simp only [Bool.and_eq_true, List.all_eq_true] at this
  exact this.2 _ hr2

theorem run_append_none {t ty el : TypeId} {i : TypeInfo} (ht : P.underlying t = some (.slice el)) (hi : P.info? el = some i) (B : Option Addr) (n cap : Nat) (A : Option Addr) (c : Nat) (h : n ≤ cap) :
    (Builtin.append_ #[t, t] ty #[.slice B n cap, .slice A 0 c]).run P w = .ok (.slice B n cap) w := by
  cases A <;> cases B <;> simp [Builtin.append_, run_underlying ht, sizeOf, typeInfo, hi, Builtin.lenOf, h, Builtin.firstCells, loadCells, loadCellsFrom, storeCells]

theorem take_of {vals : List Value} {c : Array Value} (h : c.toList.take vals.length = vals) : ∀ (j : Nat) u, vals[j]? = some u → c[j]? = some u := fun j u hu => by
  rw [← h, List.getElem?_take] at hu
  split at hu
  · rw [Array.getElem?_toList] at hu; exact hu
  · cases hu

theorem cell_new (w : World) {c : Array Value} (ty : TypeId) {off : Nat} {u : Value} (h : c[off]? = some u) : (w.alloc (.cells c ty)).cell? ⟨w.heap.size, off, none⟩ = some u := by
  simp only [World.cell?]
  rw [heap_alloc_new]
  simpa using h

/-- A new log. -/
theorem op_newlog (hi : Inv base w g σ) (ty : TypeId) {rows : List (List PV)} {st : Nat} {vals : List Value} (hr : RepL w g σ vals rows.flatten) (hst : ∀ r ∈ rows, r.length = st) (hp : pureLL rows = true) {cap : Nat} (hcap : rows.length ≤ cap) (hmax : cap ≤ maxLen)
    {c : Array Value} (hc : c.size = cap * st) (htake : ∀ (j : Nat) u, vals[j]? = some u → c[j]? = some u) :
    ∃ g', Prog base w g σ (w.alloc (.cells c ty)) g' (σ ++ [.log ty st rows]) ∧ Rep (w.alloc (.cells c ty)) g' (σ ++ [.log ty st rows]) (.slice (some ⟨w.heap.size, 0, none⟩) rows.length cap) (.own σ.length st rows.length) := by
  have hfl := flat_length hst
  have hvl : vals.length = rows.length * st := by rw [hr.1, hfl]
  obtain ⟨g', h1, h2, h3, h4⟩ := hi.push (.cells c ty) (.log ty st rows) cap (fun ad => ad.block = w.heap.size ∧ ad.spot = none ∧ ad.off < rows.length * st)
    (fun ad h => by
      obtain ⟨e1, e2, e3⟩ := h
      obtain ⟨b, off, sp⟩ := ad
      cases e1
      cases e2
      exact ⟨rfl, vals[off]'(by simp only at e3; omega), cell_new w ty (htake off _ (List.getElem?_eq_getElem _))⟩)
    fun g' hpr hl hcp hx => by
      refine ⟨by rw [hl]; exact hi.size, ⟨c, by rw [hl]; exact heap_alloc_new w _, by rw [hcp]; exact hc, fun j i r p k1 k2 => ?_⟩, by rw [hcp]; exact hcap, by rw [hcp]; exact hmax, hst, hp, fun ad ha he => ?_⟩
      · have k3 := flat_get hst k1 k2
        obtain ⟨v, hv, hrep⟩ := hr.get k3
        refine ⟨v, htake _ v hv, hrep.mono hx, ?_⟩
        rw [hl]
        refine (hpr _).2 (.inr ⟨rfl, rfl, ?_⟩)
        have := (List.getElem?_eq_some_iff.1 hv).1
        simp only
        omega
      · rw [hl] at he
        rcases (hpr ad).1 ha with h | h
        · obtain ⟨v, hv⟩ := hi.prot ad h
          have := block_lt hv
          omega
        · exact h.2.2
  refine ⟨g', h1, .own _ _ _ _ ⟨⟨_, _, rfl⟩, ?_⟩⟩
  simp only [List.getElem?_concat_length]
  intro _
  exact ⟨Nat.le_refl _, fun _ => by rw [h2, h3]⟩

/-- A log that has moved to a new block. -/
theorem op_movelog (hi : Inv base w g σ) {ty : TypeId} {id st : Nat} {old rows : List (List PV)} (ho : σ[id]? = some (.log ty st old)) (hlt : old.length < rows.length) {vals : List Value} (hr : RepL w g σ vals rows.flatten) (hst : ∀ r ∈ rows, r.length = st) (hp : pureLL rows = true)
    {cap : Nat} (hcap : rows.length ≤ cap) (hmax : cap ≤ maxLen) {c : Array Value} (hc : c.size = cap * st) (htake : ∀ (j : Nat) u, vals[j]? = some u → c[j]? = some u) :
    ∃ g', Prog base w g σ (w.alloc (.cells c ty)) g' (σ.set id (.log ty st rows)) ∧ Rep (w.alloc (.cells c ty)) g' (σ.set id (.log ty st rows)) (.slice (some ⟨w.heap.size, 0, none⟩) rows.length cap) (.own id st rows.length) := by
  have hfl := flat_length hst
  have hvl : vals.length = rows.length * st := by rw [hr.1, hfl]
  have hid := (List.getElem?_eq_some_iff.1 ho).1
  have hb : Below w.heap.size w (w.alloc (.cells c ty)) := (Below.refl _ _).alloc (Nat.le_refl _) _
  have hcell : ∀ (j : Nat) u, vals[j]? = some u → (w.alloc (.cells c ty)).cell? ⟨w.heap.size, j, none⟩ = some u := fun j u hu => by
    simp only [World.cell?, heap_alloc_new]
    simpa using htake j u hu
  let g' : Gh := { prot := fun ad => g.prot ad ∨ (ad.block = w.heap.size ∧ ad.spot = none ∧ ad.off < rows.length * st), loc := fun k => if k = id then w.heap.size else g.loc k, cap := fun k => if k = id then cap else g.cap k }
  have hx : WExt w g σ (w.alloc (.cells c ty)) g' (σ.set id (.log ty st rows)) := by
    refine ⟨fun b v hp hc => ⟨.inl hp, by rw [hb.cell (block_lt hc)]; exact hc⟩, fun k ty' st' rs hk => ?_, fun k cs hk => ?_, fun k es hk => ?_⟩
    · by_cases hne : id = k
      · subst hne
        rw [ho] at hk
        cases hk
        exact ⟨rows, by simp [hid], by omega, fun h => by omega⟩
      · exact ⟨rs, by rw [List.getElem?_set_ne hne]; exact hk, Nat.le_refl _, fun _ => by simp [g', Ne.symm hne]⟩
    · have hne : id ≠ k := fun e => by subst e; rw [ho] at hk; cases hk
      exact ⟨cs, by rw [List.getElem?_set_ne hne]; exact hk, rfl, by simp [g', Ne.symm hne]⟩
    · have hne : id ≠ k := fun e => by subst e; rw [ho] at hk; cases hk
      exact ⟨es, by rw [List.getElem?_set_ne hne]; exact hk, by simp [g', Ne.symm hne]⟩
  have hlocs : ∀ k, k < σ.length → g.loc k < w.heap.size := fun k hk => (hi.obj k _ (List.getElem?_eq_getElem hk)).lt
  refine ⟨g', ⟨⟨by simp; have := hi.size; omega, fun ad ha => ?_, fun k ob hk => ?_, fun i j h1 h2 he => ?_, Globs.mono hi.glob (hb.mono hi.size).block⟩, hx, hb.mono hi.size, fun ad ha hl => ?_, fun b hlt hn => ⟨hb.block b hlt, fun k hk => by
      simp only [g']
      split
      · omega
      · exact hn k (by simpa using hk), fun ad ha hp => by
      rcases hp with hp | hp
      · exact hp
      · have := hp.1; omega⟩⟩, .own _ _ _ _ ⟨⟨_, _, rfl⟩, ?_⟩⟩
  · rcases ha with ha | ⟨e1, e2, e3⟩
    · obtain ⟨v, hv⟩ := hi.prot ad ha
      exact ⟨v, by rw [hb.cell (block_lt hv)]; exact hv⟩
    · obtain ⟨b, off, sp⟩ := ad
      cases e1
      cases e2
      exact ⟨_, hcell off _ (List.getElem?_eq_getElem (by simp only at e3; omega))⟩
  · by_cases hne : id = k
    · subst hne
      have : ob = .log ty st rows := by simpa [hid] using hk.symm
      subst this
      have hl : g'.loc id = w.heap.size := by simp [g']
      have hcp : g'.cap id = cap := by simp [g']
      refine ⟨by rw [hl]; exact hi.size, ⟨c, by rw [hl]; exact heap_alloc_new w _, by rw [hcp]; exact hc, fun j i r p k1 k2 => ?_⟩, by rw [hcp]; exact hcap, by rw [hcp]; exact hmax, hst, hp, fun ad ha he => ?_⟩
      · have k3 := flat_get hst k1 k2
        obtain ⟨v, hv, hrep⟩ := hr.get k3
        refine ⟨v, htake _ v hv, hrep.mono hx, ?_⟩
        rw [hl]
        refine .inr ⟨rfl, rfl, ?_⟩
        have := (List.getElem?_eq_some_iff.1 hv).1
        simp only
        omega
      · rw [hl] at he
        rcases ha with h | h
        · obtain ⟨v, hv⟩ := hi.prot ad h
          have := block_lt hv
          omega
        · exact h.2.2
    · rw [List.getElem?_set_ne hne] at hk
      have hk' := hi.obj k ob hk
      have e1 : g'.loc k = g.loc k := by simp [g', Ne.symm hne]
      have e2 : g'.cap k = g.cap k := by simp [g', Ne.symm hne]
      refine hk'.mono hx e1 e2 (hb.block _ hk'.lt) fun ad ha he => ?_
      rcases ha with h | h
      · exact h
      · have := h.1
        have := hk'.lt
        omega
  · simp only [List.length_set] at h1 h2
    simp only [g'] at he
    split at he
    · split at he
      · omega
      · have := hlocs j h2; omega
    · split at he
      · have := hlocs i h1; omega
      · exact hi.inj i j h1 h2 he
  · rcases ha with ha | ha
    · exact ha
    · have := ha.1
      have := hi.size
      omega
  · have e0 : (σ.set id (Obj.log ty st rows))[id]? = some (.log ty st rows) := by simp [hid]
    rw [e0]
    intro _
    exact ⟨Nat.le_refl _, fun _ => by simp [g']⟩

/-- A log that has grown in its block. -/
theorem op_growlog (hi : Inv base w g σ) {ty : TypeId} {id st : Nat} {old rows : List (List PV)} (ho : σ[id]? = some (.log ty st old)) (hlt : old.length < rows.length) (hpre : ∀ j : Nat, j < old.length → rows[j]? = old[j]?) {c c' : Array Value} (hh : w.heap[g.loc id]? = some (.cells c ty (0, 0)))
    {vals : List Value} (hr : RepL w g σ vals rows.flatten) (hst : ∀ r ∈ rows, r.length = st) (hp : pureLL rows = true)
    (hcap : rows.length ≤ g.cap id) (hc : c'.size = c.size) (htake : ∀ (j : Nat) u, vals[j]? = some u → c'[j]? = some u) (hsame : ∀ j : Nat, j < old.length * st → c'[j]? = c[j]?) :
    ∃ g', Prog base w g σ (w.setRow (g.loc id) c') g' (σ.set id (.log ty st rows)) ∧ Rep (w.setRow (g.loc id) c') g' (σ.set id (.log ty st rows)) (.slice (some ⟨g.loc id, 0, none⟩) rows.length (g.cap id)) (.own id st rows.length) := by
  have hfl := flat_length hst
  have hvl : vals.length = rows.length * st := by rw [hr.1, hfl]
  have hid := (List.getElem?_eq_some_iff.1 ho).1
  have hob := hi.obj id _ ho
  obtain ⟨q1, ⟨c0, q2, q3, q4⟩, q5, q6, q7, q8, q9⟩ := hob
  rw [hh] at q2
  cases q2
  have hrow := setRow_heap w (g.loc id) c c' ty (0, 0) hh
  have hcell : ∀ (j : Nat) u, vals[j]? = some u → (w.setRow (g.loc id) c').cell? ⟨g.loc id, j, none⟩ = some u := fun j u hu => by
    simp only [World.cell?, hrow]
    simpa using htake j u hu
  let g' : Gh := { g with prot := fun ad => g.prot ad ∨ (ad.block = g.loc id ∧ ad.spot = none ∧ ad.off < rows.length * st) }
  have hkeep : ∀ b v, g.prot b → w.cell? b = some v → (w.setRow (g.loc id) c').cell? b = some v := fun b v hb hcb => by
    by_cases hbl : b.block = g.loc id
    · have hoff := q9 b hb hbl
      rw [← hcb]
      obtain ⟨bb, off, sp⟩ := b
      simp only at hbl hoff
      subst hbl
      simp only [World.cell?, hrow, hh]
      rw [hsame off hoff]
    · rw [← hcb]
      exact World.cell?_of_block (setRow_other w (g.loc id) b.block c' hbl)
  have hx : WExt w g σ (w.setRow (g.loc id) c') g' (σ.set id (.log ty st rows)) := by
    refine ⟨fun b v hp hc => ⟨.inl hp, hkeep b v hp hc⟩, fun k ty' st' rs hk => ?_, fun k cs hk => ?_, fun k es hk => ?_⟩
    · by_cases hne : id = k
      · subst hne
        rw [ho] at hk
        cases hk
        exact ⟨rows, by simp [hid], by omega, fun h => by omega⟩
      · exact ⟨rs, by rw [List.getElem?_set_ne hne]; exact hk, Nat.le_refl _, fun _ => ⟨rfl, rfl⟩⟩
    · have hne : id ≠ k := fun e => by subst e; rw [ho] at hk; cases hk
      exact ⟨cs, by rw [List.getElem?_set_ne hne]; exact hk, rfl, rfl⟩
    · have hne : id ≠ k := fun e => by subst e; rw [ho] at hk; cases hk
      exact ⟨es, by rw [List.getElem?_set_ne hne]; exact hk, rfl⟩
  refine ⟨g', ⟨⟨by simpa using hi.size, fun ad ha => ?_, fun k ob hk => ?_, fun i j h1 h2 => hi.inj i j (by simpa using h1) (by simpa using h2), Globs.mono hi.glob fun k hk => setRow_other w _ k c' (by omega)⟩, hx, ?_, fun ad ha hl => ?_, fun b hlt hn => ⟨setRow_other w _ b c' fun he => hn id hid he.symm, fun k hk => hn k (by simpa using hk), fun ad ha hp => by
      rcases hp with hp | hp
      · exact hp
      · exact absurd (hp.1.symm.trans ha) (hn id hid)⟩⟩, .own _ _ _ _ ⟨⟨_, _, rfl⟩, ?_⟩⟩
  · rcases ha with ha | ⟨e1, e2, e3⟩
    · obtain ⟨v, hv⟩ := hi.prot ad ha
      exact ⟨v, hkeep ad v ha hv⟩
    · obtain ⟨b, off, sp⟩ := ad
      cases e1
      cases e2
      exact ⟨_, hcell off _ (List.getElem?_eq_getElem (by simp only at e3; omega))⟩
  · by_cases hne : id = k
    · subst hne
      have : ob = .log ty st rows := by simpa [hid] using hk.symm
      subst this
      refine ⟨q1, ⟨c', hrow, by rw [hc]; exact q3, fun j i r p k1 k2 => ?_⟩, hcap, q6, hst, hp, fun ad ha he => ?_⟩
      · have k3 := flat_get hst k1 k2
        obtain ⟨v, hv, hrep⟩ := hr.get k3
        refine ⟨v, htake _ v hv, hrep.mono hx, .inr ⟨rfl, rfl, ?_⟩⟩
        have := (List.getElem?_eq_some_iff.1 hv).1
        simp only
        omega
      · rcases ha with h | h
        · have := q9 ad h he
          have := Nat.mul_le_mul_right st (Nat.le_of_lt hlt)
          omega
        · exact h.2.2
    · rw [List.getElem?_set_ne hne] at hk
      have hk' := hi.obj k ob hk
      have hlne : g.loc k ≠ g.loc id := fun he => hne (hi.inj id k hid ((List.getElem?_eq_some_iff.1 hk).1) he.symm)
      refine hk'.mono hx rfl rfl (setRow_other w (g.loc id) (g.loc k) c' hlne) fun ad ha he => ?_
      rcases ha with h | h
      · exact h
      · exact absurd (he.symm.trans h.1) hlne
  · exact ⟨rfl, rfl, rfl, by simp [World.setRow], fun k hk => setRow_other w _ k c' (by omega)⟩
  · rcases ha with ha | ha
    · exact ha
    · have := ha.1
      omega
  · have e0 : (σ.set id (Obj.log ty st rows))[id]? = some (.log ty st rows) := by simp [hid]
    rw [e0]
    intro _
    exact ⟨Nat.le_refl _, fun _ => rfl⟩

theorem zsize {z : Value} {i : TypeInfo} (hz : z.cells.size = i.size) (n m cap : Nat) (olds news : List Value) (h1 : olds.length = n * i.size) (h2 : news.length = m * i.size) (h : n + m ≤ cap) :
    (olds.toArray ++ news.toArray ++ Builtin.zeroCells z.cells (cap - (n + m))).size = cap * i.size := by
  simp only [Array.size_append, List.size_toArray, size_zeroCells, hz, h1, h2, ← Nat.add_mul]
  congr 1
  omega
theorem ztake (x : List Value) (y : Array Value) : ∀ (j : Nat) u, x[j]? = some u → (x.toArray ++ y)[j]? = some u := fun j u hu => by
  have hlt := (List.getElem?_eq_some_iff.1 hu).1
  rw [Array.getElem?_append_left (by simpa using hlt)]
  simpa using hu

theorem ztake2 (x x' : List Value) (y : Array Value) : ∀ (j : Nat) u, (x ++ x')[j]? = some u → (x.toArray ++ x'.toArray ++ y)[j]? = some u := by
  have e : x.toArray ++ x'.toArray = (x ++ x').toArray := by simp
  rw [e]
  exact ztake _ _

theorem op_append (hi : Inv base w g σ) (hs : Sim w g σ a e) {t ty el : TypeId} {i : TypeInfo} {z : Value} (ht : P.underlying t = some (.slice el)) (hinfo : P.info? el = some i) (hz : i.zero = some z) (hpos : 0 < i.size) (hzs : z.cells.size = i.size) (hb0 : 0 < i.bytes)
    {s x : Operand} {ps px : Opd} (hcs : cOpd s = some ps) (hcx : cOpd x = some px) {p : PV} {σ' : Heap} (h : appendP el i.size i.bytes σ (ps.ev e) (px.ev e) = some (p, σ')) :
    ValOK P base w g σ (Builtin.append_ #[t, t] ty #[a.eval s, a.eval x]) p σ' := by
  have hrs := ev_ok hs hcs
  have hrx := ev_ok hs hcx
  unfold appendP at h
  split at h
  · cases h
  · rename_i xs hxs
    obtain ⟨A, capx, x1, x2, x3, x4⟩ := (rowsOf_ok hi hrx hxs).ex
    split at h
    · rename_i hc
      obtain ⟨hpx, hall⟩ := hc
      have hnone : xs = [] → ∀ B n cap, a.eval s = .slice B n cap → n ≤ cap → (Builtin.append_ #[t, t] ty #[a.eval s, a.eval x]).run P w = .ok (a.eval s) w := fun he B n cap hes hle => by
        subst he
        rw [hes, x1]
        exact run_append_none ht hinfo B n cap A capx hle
      have hsome : xs ≠ [] → ∃ ad vs, A = some ad ∧ RepL w g σ vs xs.flatten ∧ (∀ (j : Nat) u, vs[j]? = some u → w.cell? (ad.add j) = some u) ∧ (∀ u ∈ vs, u.oneCell' = true) ∧ vs.length = xs.length * i.size := fun hne => by
        rcases x4 with ⟨_, h0, _⟩ | ⟨ad, vs, e1, e2, e3⟩
        · exact absurd h0 hne
        · exact ⟨ad, vs, e1, e2, fun j u hu => (e3 j u hu).1, (ones_of e2 hall).1, by rw [e2.1, flat_length x3]⟩
      have small : ∀ n : Nat, n * i.bytes ≤ 140737488355328 → n ≤ 140737488355328 := fun n hn => Nat.le_trans (Nat.le_mul_of_pos_right n hb0) hn
      have mx : ∀ n : Nat, n ≤ 140737488355328 → n ≤ maxLen := fun n hn => by unfold maxLen; omega
      have hdr := drew_prog hi
      split at h
      · -- nil
        rename_i hes
        rw [hes] at hrs
        have hnil := hrs.nils_inv
        split at h
        · rename_i hby
          by_cases he : xs = []
          · subst he
            simp only [List.isEmpty_nil, if_true, Option.some.injEq, Prod.mk.injEq] at h
            obtain ⟨rfl, rfl⟩ := h
            have := hnone rfl none 0 0 hnil (Nat.le_refl _)
            exact .pure_ hi this (by rw [hnil]; exact .nils)
          · have he' : xs.isEmpty = false := by simpa using he
            rw [he'] at h
            simp only [Bool.false_eq_true, if_false, Option.some.injEq, Prod.mk.injEq] at h
            obtain ⟨rfl, rfl⟩ := h
            obtain ⟨ad, vs, rfl, e2, e3, e4, e5⟩ := hsome he
            have hx0 : 0 < xs.length := List.length_pos_iff.2 he
            have hsm := small _ hby
            have hrun := run_append_nil (P := P) w t ty el i z ht hinfo hz ad xs.length capx vs e5 e3 hx0 (by omega) (by omega)
            have hge := grownCap_ge w xs.length 0 el
            have hmx := grownCap_le_maxLen w xs.length 0 el (mx _ hsm)
            obtain ⟨g', q1, q2⟩ := op_newlog hdr.inv el (e2.mono hdr.ext) x3 hpx hge hmx (c := vs.toArray ++ Builtin.zeroCells z.cells (grownCap w xs.length 0 el - xs.length))
              (by have := zsize hzs 0 xs.length (grownCap w xs.length 0 el) [] vs (by simp) e5 (by omega); simpa using this) (ztake _ _)
            exact ⟨_, _, g', by rw [hnil, x1]; exact hrun, hdr.trans q1, q2⟩
        · cases h
      · -- a slice whose capacity is its length
        rename_i st' full rows hes
        rw [hes] at hrs
        split at h
        · rename_i hcc
          obtain ⟨rfl, rfl, hpr, hallr, hby⟩ := hcc
          obtain ⟨B, cap, s1, s2, s3, s4, s5⟩ := hrs.sl_inv
          have hcap := s3 rfl
          subst hcap
          by_cases he : xs = []
          · subst he
            simp only [List.isEmpty_nil, if_true, Option.some.injEq, Prod.mk.injEq] at h
            obtain ⟨rfl, rfl⟩ := h
            exact .pure_ hi (hnone rfl B _ _ s1 (Nat.le_refl _)) hrs
          · have he' : xs.isEmpty = false := by simpa using he
            rw [he'] at h
            simp only [Bool.false_eq_true, if_false, Option.some.injEq, Prod.mk.injEq] at h
            obtain ⟨rfl, rfl⟩ := h
            obtain ⟨ad, vs, rfl, e2, e3, e4, e5⟩ := hsome he
            have hx0 : 0 < xs.length := List.length_pos_iff.2 he
            have hsm := small _ hby
            have hst : ∀ r ∈ rows ++ xs, r.length = i.size := fun r hr => by
              rcases List.mem_append.1 hr with hr | hr
              · exact s4 r hr
              · exact x3 r hr
            have hpp : pureLL (rows ++ xs) = true := by rw [pureLL_append, hpr, hpx]; rfl
            have hge := grownCap_ge w (rows.length + xs.length) rows.length el
            have hmx := grownCap_le_maxLen w (rows.length + xs.length) rows.length el (mx _ hsm)
            rcases s5 with ⟨rfl, rfl, _⟩ | ⟨bd, us, rfl, u1, u2⟩
            · have hrun := run_append_nil (P := P) w t ty el i z ht hinfo hz ad xs.length capx vs e5 e3 hx0 (by simp at hsm; omega) (by simp at hby; omega)
              have hge := grownCap_ge w xs.length 0 el
              have hmx := grownCap_le_maxLen w xs.length 0 el (mx _ (by simpa using hsm))
              obtain ⟨g', q1, q2⟩ := op_newlog hdr.inv el (e2.mono hdr.ext) x3 hpx hge hmx (c := vs.toArray ++ Builtin.zeroCells z.cells (grownCap w xs.length 0 el - xs.length))
                (by have := zsize hzs 0 xs.length (grownCap w xs.length 0 el) [] vs (by simp) e5 (by omega); simpa using this) (ztake _ _)
              refine ⟨_, _, g', by rw [s1, x1]; exact hrun, hdr.trans ?_, ?_⟩
              · simpa using q1
              · simpa using q2
            · have hul : us.length = rows.length * i.size := by rw [u1.1, flat_length s4]
              have hrun := run_append_grow (P := P) w t ty el i z ht hinfo hz bd rows.length rows.length us hul (fun j u hu => (u2 j u hu).1) ad xs.length capx vs e5 e3 (by omega) (by omega) (growslice_fits (by omega) hby)
              obtain ⟨g', q1, q2⟩ := op_newlog hdr.inv el (vals := us ++ vs) (rows := rows ++ xs) (by rw [List.flatten_append]; exact (u1.append e2).mono hdr.ext) hst hpp (cap := grownCap w (rows.length + xs.length) rows.length el) (by rw [List.length_append]; exact hge) hmx
                (c := us.toArray ++ vs.toArray ++ Builtin.zeroCells z.cells (grownCap w (rows.length + xs.length) rows.length el - (rows.length + xs.length)))
                (zsize hzs _ _ _ us vs hul e5 hge) (ztake2 _ _ _)
              rw [List.length_append] at q2
              exact ⟨_, _, g', by rw [s1, x1]; exact hrun, hdr.trans q1, q2⟩
        · cases h
      · -- a log
        rename_i id st' n hes
        rw [hes] at hrs
        have hown := hrs.own_inv
        split at h
        · rename_i ty'' st'' rows hob
          split at h
          · rename_i hcc
            obtain ⟨rfl, rfl, rfl, rfl, hby⟩ := hcc
            unfold OwnOK at hown
            rw [hob] at hown
            have hv := (hown.2 rfl).2 rfl
            simp only [Option.some.injEq, Prod.mk.injEq] at h
            obtain ⟨rfl, rfl⟩ := h
            obtain ⟨q1, ⟨c, q2, q3, q4⟩, q5, q6, q7, q8, q9⟩ := hi.obj id _ hob
            have hid := (List.getElem?_eq_some_iff.1 hob).1
            by_cases he : xs = []
            · subst he
              have e1 : σ.set id (Obj.log ty'' i.size (rows ++ [])) = σ := by
                rw [List.append_nil]
                apply List.ext_getElem?
                intro k
                by_cases hk : id = k
                · subst hk; rw [hob]; simp [hid]
                · rw [List.getElem?_set_ne hk]
              rw [e1]
              exact .pure_ hi (hnone rfl _ _ _ hv q5) (by simpa using hrs)
            · obtain ⟨ad, vs, rfl, e2, e3, e4, e5⟩ := hsome he
              have hx0 : 0 < xs.length := List.length_pos_iff.2 he
              have hsm := small _ hby
              have hst : ∀ r ∈ rows ++ xs, r.length = i.size := fun r hr => by
                rcases List.mem_append.1 hr with hr | hr
                · exact q7 r hr
                · exact x3 r hr
              have hpp : pureLL (rows ++ xs) = true := by rw [pureLL_append, q8, hpx]; rfl
              have hR := (rowsP_ok hi hrs (st := i.size) (rows := rows) (by simp [rowsP, hob])).ex
              obtain ⟨B, cap', r1, r2, r3, r4⟩ := hR
              have hul0 : ∃ us, RepL w g σ us rows.flatten ∧ us = c.toList.take (rows.length * i.size) := by
                refine ⟨_, ⟨?_, fun k v p hv hp => ?_⟩, rfl⟩
                · have e1 := flat_length q7
                  have e2 : c.toList.length = g.cap id * i.size := by simpa using q3
                  have := Nat.mul_le_mul_right i.size q5
                  rw [List.length_take]
                  omega
                · obtain ⟨j, k', r, rfl, hlt, f1, f2⟩ := flat_at q7 hp
                  obtain ⟨u, k1, k2, k3⟩ := q4 j k' r p f1 f2
                  rw [List.getElem?_take] at hv
                  split at hv
                  · rw [Array.getElem?_toList, k1] at hv
                    cases hv
                    exact k2
                  · cases hv
              obtain ⟨us, u1, hus⟩ := hul0
              have hul : us.length = rows.length * i.size := by rw [u1.1, flat_length q7]
              have hucell : ∀ (j : Nat) u, us[j]? = some u → w.cell? ((⟨g.loc id, 0, none⟩ : Addr).add j) = some u := fun j u hu => by
                rw [hus, List.getElem?_take] at hu
                split at hu
                · rw [Array.getElem?_toList] at hu
                  rw [add_lit']
                  simp [World.cell?, q2, hu]
                · cases hu
              by_cases hroom : rows.length + xs.length ≤ g.cap id
              · have hfit : rows.length * i.size + vs.length ≤ c.size := by rw [e5, q3, ← Nat.add_mul]; exact Nat.mul_le_mul_right _ hroom
                have hrun := run_append_room (P := P) w t ty ty'' i ht hinfo (g.loc id) rows.length (g.cap id) c q2 ad xs.length capx vs e5 e3 e4 hroom hfit
                obtain ⟨g', p1, p2⟩ := op_growlog hi hob (rows := rows ++ xs) (by rw [List.length_append]; omega) (fun j hj => List.getElem?_append_left hj) q2 (vals := us ++ vs) (by rw [List.flatten_append]; exact u1.append e2) hst hpp (by rw [List.length_append]; exact hroom)
                  (c' := (c.toList.take (rows.length * i.size) ++ vs ++ c.toList.drop (rows.length * i.size + vs.length)).toArray)
                  (by simp only [List.size_toArray, List.length_append, List.length_take, List.length_drop, Array.length_toList]; omega)
                  (fun j u hu => by
                    rw [List.getElem?_toArray, ← hus]
                    rw [List.getElem?_append_left (by have := (List.getElem?_eq_some_iff.1 hu).1; exact this)]
                    exact hu)
                  (fun j hj => by
                    have hcl : c.toList.length = c.size := by simp
                    rw [List.getElem?_toArray, List.append_assoc, List.getElem?_append_left (by rw [List.length_take]; omega), List.getElem?_take, if_pos hj, Array.getElem?_toList])
                rw [List.length_append] at p2
                exact ⟨_, _, g', by rw [hv, x1]; exact hrun, p1, p2⟩
              · have hge := grownCap_ge w (rows.length + xs.length) (g.cap id) ty''
                have hmx := grownCap_le_maxLen w (rows.length + xs.length) (g.cap id) ty'' (mx _ hsm)
                have hrun := run_append_grow (P := P) w t ty ty'' i z ht hinfo hz ⟨g.loc id, 0, none⟩ rows.length (g.cap id) us hul hucell ad xs.length capx vs e5 e3 (by omega) (by omega) (growslice_fits (by omega) hby)
                obtain ⟨g', p1, p2⟩ := op_movelog hdr.inv hob (rows := rows ++ xs) (by rw [List.length_append]; omega) (vals := us ++ vs) (by rw [List.flatten_append]; exact (u1.append e2).mono hdr.ext) hst hpp (cap := grownCap w (rows.length + xs.length) (g.cap id) ty'') (by rw [List.length_append]; exact hge) hmx
                  (c := us.toArray ++ vs.toArray ++ Builtin.zeroCells z.cells (grownCap w (rows.length + xs.length) (g.cap id) ty'' - (rows.length + xs.length)))
                  (zsize hzs _ _ _ us vs hul e5 hge) (ztake2 _ _ _)
                rw [List.length_append] at p2
                exact ⟨_, _, g', by rw [hv, x1]; exact hrun, hdr.trans p1, p2⟩
          · cases h
        · cases h
      · cases h
    · cases h

/-- 'append([]T(nil), xs...)': a copy. -/
theorem op_copy (hi : Inv base w g σ) (hs : Sim w g σ a e) {t ty el : TypeId} {i : TypeInfo} {z : Value} (ht : P.underlying t = some (.slice el)) (hinfo : P.info? el = some i) (hz : i.zero = some z) (hpos : 0 < i.size) (hzs : z.cells.size = i.size) (hb0 : 0 < i.bytes)
    {x : Operand} {px : Opd} (hcx : cOpd x = some px) {p : PV} {σ' : Heap} (h : evPrim e σ (.copy i.size i.bytes px) = some (p, σ')) :
    ValOK P base w g σ (Builtin.append_ #[t, t] ty #[.slice none 0 0, a.eval x]) p σ' := by
  have hrx := ev_ok hs hcx
  simp only [evPrim] at h
  split at h
  · rename_i xs hxs
    obtain ⟨A, capx, x1, x2, x3, x4⟩ := (rowsOf_ok hi hrx hxs).ex
    split at h
    · rename_i hc
      obtain ⟨hpx, hall, hby⟩ := hc
      by_cases he : xs = []
      · subst he
        simp only [List.isEmpty_nil, if_true, Option.some.injEq, Prod.mk.injEq] at h
        obtain ⟨rfl, rfl⟩ := h
        rw [x1]
        exact .pure_ hi (run_append_none ht hinfo none 0 0 A capx (Nat.le_refl _)) .nils
      · have he' : xs.isEmpty = false := by simpa using he
        rw [he'] at h
        simp only [Bool.false_eq_true, if_false, Option.some.injEq, Prod.mk.injEq] at h
        obtain ⟨rfl, rfl⟩ := h
        rcases x4 with ⟨_, h0, _⟩ | ⟨ad, vs, rfl, e2, e3⟩
        · exact absurd h0 he
        · have e5 : vs.length = xs.length * i.size := by rw [e2.1, flat_length x3]
          have hx0 : 0 < xs.length := List.length_pos_iff.2 he
          have hsm : xs.length ≤ 140737488355328 := Nat.le_trans (Nat.le_mul_of_pos_right _ hb0) hby
          have hdr := drew_prog hi
          have hrun := run_append_nil (P := P) w t ty el i z ht hinfo hz ad xs.length capx vs e5 (fun j u hu => (e3 j u hu).1) hx0 (by omega) (by omega)
          have hge := grownCap_ge w xs.length 0 el
          obtain ⟨g', q1, q2⟩ := op_newrow hdr.inv el (e2.mono hdr.ext) x3 hge false (fun h => by cases h) (c := vs.toArray ++ Builtin.zeroCells z.cells (grownCap w xs.length 0 el - xs.length)) (ztake _ _)
          exact ⟨_, _, g', by rw [x1]; exact hrun, hdr.trans q1, q2⟩
    · cases h
  · cases h
end
end Go.PE
