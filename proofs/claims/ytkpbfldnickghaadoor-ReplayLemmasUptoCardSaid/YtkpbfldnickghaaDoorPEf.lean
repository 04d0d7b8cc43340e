/- The operations, fourth part: building, appending, making. -/
import Derived.Test.YtkpbfldnickghaaDoorPEe
set_option linter.unusedVariables false
set_option linter.unusedSimpArgs false
set_option linter.unusedSectionVars false
namespace Go.PE
variable [Globs]
open Go.RowKit (Below)
section
variable {P : Program} {base : Nat} {w : World} {g : Gh} {σ : Heap} {a : Act} {e : Env} {o : Oper}

/-! ### Building -/
theorem fold_set (cs : Array Value) : ∀ (vs : List Value) (k : Nat) (off : Nat), off + k + vs.length ≤ cs.size →
    ((vs.zipIdx k).foldl (fun cs (p : Value × Nat) => cs.setIfInBounds (off + p.2) p.1) cs).toList = cs.toList.take (off + k) ++ vs ++ cs.toList.drop (off + k + vs.length)
  | [], k, off, _ => by simp
  | v :: vs, k, off, h => by
    simp only [List.zipIdx_cons, List.foldl_cons]
    have hl : (v :: vs).length = vs.length + 1 := rfl
    rw [hl] at h
    have ih := fold_set (cs.setIfInBounds (off + k) v) vs (k + 1) off (by simp; omega)
    rw [ih, Array.toList_setIfInBounds]
    have e := list_seg_step cs.toList (off + k) v vs (by simp; omega)
    simpa [Nat.add_assoc] using e
theorem fill_ok (hs : Sim w g σ a e) {place : Nat → Option (Nat × Nat)} : ∀ {parts : List (Nat × Operand)} {ps : List (Nat × Nat × Opd)} {cs : Array Value} {zs rs : List PV}, cParts place parts = some ps → RepL w g σ cs.toList zs → fillP e zs ps = some rs →
    ∃ cs', Instr.fill place cs (parts.map fun (i, x) => (i, a.eval x)) = some cs' ∧ RepL w g σ cs'.toList rs
  | [], ps, cs, zs, rs, h1, h2, h3 => by
    simp only [cParts, Option.some.injEq] at h1
    subst h1
    simp only [fillP, Option.some.injEq] at h3
    subst h3
    exact ⟨cs, rfl, h2⟩
  | (i, x) :: parts, ps, cs, zs, rs, h1, h2, h3 => by
    simp only [cParts] at h1
    split at h1
    · rename_i off sz p ps' k1 k2 k3
      cases h1
      simp only [fillP] at h3
      split at h3
      · rename_i ys hy
        split at h3
        · rename_i hc
          obtain ⟨c1, c2⟩ := hc
          have hv := (ev_ok hs k2).cells hy
          have hvs : (a.eval x).cells.size = sz := by have := hv.1; simp only [Array.length_toList] at this; omega
          have hcs : cs.size = zs.length := by have := h2.1; simpa using this
          have hf := fold_set cs (a.eval x).cells.toList 0 off (by simp only [Array.length_toList]; omega)
          simp only [Nat.add_zero, Array.length_toList, hvs] at hf
          obtain ⟨cs', e1, e2⟩ := fill_ok (cs := (((a.eval x).cells.toList.zipIdx).foldl (fun cs (p : Value × Nat) => cs.setIfInBounds (off + p.2) p.1) cs)) hs k3 (by rw [hf]; exact ((h2.take off).append hv).append (h2.drop _)) h3
          refine ⟨cs', ?_, e2⟩
          rw [← e1]
          simp only [List.map_cons, Instr.fill, k1]
          rw [if_neg (by simp; omega)]
          congr 1
          rw [← Array.foldl_toList, Array.toList_zipIdx]
        · cases h3
      · cases h3
    · cases h1

theorem op_build (hi : Inv base w g σ) (hs : Sim w g σ a e) {t : TypeId} {parts : Array (Nat × Operand)} {pop : POp} (ho : o.op = .build t parts) (hc : compOp P o = some pop) {p : PV} {σ' : Heap} (h : evPrim e σ pop = some (p, σ')) :
    ValOK P base w g σ (Instr.build t (parts.map fun (i, x) => (i, a.eval x))) p σ' := by
  have hparts : (parts.map fun (i, x) => (i, a.eval x)).toList = parts.toList.map fun (i, x) => (i, a.eval x) := by simp
  have fin : ∀ {cs : Array Value} {rs : List PV}, P.built t (parts.toList.map fun (i, x) => (i, a.eval x)) = some cs → RepL w g σ cs.toList rs → ValOK P base w g σ (Instr.build t (parts.map fun (i, x) => (i, a.eval x))) (.agg rs) σ := fun h1 h2 =>
    .pure_ hi (run_build w t _ _ (by rw [hparts]; exact h1)) h2.agg
  unfold compOp at hc
  simp only [ho] at hc
  split at hc
  · rename_i i fields k1 k2
    split at hc
    · rename_i z places k3 k4
      split at hc
      · rename_i zs ps k5 k6
        cases hc
        simp only [evPrim, Option.map_eq_some_iff] at h
        obtain ⟨rs, hr, hp⟩ := h
        cases hp
        obtain ⟨cs', e1, e2⟩ := fill_ok (cs := z.cells) hs k6 (pvConsts_rep k5) hr
        exact fin (by simp only [Program.built, k1, k2, k3, k4]; exact e1) e2
      · cases hc
    · cases hc
  · rename_i i n el k1 k2
    split at hc
    · rename_i z ie k3 k4
      split at hc
      · rename_i zs ps k5 k6
        cases hc
        simp only [evPrim, Option.map_eq_some_iff] at h
        obtain ⟨rs, hr, hp⟩ := h
        cases hp
        obtain ⟨cs', e1, e2⟩ := fill_ok (cs := z.cells) hs k6 (pvConsts_rep k5) hr
        exact fin (by simp only [Program.built, k1, k2, k3, k4]; exact e1) e2
      · cases hc
    · cases hc
  · cases hc

theorem drew_prog (hi : Inv base w g σ) : Prog base w g σ w.drew g σ := by
  have hx : WExt w g σ w.drew g σ := ⟨fun _ _ h k => ⟨h, k⟩, fun _ _ _ rows h => ⟨rows, h, Nat.le_refl _, fun _ => ⟨rfl, rfl⟩⟩, fun _ c h => ⟨c, h, rfl, rfl⟩, fun _ es h => ⟨es, h, rfl⟩⟩
  exact ⟨⟨hi.size, hi.prot, fun id ob h => (hi.obj id ob h).mono hx rfl rfl rfl fun _ h _ => h, hi.inj, Globs.mono hi.glob fun _ _ => rfl⟩, hx, ⟨rfl, rfl, rfl, Nat.le_refl _, fun _ _ => rfl⟩, fun _ h _ => h, fun _ _ h => ⟨rfl, h, fun _ _ h => h⟩⟩

/-- A protected row that is new. -/
theorem op_newrow (hi : Inv base w g σ) (ty : TypeId) {rows : List (List PV)} {st : Nat} {vals : List Value} (hr : RepL w g σ vals rows.flatten) (hst : ∀ r ∈ rows, r.length = st) {cap : Nat} (hcap : rows.length ≤ cap) (full : Bool) (hfull : full = true → cap = rows.length)
    {c : Array Value} (htake : ∀ (j : Nat) u, vals[j]? = some u → c[j]? = some u) :
    ∃ g', Prog base w g σ (w.alloc (.cells c ty)) g' σ ∧ Rep (w.alloc (.cells c ty)) g' σ (.slice (some ⟨w.heap.size, 0, none⟩) rows.length cap) (.sl st full rows) := by
  have hb : Below w.heap.size w (w.alloc (.cells c ty)) := (Below.refl _ _).alloc (Nat.le_refl _) _
  have hcell : ∀ (j : Nat) u, vals[j]? = some u → (w.alloc (.cells c ty)).cell? ⟨w.heap.size, j, none⟩ = some u := fun j u hu => by
    simp only [World.cell?, heap_alloc_new]
    simpa using htake j u hu
  have k := hi.grow (prot' := fun ad => g.prot ad ∨ (ad.block = w.heap.size ∧ ad.spot = none ∧ ad.off < vals.length)) hb (fun _ h => .inl h)
    (fun ad h hl => h.elim id fun h => by have := h.1; omega) (fun ad h => by
      rcases h with h | ⟨h1, h2, h3⟩
      · obtain ⟨v, hv⟩ := hi.prot ad h
        exact ⟨v, by rw [hb.cell (block_lt hv)]; exact hv⟩
      · obtain ⟨b, off, sp⟩ := ad
        cases h1
        cases h2
        exact ⟨_, hcell off _ (List.getElem?_eq_getElem h3)⟩)
  refine ⟨_, k, Rep.sl_of hcap hfull hst (hr.mono k.ext) fun j u hu => ?_⟩
  rw [add_lit']
  exact ⟨hcell j u hu, .inr ⟨rfl, rfl, (List.getElem?_eq_some_iff.1 hu).1⟩⟩

theorem fillR_ok (hi : Inv base w g σ) (hs : Sim w g σ a e) {st : Nat} (sh : List (Option Nat)) : ∀ {parts : List (Nat × Operand)} {ps : List (Nat × Opd)} {cs : Array Value} {zs rs : List (List PV)}, cPartsR parts = some ps → (∀ r ∈ zs, r.length = st) → RepL w g σ cs.toList zs.flatten → fillR σ e st sh zs ps = some rs →
    ∃ cs', Instr.fill (fun i => some (i * st, st)) cs (parts.map fun (i, x) => (i, a.eval x)) = some cs' ∧ RepL w g σ cs'.toList rs.flatten ∧ (∀ r ∈ rs, r.length = st) ∧ rs.length = zs.length
  | [], ps, cs, zs, rs, h1, hz, h2, h3 => by
    simp only [cPartsR, Option.some.injEq] at h1
    subst h1
    simp only [fillR, Option.some.injEq] at h3
    subst h3
    exact ⟨cs, rfl, h2, hz, rfl⟩
  | (i, x) :: parts, ps, cs, zs, rs, h1, hz, h2, h3 => by
    simp only [cPartsR] at h1
    split at h1
    · rename_i p ps' k2 k3
      cases h1
      simp only [fillR] at h3
      split at h3
      · rename_i ys hy
        split at h3
        · rename_i hc
          obtain ⟨c1, c2, c3⟩ := hc
          have hv := (canonV_ok (coeV_ok hi (ev_ok hs k2)) sh).cells hy
          have hvs : (a.eval x).cells.size = st := by have := hv.1; simp only [Array.length_toList] at this; omega
          have hzl := flat_length hz
          have hcs : cs.size = zs.length * st := by have := h2.1; rw [hzl] at this; simpa using this
          have hin : i * st + st ≤ zs.length * st := by rw [← Nat.succ_mul]; exact Nat.mul_le_mul_right _ c2
          have hf := fold_set cs (a.eval x).cells.toList 0 (i * st) (by simp only [Array.length_toList]; omega)
          simp only [Nat.add_zero, Array.length_toList, hvs] at hf
          have hz' : ∀ r ∈ zs.set i ys, r.length = st := fun r hr => by
            rcases List.mem_or_eq_of_mem_set hr with h | rfl
            · exact hz r h
            · exact c1
          have hflat : (zs.set i ys).flatten = zs.flatten.take (i * st) ++ ys ++ zs.flatten.drop (i * st + st) := by
            rw [List.set_eq_take_append_cons_drop, if_pos c2, List.flatten_append, List.flatten_cons, flat_take i hz, flat_drop (i + 1) hz, Nat.succ_mul, List.append_assoc]
          obtain ⟨cs', e1, e2, e3, e4⟩ := fillR_ok (cs := (((a.eval x).cells.toList.zipIdx).foldl (fun cs (p : Value × Nat) => cs.setIfInBounds (i * st + p.2) p.1) cs)) hi hs sh k3 hz' (by rw [hf, hflat]; exact ((h2.take _).append hv).append (h2.drop _)) h3
          refine ⟨cs', ?_, e2, e3, by rw [e4]; simp⟩
          rw [← e1]
          simp only [List.map_cons, Instr.fill]
          rw [if_neg (by simp; omega)]
          congr 1
          rw [← Array.foldl_toList, Array.toList_zipIdx]
        · cases h3
      · cases h3
    · cases h1

theorem rep_flat {zs : List PV} {z : Array Value} (h : RepL w g σ z.toList zs) : ∀ n : Nat, RepL w g σ (List.replicate n z.toList).flatten (List.replicate n zs).flatten
  | 0 => by simpa using RepL.nil w g σ
  | n + 1 => by
    rw [List.replicate_succ, List.replicate_succ, List.flatten_cons, List.flatten_cons]
    exact h.append (rep_flat h n)
theorem made_flat (z : Array Value) (n : Nat) (hz : 0 < z.size) : ((Array.range (n * z.size)).map (z[· % z.size]!)).toList = (List.replicate n z.toList).flatten := by
  induction n with
  | zero => simp
  | succ n ih =>
    rw [List.replicate_succ', List.flatten_append, List.flatten_singleton, ← ih]
    simp only [Array.toList_map, Array.toList_range]
    rw [Nat.succ_mul, List.range_add, List.map_append, List.map_map]
    congr 1
    apply List.ext_getElem?
    intro i
    rw [List.getElem?_map]
    by_cases hi : i < z.size
    · rw [List.getElem?_range hi]
      simp only [Option.map_some, Function.comp]
      have e1 : (n * z.size + i) % z.size = i := by rw [Nat.mul_comm, Nat.mul_add_mod, Nat.mod_eq_of_lt hi]
      rw [e1]
      simp [hi]
    · rw [List.getElem?_eq_none (by simpa using hi), List.getElem?_eq_none (by simpa using hi)]
      rfl

theorem op_bslice (hi : Inv base w g σ) (hs : Sim w g σ a e) {t : TypeId} {len : Nat} {parts : Array (Nat × Operand)} {pop : POp} (ho : o.op = .buildSlice t len parts) (hc : compOp P o = some pop) {p : PV} {σ' : Heap} (h : evPrim e σ pop = some (p, σ')) :
    ValOK P base w g σ (Instr.buildSlice t len (parts.map fun (i, x) => (i, a.eval x))) p σ' := by
  unfold compOp at hc
  simp only [ho] at hc
  split at hc
  · rename_i el k1
    split at hc
    · rename_i i k2
      split at hc
      · rename_i z k3
        split at hc
        · rename_i zs ps k4 k5
          split at hc
          · rename_i hcond
            obtain ⟨c1, c2, c3, c4⟩ := hcond
            cases hc
            simp only [evPrim, Option.map_eq_some_iff] at h
            obtain ⟨rs, hr, hp⟩ := h
            cases hp
            have hz := canonL_ok (cellTys P 20 el) (pvConsts_rep (w := w) (g := g) (σ := σ) k4)
            have hzl : (canonL (cellTys P 20 el) zs).length = zs.length := by have h1 := hz.1; have h2 := (pvConsts_rep (w := w) (g := g) (σ := σ) k4).1; omega
            have hzs : z.cells.size = i.size := by have := hz.1; simp only [Array.length_toList] at this; omega
            have hm := made_flat z.cells len (by omega)
            rw [hzs] at hm
            obtain ⟨cs', e1, e2, e3, e4⟩ := fillR_ok (parts := parts.toList) (cs := (Array.range (len * i.size)).map (z.cells[· % i.size]!)) hi hs (cellTys P 20 el) k5 (zs := List.replicate len (canonL (cellTys P 20 el) zs)) (fun r hr => by rw [List.eq_of_mem_replicate hr, hzl]; exact c2) (by rw [hm]; exact rep_flat hz len) hr
            rw [List.length_replicate] at e4
            obtain ⟨g', q1, q2⟩ := op_newrow hi el e2 e3 (Nat.le_refl _) true (fun _ => rfl) (c := cs') (fun j u hu => by rw [← Array.getElem?_toList]; exact hu)
            refine ⟨_, _, g', ?_, q1, by rw [e4] at q2; exact q2⟩
            have hn : ¬ (16777216 < len * i.size) := by omega
            by_cases h0 : len * i.size = 0
            · have e0 : (Array.range (len * i.size)).map (z.cells[· % i.size]!) = #[] := by rw [h0]; simp
              rw [e0] at e1
              have r0 : Array.range 0 = #[] := rfl
              have e1' : Instr.fill (fun j => some (j * i.size, i.size)) #[] (List.map (fun x => (x.fst, a.eval x.snd)) parts.toList) = some cs' := e1
              simp [Instr.buildSlice, run_underlying k1, run_sizeOf_of k2, run_zero_of k2 k3, hn, h0, newRow, r0, e1']
            · simp [Instr.buildSlice, run_underlying k1, run_sizeOf_of k2, run_zero_of k2 k3, hn, h0, newRow, hzs, e1]
          · cases hc
        · cases hc
      · cases hc
    · cases hc
  · cases hc

/-! ### len, min, max -/
theorem op_len (hi : Inv base w g σ) (hs : Sim w g σ a e) {t ty : TypeId} {x : Operand} {px : Opd} (hx : cOpd x = some px) {n : Nat} (h : lenP σ (tyk P t) (px.ev e) = some n) :
    ValOK P base w g σ (Builtin.len_ #[t] ty #[a.eval x]) (.int .i64 n) σ := by
  have hrx := ev_ok hs hx
  have sl : tyk P t = .slice → ∀ A cap, a.eval x = .slice A n cap → ValOK P base w g σ (Builtin.len_ #[t] ty #[a.eval x]) (.int .i64 n) σ := fun ht A cap he => by
    have hu : ∃ el, P.underlying t = some (.slice el) := by
      unfold tyk at ht
      split at ht <;> first | exact ⟨_, ‹_›⟩ | cases ht
    obtain ⟨el, hu⟩ := hu
    exact .pure_ hi (v := goInt n) (by simp [Builtin.len_, run_underlying hu, he]) (.int _ _)
  have mp : tyk P t = .map → ∃ kt et, P.underlying t = some (.map kt et) := fun ht => by
    unfold tyk at ht
    split at ht <;> first | exact ⟨_, _, ‹_›⟩ | cases ht
  have st : tyk P t = .str → P.underlying t = some .string := fun ht => by
    unfold tyk at ht
    split at ht <;> first | assumption | cases ht
  unfold lenP at h
  split at h
  · rename_i e1 e2
    rw [e2] at hrx
    cases h
    exact sl e1 none 0 hrx.nils_inv
  · rename_i e1 e2
    rw [e2] at hrx
    cases h
    obtain ⟨A, cap, h1, _⟩ := hrx.sl_inv
    exact sl e1 A cap h1
  · rename_i id st n' e1 e2
    rw [e2] at hrx
    obtain ⟨⟨A, cap, hown⟩, _⟩ := hrx.own_inv
    cases h
    exact sl e1 _ _ hown
  · rename_i e1 e2
    rw [e2] at hrx
    cases h
    obtain ⟨b, k1, k2⟩ := hrx.str_inv
    refine .pure_ hi (v := goInt b.size) (by simp [Builtin.len_, run_underlying (st e1), k1]) ?_
    rw [← k2, Array.length_toList]
    exact .int _ _
  · rename_i e1 e2
    rw [e2] at hrx
    cases h
    obtain ⟨kt, et, hu⟩ := mp e1
    have hv : a.eval x = .map none := by
      generalize a.eval x = v at hrx ⊢
      cases hrx
      rfl
    exact .pure_ hi (v := goInt 0) (by simp [Builtin.len_, run_underlying hu, hv]) (.int _ _)
  · rename_i id e1 e2
    rw [e2] at hrx
    split at h
    · rename_i es hob
      cases h
      obtain ⟨es', k1, k2⟩ := hrx.mp_inv
      rw [hob] at k1
      cases k1
      obtain ⟨_, ents, clock, hh, hsz, _⟩ := hi.obj _ _ hob
      obtain ⟨kt, et, hu⟩ := mp e1
      have hg : (getObj (g.loc id)).run P w = .ok (.map ents clock) w := by simp [getObj, Sem.run, hh]
      refine .pure_ hi (v := goInt ents.size) (by simp [Builtin.len_, run_underlying hu, k2, hg]) ?_
      rw [hsz]
      exact .int _ _
    · cases h
  · cases h
end
end Go.PE
