/- The keys of a map, collected and sorted: the code that compC knows. -/
import Derived.Test.YtkpbfldnickghaaDoorPEv
set_option linter.unusedVariables false
set_option linter.unusedSimpArgs false
set_option linter.unusedSectionVars false
namespace Go.PE
open Go.Maps Go.RowKit Go.WideShapes
variable [Globs]
theorem isLoad_ok {o : Oper} {x : Nat × Nat × Nat} (h : isLoad o = some x) : Is o (.load x.1 (.tmp x.2.1)) x.2.2 := by
  unfold isLoad at h
  split at h
  · cases h; exact ⟨‹_›, ‹_›, ‹_›⟩
  · cases h
theorem isRange_ok {o : Oper} {x : Nat × Nat × Nat} (h : isRange o = some x) : Is o (.range x.1 (.tmp x.2.1)) x.2.2 := by
  unfold isRange at h
  split at h
  · cases h; exact ⟨‹_›, ‹_›, ‹_›⟩
  · cases h
theorem isNext_ok {o : Oper} {x : Nat × Nat} (h : isNext o = some x) : Is o (.next (.tmp x.1) false) x.2 := by
  unfold isNext at h
  split at h
  · cases h; exact ⟨‹_›, ‹_›, ‹_›⟩
  · cases h
theorem isExtr_ok {o : Oper} {x : Nat × Nat} (h : isExtr o = some x) : Is o (.extract (.tmp x.1) 0) x.2 := by
  unfold isExtr at h
  split at h
  · cases h; exact ⟨‹_›, ‹_›, ‹_›⟩
  · cases h
theorem isEntry_ok {o : Oper} {x : Nat × Nat} (h : isEntry o = some x) : Is o (.entry (.tmp x.1)) x.2 := by
  unfold isEntry at h
  split at h
  · cases h; exact ⟨‹_›, ‹_›, ‹_›⟩
  · cases h
theorem isAssign_ok {o : Oper} {x : Nat × Nat} (h : isAssign o = some x) : Is o (.assign (.tmp x.1)) x.2 := by
  unfold isAssign at h
  split at h
  · cases h; exact ⟨‹_›, ‹_›, ‹_›⟩
  · cases h
theorem isMove_ok {o : Oper} {x : Nat × Nat} (h : isMove o = some x) : Is o (.move (.tmp x.1)) x.2 := by
  unfold isMove at h
  split at h
  · cases h; exact ⟨‹_›, ‹_›, ‹_›⟩
  · cases h
theorem arr_of {α : Type} {x : Array α} {l : List α} (h : x.toList = l) : x = l.toArray := by rw [← h]
theorem isBuild_ok {o : Oper} {x : Nat × Nat × Nat} (h : isBuild o = some x) : Is o (.buildSlice x.1 1 #[(0, .tmp x.2.1)]) x.2.2 := by
  unfold isBuild at h
  split at h
  · rename_i h1 h2 h3
    split at h
    · rename_i h4
      cases h
      exact ⟨by rw [h1, arr_of h4], h2, h3⟩
    · cases h
  · cases h
theorem isAppend_ok {o : Oper} {x : Nat × Nat × Nat × Nat} (h : isAppend o = some x) : Is o (.call { callee := .builtin .append, args := #[.tmp x.2.1, .tmp x.2.2.1], argTypes := #[x.1, x.1] }) x.2.2.2 := by
  unfold isAppend at h
  split at h
  · rename_i h1 h2 h3
    split at h
    · rename_i h4 h5
      split at h
      · rename_i he
        cases h
        exact ⟨by rw [h1, arr_of h4, arr_of h5, he], h2, h3⟩
      · cases h
    · cases h
  · cases h
theorem isCallF_ok {o : Oper} {x : Nat × Nat × Nat × Nat} (h : isCallF o = some x) : Is o (.call { callee := .value (.func x.2.1), args := #[.tmp x.2.2.1], argTypes := #[x.1] }) x.2.2.2 := by
  unfold isCallF at h
  split at h
  · rename_i h1 h2 h3
    split at h
    · rename_i h4 h5
      cases h
      exact ⟨by rw [h1, arr_of h4, arr_of h5], h2, h3⟩
    · cases h
  · cases h
theorem keyStrs_ok : ∀ {es : List (PV × PV)} {ks : List (List UInt8)}, keyStrs es = some ks → es.map (·.1) = ks.map .str ∧ ∃ vs : List Bool, es.map (·.2) = vs.map .bool
  | [], ks, h => by
    cases h
    exact ⟨rfl, [], rfl⟩
  | (k, v) :: es, ks, h => by
    unfold keyStrs at h
    split at h
    · rename_i h0; cases h0
    · rename_i heq
      simp only [List.cons.injEq, Prod.mk.injEq] at heq
      obtain ⟨⟨rfl, rfl⟩, rfl⟩ := heq
      simp only [Option.map_eq_some_iff] at h
      obtain ⟨ks', h1, rfl⟩ := h
      obtain ⟨h2, vs, h3⟩ := keyStrs_ok h1
      exact ⟨by simp [h2], _ :: vs, by simp [h3]; rfl⟩
    · cases h
theorem get_set1 (e : Env) (d : Nat) (v : PV) (x : Nat) : get (e.set d v) x = if x = d ∧ d < e.length then v else get e x := by
  unfold get
  by_cases h : x = d
  · subst h
    by_cases hl : x < e.length
    · rw [List.getElem?_set_self hl, if_pos ⟨rfl, hl⟩]; rfl
    · rw [if_neg (fun h => hl h.2), List.getElem?_eq_none (by simp; omega), List.getElem?_eq_none (by omega)]
  · rw [List.getElem?_set_ne (Ne.symm h), if_neg (fun k => h k.1)]
theorem get_out {e : Env} {x : Nat} (h : ¬ x < e.length) : get e x = .top := by
  unfold get
  rw [List.getElem?_eq_none (by omega)]
  rfl
def tops (ds : List Nat) (e : Env) : Env := ds.foldl (fun e d => e.set d .top) e
theorem tops_len : ∀ (ds : List Nat) (e : Env), (tops ds e).length = e.length
  | [], e => rfl
  | d :: ds, e => by
    have := tops_len ds (e.set d .top)
    simpa [tops] using this
theorem tops_get : ∀ (ds : List Nat) (e : Env) (x : Nat), get (tops ds e) x = if x ∈ ds then .top else get e x
  | [], e, x => by simp [tops]
  | d :: ds, e, x => by
    have := tops_get ds (e.set d .top) x
    have e1 : tops (d :: ds) e = tops ds (e.set d .top) := rfl
    rw [e1, this, get_set1]
    by_cases hx : x ∈ ds
    · simp [hx]
    · by_cases hd : x = d
      · by_cases hl : d < e.length
        · simp [hx, hd, hl]
        · simp [hd, hl, get_out hl]
      · simp [hx, hd]
theorem evOps_tops {C : Funcs} {H : Handler} {σ : Heap} : ∀ (ds : List Nat) (e : Env), evOps C H (ds.map fun d => ⟨some d, none, .mov (.cst .top)⟩) e σ = some (tops ds e, σ)
  | [], e => rfl
  | d :: ds, e => by
    have := evOps_tops (C := C) (H := H) (σ := σ) ds (e.set d .top)
    simp only [List.map_cons, evOps, evOp, evPrim, Opd.ev, Option.bind_some, put]
    exact this
theorem wp_mono {P : Program} {c : Code} {Q Q' : Exit → Act → World → Prop} {a : Act} {w : World} (h : c.wp P Q a w) (hq : ∀ e a w, Q e a w → Q' e a w) : c.wp P Q' a w := fun b k cs => by
  obtain ⟨e, a', w', h1, h2⟩ := h b k cs
  exact ⟨e, a', w', hq _ _ _ h1, h2⟩
theorem emptyZero_ok {i : TypeInfo} (h : emptyZero i = true) : i.zero = some (.string ⟨#[]⟩) := by
  unfold emptyZero at h
  split at h
  · rename_i b hz
    rw [hz]
    have hb : b.size = 0 := by simpa using h
    obtain ⟨⟨l⟩⟩ := b
    cases l with
    | nil => rfl
    | cons x l => cases hb
  · cases h
theorem keysOf_ok {P : Program} {C : Funcs} {H : Handler} (hS : ∀ fs, sortFn P fs = true → SortOK P fs) {x r : Code} {l : List PO} (hk : keysOf P x r = some l) {e e' : Env} {σ σ' : Heap} (hev : evOps C H l e σ = some (e', σ')) {base : Nat} {w : World} {g : Gh} {a : Act} {Q : Exit → Act → World → Prop} {N : Act → World → Prop}
    (hi : Inv base w g σ) (hs : Sim w g σ a e) (hN : ∀ a' w' g', a'.defers = a.defers → Prog base w g σ w' g' σ' → Sim w' g' σ' a' e' → N a' w') : x.wp P (Exit.then (r.wp P (Exit.then N Q)) Q) a w := by
  unfold keysOf at hk
  split at hk
  · rename_i _ ops8 bid _ ops9 c bid' _ _ ops10 _ ops11 _ ops12
    split at hk
    · rename_i o1 o2 o3 o4 o5 o6 o7 o8 o9 o10 o11 o12 o13 o14 l1 l2 l3 l4 l5
      simp only [Option.bind_eq_some_iff] at hk
      obtain ⟨⟨tm, tp, t⟩, k1, ⟨a7, n⟩, k7, ⟨a12, out⟩, k12, ⟨ts, y10⟩, k10, ⟨ts3, fs, y14⟩, k14, hk⟩ := hk
      split at hk
      · rename_i hc
        simp only at hc
        obtain ⟨rfl, rfl, c2, c3, c4, c5, c6, rfl, c8, c9, rfl, c11, rfl, c13, rfl, rfl, d1, d2, d3, d4, d5, d6, d7⟩ := hc
        simp only [Option.map_eq_some_iff] at hk
        obtain ⟨tk, hty, rfl⟩ := hk
        unfold keysTy at hty
        split at hty
        · rename_i tk0 te tk' im q1 q2 q3
          split at hty
          · rename_i i0 q4 q5 q6
            split at hty
            · rename_i hq
              obtain ⟨rfl, z1, z2, z3, z4⟩ := hq
              cases hty
              obtain rfl := arr_of l1
              obtain rfl := arr_of l2
              obtain rfl := arr_of l3
              obtain rfl := arr_of l4
              obtain rfl := arr_of l5
              simp only [keysOps, evOps, wantP, evOp, evPrim, Opd.ev, Option.bind_eq_some_iff] at hev
              obtain ⟨⟨v, σ1⟩, h1, h2⟩ := hev
              rw [evOps_tops] at h2
              cases h2
              unfold keysP at h1
              split at h1
              · rename_i ib hp ho hz
                split at h1
                · rename_i m hb
                  split at h1
                  · rename_i es hm
                    split at h1
                    · rename_i ks hks
                      split at h1
                      · rename_i hcond
                        obtain ⟨n1, n2, n3⟩ := hcond
                        obtain ⟨e1, vs, e2⟩ := keyStrs_ok hks
                        have hlt : t + 11 < e.length := Classical.byContradiction fun hge => by
                          rw [get_out hge] at hz
                          cases hz
                        have h1' := Option.some.inj h1
                        have hv : v = (keysV σ tk ks).1 := by rw [h1']
                        have hσ : σ1 = (keysV σ tk ks).2 := by rw [h1']
                        subst hv hσ
                        have hoe : out < e.length := by omega
                        refine keys_run (isLoad_ok k1) (isRange_ok c2) (isNext_ok c3) (isExtr_ok c4) (isEntry_ok c5) (isExtr_ok c6) (isAssign_ok k7) (isMove_ok c8) (isMove_ok c9) (isBuild_ok k10) (isAppend_ok c11) (isAssign_ok k12) (isMove_ok c13) (isCallF_ok k14) d1 d2 d3 d4 d5 d6 q1 q3 z1 q4 q5 q2 q6 (emptyZero_ok z4) z2 z3 (string_keyed q4) (hS fs d7) hi hs hp hb hm e1 e2 n1 n2 n3 ho hlt ?_ ?_ ?_ ?_ hN
                        · rw [tops_len]; simp [put]
                        · rw [tops_get, if_neg (by simp; omega)]
                          simp only [put]
                          rw [get_set1, if_pos ⟨rfl, hoe⟩]
                        · intro x hx
                          replace hx : ¬ Touched out n t x := hx
                          unfold Touched at hx
                          rw [tops_get, if_neg (by simp; omega)]
                          simp only [put]
                          rw [get_set1, if_neg (by omega)]
                        · intro x hx hxo
                          replace hx : Touched out n t x := hx
                          unfold Touched at hx
                          rw [tops_get, if_pos (by simp; omega)]
                      · cases h1
                    · cases h1
                  · cases h1
                · cases h1
              · cases h1
            · cases hty
          · cases hty
        · cases hty
      · cases hk
    · cases hk
  · cases hk
end Go.PE
