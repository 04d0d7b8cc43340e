/- Code and functions: WHAT THE EVALUATOR ANSWERS THE MACHINE DOES ('pure_sound'). -/
import Derived.Test.YtkpbfldnickghaaDoorPEka
import Derived.Test.YtkpbfldnickghaaDoorPEw
set_option linter.unusedVariables false
set_option linter.unusedSimpArgs false
set_option linter.unusedSectionVars false
namespace Go.PE
variable [Globs]
open Go.RowKit (Below)
section
variable {P : Program} {C : Funcs} {H : Handler}

/-- The piece has no forgetting ahead. -/
def PC.core : PC → Bool
  | .keep _ _ => false
  | _ => true
theorem keepL_ok {w : World} {g : Gh} {σ : Heap} {a : Act} {e : Env} (ts : List Nat) (hs : Sim w g σ a e) : Sim w g σ a (keepL ts e) := by
  refine ⟨by simp [keepL, hs.1], fun i v p hv hp => ?_⟩
  simp only [keepL, List.getElem?_map, Option.map_eq_some_iff] at hp
  obtain ⟨t, ht, rfl⟩ := hp
  obtain ⟨hlt, rfl⟩ := List.getElem?_eq_some_iff.1 ht
  simp only [List.length_range] at hlt
  simp only [List.getElem_range]
  split
  · exact hs.2 i v _ hv (by simp [get, hlt])
  · exact Rep.top _
theorem headE_ok {w : World} {g : Gh} {σ : Heap} {a : Act} {e : Env} (c : PC) (hs : Sim w g σ a e) : Sim w g σ a (headE c e) := by
  cases c <;> first | exact keepL_ok _ hs | exact hs
theorem peel (C : Funcs) (H : Handler) : ∀ (pc : PC) (e : Env), ∃ pc' e', pc'.core = true ∧ pc'.erase = pc.erase ∧ (∀ σ, evC C H pc e σ = evC C H pc' e' σ) ∧ (∀ (w : World) (g : Gh) (σ : Heap) (a : Act), Sim w g σ a e → Sim w g σ a e')
  | .keep ts a, e => by
    obtain ⟨pc', e', h1, h2, h3, h4⟩ := peel C H a (keepL ts e)
    exact ⟨pc', e', h1, h2, h3, fun w g σ a hs => h4 w g σ a (keepL_ok ts hs)⟩
  | .skip, e => ⟨_, e, rfl, rfl, fun _ => rfl, fun _ _ _ _ h => h⟩
  | .ops l, e => ⟨.ops l, e, rfl, rfl, fun _ => rfl, fun _ _ _ _ h => h⟩
  | .seq x y, e => ⟨.seq x y, e, rfl, rfl, fun _ => rfl, fun _ _ _ _ h => h⟩
  | .cond c x y, e => ⟨.cond c x y, e, rfl, rfl, fun _ => rfl, fun _ _ _ _ h => h⟩
  | .block id x, e => ⟨.block id x, e, rfl, rfl, fun _ => rfl, fun _ _ _ _ h => h⟩
  | .loop x, e => ⟨.loop x, e, rfl, rfl, fun _ => rfl, fun _ _ _ _ h => h⟩
  | .exit id, e => ⟨.exit id, e, rfl, rfl, fun _ => rfl, fun _ _ _ _ h => h⟩
  | .ret, e => ⟨.ret, e, rfl, rfl, fun _ => rfl, fun _ _ _ _ h => h⟩

theorem er_skip : ∀ {c : PC}, c.core = true → PC.skip = c.erase → c = .skip
  | .skip, _, _ => rfl
theorem er_ops {l : List PO} : ∀ {c : PC}, c.core = true → PC.ops l = c.erase → c = .ops l
  | .ops _, _, h => h.symm
theorem er_exit {id : Nat} : ∀ {c : PC}, c.core = true → PC.exit id = c.erase → c = .exit id
  | .exit _, _, h => h.symm
theorem er_ret : ∀ {c : PC}, c.core = true → PC.ret = c.erase → c = .ret
  | .ret, _, _ => rfl
theorem er_seq {x y : PC} : ∀ {c : PC}, c.core = true → PC.seq x y = c.erase → ∃ a b, c = .seq a b ∧ a.erase = x ∧ b.erase = y
  | .seq a b, _, h => by simp only [PC.erase, PC.seq.injEq] at h; exact ⟨a, b, rfl, h.1.symm, h.2.symm⟩
theorem er_cond {o : Opd} {x y : PC} : ∀ {c : PC}, c.core = true → PC.cond o x y = c.erase → ∃ a b, c = .cond o a b ∧ a.erase = x ∧ b.erase = y
  | .cond o' a b, _, h => by simp only [PC.erase, PC.cond.injEq] at h; exact ⟨a, b, by rw [h.1], h.2.1.symm, h.2.2.symm⟩
theorem er_block {id : Nat} {x : PC} : ∀ {c : PC}, c.core = true → PC.block id x = c.erase → ∃ a, c = .block id a ∧ a.erase = x
  | .block id' a, _, h => by simp only [PC.erase, PC.block.injEq] at h; exact ⟨a, by rw [h.1], h.2.symm⟩
theorem er_loop {x : PC} : ∀ {c : PC}, c.core = true → PC.loop x = c.erase → ∃ a, c = .loop a ∧ a.erase = x
  | .loop a, _, h => by simp only [PC.erase, PC.loop.injEq] at h; exact ⟨a, rfl, h.symm⟩

theorem keysOf_region {P : Program} {x r : Code} {l : List PO} (h : keysOf P x r = some l) : ∃ i ops, r = .region i ops false := by
  unfold keysOf at h
  split at h
  · exact ⟨_, _, rfl⟩
  · cases h
theorem keysOf_none {P : Program} {i : Nat} {ops : Array Oper} {d : Bool} {r : Code} : keysOf P (.region i ops d) r = none := by
  unfold keysOf
  rfl
/-- A piece of code does what its translation answers. -/
abbrev CodeOK (P : Program) (C : Funcs) (H : Handler) (c : Code) : Prop := ∀ {pc : PC}, compC P c = some pc.erase → ∀ {e : Env} {σ : Heap} {o : Out} {e' : Env} {σ' : Heap} {base : Nat} {w : World} {g : Gh} {a : Act} {Q : Exit → Act → World → Prop},
    evC C H pc e σ = some (o, e', σ') → Inv base w g σ → Sim w g σ a e → Ends base w g σ a.defers o e' σ' Q → c.wp P Q a w
theorem code_ok2 (SH : SoundH P C H) (hm : P.follows .mixedOrders = true) (hS : ∀ fs, sortFn P fs = true → SortOK P fs) : ∀ (c : Code), CodeOK P C H c ∧ ∀ r r2, c = .seq r r2 → CodeOK P C H r2 := by
  intro c
  induction c with
  | skip =>
    refine ⟨?_, fun _ _ h => by cases h⟩
    intro pc hc e σ o e' σ' base w g a Q h hi hs hQ
    obtain ⟨p, e0, hcore, her, hev, hsim⟩ := peel C H pc e
    rw [hev] at h; rw [← her] at hc; replace hs := hsim w g σ a hs
    obtain rfl := er_skip hcore (Option.some.inj hc)
    cases h
    exact wp_skip (hQ a w g rfl (Prog.refl hi) hs)
  | label l =>
    refine ⟨?_, fun _ _ h => by cases h⟩
    intro pc hc e σ o e' σ' base w g a Q h hi hs hQ
    obtain ⟨p, e0, hcore, her, hev, hsim⟩ := peel C H pc e
    rw [hev] at h; rw [← her] at hc; replace hs := hsim w g σ a hs
    obtain rfl := er_skip hcore (Option.some.inj hc)
    cases h
    exact wp_label (hQ a w g rfl (Prog.refl hi) hs)
  | region id ops draw =>
    refine ⟨?_, fun _ _ h => by cases h⟩
    intro pc hc e σ o e' σ' base w g a Q h hi hs hQ
    obtain ⟨p, e0, hcore, her, hev, hsim⟩ := peel C H pc e
    rw [hev] at h; rw [← her] at hc; replace hs := hsim w g σ a hs
    simp only [compC, Option.map_eq_some_iff] at hc
    obtain ⟨pl, hc, hpl⟩ := hc
    obtain rfl := er_ops hcore hpl
    simp only [evC, Option.map_eq_some_iff, Prod.mk.injEq] at h
    obtain ⟨⟨e1, σ1⟩, h1, rfl, rfl, rfl⟩ := h
    exact region_ok SH hm hc h1 hi hs hQ
  | seq x y ihx ihy =>
    refine ⟨?_, fun _ _ h => by cases h; exact ihy.1⟩
    intro pc hc e σ o e' σ' base w g a Q h hi hs hQ
    obtain ⟨p, e0, hcore, her, hev, hsim⟩ := peel C H pc e
    rw [hev] at h; rw [← her] at hc; replace hs := hsim w g σ a hs
    simp only [compC] at hc
    split at hc
    · rename_i px py h1 h2
      obtain ⟨ax, ay, rfl, rfl, rfl⟩ := er_seq hcore (Option.some.inj hc)
      simp only [evC, Option.bind_eq_some_iff] at h
      obtain ⟨⟨o1, e1, σ1⟩, k1, k2⟩ := h
      refine wp_seq (ihx.1 h1 k1 hi hs fun a' w' g' hd hp hs' => ?_)
      cases o1 with
      | norm =>
        refine ihy.1 h2 k2 hp.inv hs' fun a'' w'' g'' hd' hp' hs'' => hQ a'' w'' g'' (hd'.trans hd) (hp.trans hp') hs''
      | exit id =>
        cases k2
        exact hQ a' w' g' hd hp hs'
      | ret =>
        cases k2
        exact hQ a' w' g' hd hp hs'
    · rename_i r' hx0 hy0
      split at hc
      · rename_i r r2
        simp only [Option.map_eq_some_iff] at hc
        obtain ⟨l, hl, hpc⟩ := hc
        obtain ⟨ax, ay, rfl, hax, hay⟩ := er_seq hcore hpc
        have hr2 : compC P r2 = some ay.erase := by
          rw [hay]
          simp only [compC] at hy0
          split at hy0
          · rename_i h1 h2
            cases hy0
            exact h2
          · exfalso
            obtain ⟨ri, rops, rfl⟩ := keysOf_region hl
            split at hy0
            · rw [keysOf_none] at hy0
              cases hy0
            · cases hy0
          · cases hy0
        obtain ⟨p1, e1, hcore1, her1, hev1, hsim1⟩ := peel C H ax e0
        rw [hax] at her1
        obtain rfl := er_ops hcore1 her1.symm
        simp only [evC, Option.bind_eq_some_iff] at h
        obtain ⟨⟨o1, e2, σ2⟩, k1, k2⟩ := h
        rw [hev1] at k1
        simp only [evC, Option.map_eq_some_iff, Prod.mk.injEq] at k1
        obtain ⟨⟨e3, σ3⟩, k1, rfl, rfl, rfl⟩ := k1
        refine wp_seq (wp_mono (keysOf_ok (Q := Q) hS hl k1 hi (hsim1 w g σ a hs) fun a' w' g' hd hp hs' => ihy.2 r r2 rfl hr2 k2 hp.inv hs' fun a'' w'' g'' hd' hp' hs'' => hQ a'' w'' g'' (hd'.trans hd) (hp.trans hp') hs'') fun ex a w hw => ?_)
        cases ex <;> first | exact wp_seq hw | exact hw
      · cases hc
    · cases hc
  | cond c x y ihx ihy =>
    refine ⟨?_, fun _ _ h => by cases h⟩
    intro pc hc e σ o e' σ' base w g a Q h hi hs hQ
    obtain ⟨p, e0, hcore, her, hev, hsim⟩ := peel C H pc e
    rw [hev] at h; rw [← her] at hc; replace hs := hsim w g σ a hs
    simp only [compC] at hc
    split at hc
    · rename_i pcx px py h0 h1 h2
      obtain ⟨ax, ay, rfl, rfl, rfl⟩ := er_cond hcore (Option.some.inj hc)
      have hr := ev_ok hs h0
      simp only [evC] at h
      split at h
      · rename_i he
        rw [he] at hr
        exact wp_cond_true hr.bool_inv (ihx.1 h1 h hi hs hQ)
      · rename_i he
        rw [he] at hr
        exact wp_cond_false hr.bool_inv (ihy.1 h2 h hi hs hQ)
      · cases h
    · cases hc
  | block id x ihx =>
    refine ⟨?_, fun _ _ h => by cases h⟩
    intro pc hc e σ o e' σ' base w g a Q h hi hs hQ
    obtain ⟨p, e0, hcore, her, hev, hsim⟩ := peel C H pc e
    rw [hev] at h; rw [← her] at hc; replace hs := hsim w g σ a hs
    simp only [compC, Option.map_eq_some_iff] at hc
    obtain ⟨px, h1, hpl⟩ := hc
    obtain ⟨ax, rfl, rfl⟩ := er_block hcore hpl
    simp only [evC, Option.map_eq_some_iff] at h
    obtain ⟨⟨o1, e1, σ1⟩, k1, k2⟩ := h
    refine wp_block (ihx.1 h1 k1 hi hs fun a' w' g' hd hp hs' => ?_)
    cases o1 with
    | norm =>
      cases k2
      exact hQ a' w' g' hd hp hs'
    | ret =>
      cases k2
      exact hQ a' w' g' hd hp hs'
    | exit id' =>
      simp only [exitOf, Exit.inBlock]
      by_cases hid : id' = id
      · simp only [hid, if_true, Prod.mk.injEq] at k2
        obtain ⟨rfl, rfl, rfl⟩ := k2
        rw [if_pos hid]
        exact hQ a' w' g' hd hp hs'
      · simp only [hid, if_false, Prod.mk.injEq] at k2
        obtain ⟨rfl, rfl, rfl⟩ := k2
        rw [if_neg hid]
        exact hQ a' w' g' hd hp hs'
  | loop x ihx =>
    refine ⟨?_, fun _ _ h => by cases h⟩
    intro pc hc e σ o e' σ' base w g a Q h hi hs hQ
    obtain ⟨p, e0, hcore, her, hev, hsim⟩ := peel C H pc e
    rw [hev] at h; rw [← her] at hc; replace hs := hsim w g σ a hs
    simp only [compC, Option.map_eq_some_iff] at hc
    obtain ⟨px, h1, hpl⟩ := hc
    obtain ⟨ax, rfl, rfl⟩ := er_loop hcore hpl
    exact loop_of (SH.loop ax _ σ o e' σ' h x h1 base w g a Q hi (headE_ok ax hs) hQ)
  | exit id =>
    refine ⟨?_, fun _ _ h => by cases h⟩
    intro pc hc e σ o e' σ' base w g a Q h hi hs hQ
    obtain ⟨p, e0, hcore, her, hev, hsim⟩ := peel C H pc e
    rw [hev] at h; rw [← her] at hc; replace hs := hsim w g σ a hs
    obtain rfl := er_exit hcore (Option.some.inj hc)
    cases h
    exact wp_exit (hQ a w g rfl (Prog.refl hi) hs)
  | ret =>
    refine ⟨?_, fun _ _ h => by cases h⟩
    intro pc hc e σ o e' σ' base w g a Q h hi hs hQ
    obtain ⟨p, e0, hcore, her, hev, hsim⟩ := peel C H pc e
    rw [hev] at h; rw [← her] at hc; replace hs := hsim w g σ a hs
    obtain rfl := er_ret hcore (Option.some.inj hc)
    cases h
    exact wp_ret (hQ a w g rfl (Prog.refl hi) hs)
  | rangeFunc => exact ⟨(fun hc => by cases hc), fun _ _ h => by cases h⟩
  | scope => exact ⟨(fun hc => by cases hc), fun _ _ h => by cases h⟩
  | goto => exact ⟨(fun hc => by cases hc), fun _ _ h => by cases h⟩
  | refuse => exact ⟨(fun hc => by cases hc), fun _ _ h => by cases h⟩

theorem code_ok (SH : SoundH P C H) (hm : P.follows .mixedOrders = true) (hS : ∀ fs, sortFn P fs = true → SortOK P fs) (c : Code) : CodeOK P C H c := (code_ok2 SH hm hS c).1
theorem results_ok {base : Nat} {w : World} {g : Gh} {σ : Heap} {tmps : Array Value} {e : Env} (hi : Inv base w g σ) (hs : RepL w g σ tmps.toList e) : ∀ (l : List ResultVar) {prs : List PRes} {vs : List PV}, compRes P l = some prs → resPs e σ prs = some vs →
    ∃ us, (l.mapM fun (r : ResultVar) => (match r with
      | .tmp t => pure (tmps.getD t undef)
      | .cell a t => do loadVar t (← asAddr (tmps.getD a undef)) : Sem Value)).run P w = .ok us w ∧ RepL w g σ us vs
  | [], prs, vs, h1, h2 => by
    simp only [compRes, Option.some.injEq] at h1
    subst h1
    simp only [resPs, Option.some.injEq] at h2
    subst h2
    exact ⟨[], rfl, RepL.nil _ _ _⟩
  | .tmp t :: l, prs, vs, h1, h2 => by
    simp only [compRes, Option.map_eq_some_iff] at h1
    obtain ⟨prs', h1, rfl⟩ := h1
    simp only [resPs, resP, Option.bind_some, Option.map_eq_some_iff] at h2
    obtain ⟨vs', h2, rfl⟩ := h2
    obtain ⟨us, k1, k2⟩ := results_ok hi hs l h1 h2
    refine ⟨tmps.getD t undef :: us, ?_, RepL.cons (ev_ok (a := ⟨tmps, []⟩) hs (x := .tmp t) rfl) k2⟩
    rw [List.mapM_cons]
    simp only [Sem.run_bind, Sem.run_pure, Result.andThen_ok, k1]
  | .cell t ty :: l, prs, vs, h1, h2 => by
    simp only [compRes] at h1
    split at h1
    · rename_i d i prs' e1 e2 e3
      cases h1
      simp only [resPs, resP, Option.bind_eq_some_iff, Option.map_eq_some_iff] at h2
      obtain ⟨v, ⟨cs, c1, c2⟩, vs', h2, rfl⟩ := h2
      obtain ⟨us, k1, k2⟩ := results_ok hi hs l e3 h2
      have hr := ev_ok (a := ⟨tmps, []⟩) hs (x := .tmp t) rfl
      obtain ⟨ad, ws, q1, q2, q3⟩ := cellsAt_ok hi hr c1
      obtain ⟨u, r1, r2⟩ := loadVar_ok (P := P) hi q2 q3 e1 e2 c2
      refine ⟨u :: us, ?_, RepL.cons r2 k2⟩
      have q1' : tmps.getD t undef = .pointer (some ad) := q1
      rw [List.mapM_cons]
      have q3' : (asAddr (tmps.getD t undef)).run P w = .ok ad w := by rw [q1']; rfl
      simp only [Sem.run_bind, q3', Sem.run_pure, Result.andThen_ok, r1, k1]
    · cases h1

theorem run_results {fn : Func} {tmps : Array Value} {w : World} {us : List Value} (h : (fn.results.toList.mapM fun (r : ResultVar) => (match r with
      | .tmp t => pure (tmps.getD t undef)
      | .cell a t => do loadVar t (← asAddr (tmps.getD a undef)) : Sem Value)).run P w = .ok us w) : (results fn tmps).run P w = .ok (packV us) w := by
  unfold results
  rw [Array.mapM_eq_mapM_toList]
  simp only [Sem.run_bind, Sem.run_map]
  erw [h]
  simp only [Result.andThen_ok, Sem.run_pure]
  congr 1
  match us with
  | [] => rfl
  | [v] => rfl
  | v :: v' :: us => simp [packV]

/-- What is asked of a function that is evaluated. -/
def FuncOK (P : Program) (f : Nat) (pf : PFunc) : Prop := ∃ fn own ownr k1 k2, P.funcs[f]? = some fn ∧ (fn.name == "runtime.NumGoroutine") = false ∧ compF P fn own ownr = some { pf with body := pf.body.erase, keep := k1, keepr := k2 }

theorem undefs (w : World) (g : Gh) (σ : Heap) : ∀ n, RepL w g σ (List.replicate n undef) (List.replicate n (.tup []))
  | 0 => RepL.nil _ _ _
  | n + 1 => RepL.cons (Rep.und _ _ _) (undefs w g σ n)

/-- A body, from its arguments to its results. -/
theorem body_ok (SH : SoundH P C H) (hm : P.follows .mixedOrders = true) (hS : ∀ fs, sortFn P fs = true → SortOK P fs) {f : Nat} {pf : PFunc} (hf : FuncOK P f pf) {args : List PV} {σ : Heap} {rs : List PV} {σ' : Heap} (h : runF C H pf args σ = some (rs, σ')) :
    FuncIn P f ∧ ∀ (base : Nat) (w : World) (g : Gh) (vs : List Value), Inv base w g σ → RepL w g σ vs args →
      Calls P f vs.toArray w fun e w' => ∃ us g', e = .returned (packV us) ∧ Prog base w g σ w' g' σ' ∧ RepL w' g' σ' us rs := by
  obtain ⟨fn, own, ownr, kk1, kk2, h1, h2, h3⟩ := hf
  unfold compF at h3
  split at h3
  · rename_i c hb
    split at h3
    · rename_i b prs h4 h5
      have hpf : pf.ntmps = fn.ntmps ∧ pf.body.erase = b ∧ pf.results = prs := by
        have := Option.some.inj h3
        simp only [PFunc.mk.injEq] at this
        exact ⟨this.1.symm, this.2.2.1.symm, this.2.1.symm⟩
      obtain ⟨e1, e2, e3⟩ := hpf
      refine ⟨⟨fn, h1, by rw [hb]; rfl, h2⟩, fun base w g vs hi hr => ?_⟩
      unfold runF at h
      simp only [Option.bind_eq_some_iff] at h
      obtain ⟨⟨o, e', σ2⟩, k1, k2⟩ := h
      rw [← e2] at h4
      have hlen : vs.length = args.length := hr.1
      have hsim : Sim w g σ { tmps := vs.toArray ++ Array.replicate (fn.ntmps - vs.toArray.size) undef, defers := [] } (args ++ List.replicate (pf.ntmps - args.length) (.tup [])) := by
        show RepL w g σ (vs.toArray ++ Array.replicate (fn.ntmps - vs.toArray.size) undef).toList _
        rw [Array.toList_append, Array.toList_replicate, List.size_toArray, hlen, e1]
        exact hr.append (undefs w g σ _)
      refine calls_of_wp h1 hb (code_ok SH hm hS c h4 k1 hi hsim fun a' w' g' hd hp hs' => ?_)
      have fin : (resPs e' σ2 pf.results).map (fun vs => (vs, σ2)) = some (rs, σ') → a'.defers = [] ∧ ∃ v, (results fn a'.tmps).run P w' = .ok v w' ∧ (∃ us g', Ending.returned v = .returned (packV us) ∧ Prog base w g σ w' g' σ' ∧ RepL w' g' σ' us rs) := by
        intro hres
        simp only [Option.map_eq_some_iff, Prod.mk.injEq] at hres
        obtain ⟨vs', q1, rfl, rfl⟩ := hres
        rw [e3] at q1
        obtain ⟨us, u1, u2⟩ := results_ok (P := P) hp.inv hs' _ h5 q1
        exact ⟨hd, _, run_results u1, us, g', rfl, hp, u2⟩
      cases o with
      | norm => exact fin k2
      | ret => exact fin k2
      | exit id => cases k2
    · cases h3
  · cases h3

/-! ### What is handed back is frozen -/
def frozenProt (g : Gh) (σ : Heap) (a : Addr) : Prop := g.prot a ∨ ∃ (id : Nat) (cells : List PV), σ[id]? = some (.box cells) ∧ a.block = g.loc id ∧ a.spot = none ∧ a.off < cells.length
theorem frozen_ok {base : Nat} {w : World} {g : Gh} {σ : Heap} (hi : Inv base w g σ) : protOK w (frozenProt g σ) ∧ (∀ a, frozenProt g σ a → a.block < base → g.prot a) := by
  constructor
  · rintro a (h | ⟨id, cells, ho, h1, h2, h3⟩)
    · exact hi.prot a h
    · obtain ⟨_, ⟨c, t, hh, hr⟩, _⟩ := hi.obj id _ ho
      obtain ⟨b, off, sp⟩ := a
      cases h1
      cases h2
      have hlt : off < c.size := by have := hr.1; simp only [Array.length_toList] at this; simp only at h3; omega
      exact ⟨c[off], by simp [World.cell?, hh, hlt]⟩
  · rintro a (h | ⟨id, cells, ho, h1, _⟩) hl
    · exact h
    · have := (hi.obj id _ ho).base_le
      omega
theorem fin1_ok {base : Nat} {w : World} {g : Gh} {σ : Heap} (hi : Inv base w g σ) {v : Value} {p : PV} (h : Rep w g σ v p) : Rep w { g with prot := frozenProt g σ } σ v (fin1 σ p) := by
  have hx : WExt w g σ w { g with prot := frozenProt g σ } σ := ⟨fun a v h1 h2 => ⟨.inl h1, h2⟩, fun _ _ _ rows h => ⟨rows, h, Nat.le_refl _, fun _ => ⟨rfl, rfl⟩⟩, fun _ c h => ⟨c, h, rfl, rfl⟩, fun _ es h => ⟨es, h, rfl⟩⟩
  cases p <;> first | exact h.mono hx | skip
  case own id st n =>
    simp only [fin1]
    split
    · rename_i ty st' rows ho
      split
      · rename_i he
        exact ((rowsP_ok hi h (st := st) (rows := rows) (by simp [rowsP, ho, he])).rep).mono hx
      · exact h.mono hx
    · rename_i cells ho
      split
      · rename_i he
        have hown := h.own_inv
        unfold OwnOK at hown
        rw [ho] at hown
        have hv := hown.2 he
        obtain ⟨_, ⟨c, t, hh, hr⟩, _⟩ := hi.obj id _ ho
        obtain ⟨f1, f2⟩ := chunks_flat st n cells he
        rw [hv]
        have := Rep.sl_of (w := w) (g := { g with prot := frozenProt g σ }) (σ := σ) (a := ⟨g.loc id, 0, none⟩) (cap := n) (st := st) (full := true) (rows := chunks st n cells) (vs := c.toList) (by rw [chunks_len]; exact Nat.le_refl _) (fun _ => (chunks_len st n cells).symm) f2 (by rw [f1]; exact hr.mono hx) fun i u hu => by
          rw [add_lit']
          rw [Array.getElem?_toList] at hu
          have hlt := (Array.getElem?_eq_some_iff.1 hu).1
          have hsz : c.size = cells.length := by have := hr.1; simpa using this
          exact ⟨by simp [World.cell?, hh, hu], .inr ⟨id, cells, ho, rfl, rfl, by simp only; omega⟩⟩
        rw [chunks_len] at this
        exact this
      · exact h.mono hx
    · exact h.mono hx
theorem finV_ok {base : Nat} {w : World} {g : Gh} {σ : Heap} (hi : Inv base w g σ) {v : Value} {p : PV} (h : Rep w g σ v p) : Rep w { g with prot := frozenProt g σ } σ v (finV σ p) := by
  cases p <;> first | exact fin1_ok hi h | skip
  case agg cs =>
    obtain ⟨vs, rfl, hr⟩ := h.agg_inv
    refine RepL.agg ⟨by simpa using hr.1, fun i v p hv hp => ?_⟩
    simp only [List.getElem?_map, Option.map_eq_some_iff] at hp
    obtain ⟨q, hq, rfl⟩ := hp
    exact fin1_ok hi (hr.2 i v q hv hq)
  case tup cs =>
    obtain ⟨vs, rfl, hr⟩ := h.tup_inv
    refine RepL.tup ⟨by simpa using hr.1, fun i v p hv hp => ?_⟩
    simp only [List.getElem?_map, Option.map_eq_some_iff] at hp
    obtain ⟨q, hq, rfl⟩ := hp
    exact fin1_ok hi (hr.2 i v q hv hq)

theorem finArgs_ok {base : Nat} {w : World} {g : Gh} {σ : Heap} (hi : Inv base w g σ) : ∀ (ks : List (Bool × List (Option Nat))) {vs : List Value} {ps : List PV}, RepL w g σ vs ps → RepL w { g with prot := frozenProt g σ } σ vs (finArgs σ ks ps)
  | [], vs, ps, h => by
    refine ⟨by simpa [finArgs] using h.1, fun i v p hv hp => ?_⟩
    simp only [finArgs, List.getElem?_map, Option.map_eq_some_iff] at hp
    obtain ⟨q, hq, rfl⟩ := hp
    exact finV_ok hi (h.2 i v q hv hq)
  | _ :: ks, [], [], h => RepL.nil _ _ _
  | (b, sh) :: ks, v :: vs, p :: ps, h => by
    simp only [finArgs]
    exact RepL.cons (canonV_ok (finV_ok hi h.head) sh) (finArgs_ok hi ks h.tail)
  | _ :: _, [], _ :: _, h => by have := h.1; simp at this
  | _ :: _, _ :: _, [], h => by have := h.1; simp at this

theorem pure_ok (SH : SoundH P C H) (hm : P.follows .mixedOrders = true) (hS : ∀ fs, sortFn P fs = true → SortOK P fs) {f : Nat} {pf : PFunc} (hf : FuncOK P f pf) {args rs : List PV} (h : runPure C H pf args = some rs) : PureOK P f args rs := by
  unfold runPure at h
  simp only [Option.bind_eq_some_iff] at h
  obtain ⟨⟨vs, σ'⟩, h1, h2⟩ := h
  dsimp only at h2
  split at h2
  · rename_i hp
    cases h2
    obtain ⟨k1, k2⟩ := body_ok SH hm hS hf h1
    refine ⟨k1, hp, fun w prot us hprot hglob hr => ?_⟩
    have hi : Inv w.heap.size w (gh0 prot) [] := ⟨Nat.le_refl _, hprot, fun id o h => by simp at h, fun i j h => by simp at h, hglob⟩
    refine (k2 w.heap.size w (gh0 prot) us hi hr).mono fun e w' ⟨rvs, g', e1, e2, e3⟩ => ?_
    obtain ⟨f1, f2⟩ := frozen_ok e2.inv
    refine ⟨rvs, frozenProt g' σ', e1, e2.below, fun a ha => ?_, fun a ha hl => e2.old a (f2 a ha hl) hl, f1, ?_⟩
    · obtain ⟨v, hv⟩ := hprot a ha
      exact .inl (e2.ext.prot a v ha hv).1
    · have : RepL w' { g' with prot := frozenProt g' σ' } σ' rvs (finArgs σ' pf.keepr vs) := finArgs_ok e2.inv _ e3
      exact this.keep hp fun a v h1 h2 => ⟨h1, h2⟩
  · cases h2
theorem imp_ok (SH : SoundH P C H) (hm : P.follows .mixedOrders = true) (hS : ∀ fs, sortFn P fs = true → SortOK P fs) {f : Nat} {pf : PFunc} (hf : FuncOK P f pf) {args rs : List PV} {σ σ' : Heap} (h : runImp C H pf args σ = some (rs, σ')) : ImpOK P f args σ rs σ' := by
  unfold runImp at h
  simp only [Option.map_eq_some_iff, Prod.mk.injEq] at h
  obtain ⟨⟨vs, σ2⟩, h1, rfl, rfl⟩ := h
  obtain ⟨k1, k2⟩ := body_ok SH hm hS hf h1
  refine ⟨k1, fun base w g us hi hr => (k2 base w g us hi hr).mono fun e w' ⟨rvs, g', e1, e2, e3⟩ => ⟨rvs, g', e1, e2, keepArgs_ok e2.inv _ e3⟩⟩

/-- What is asked of the functions that are not evaluated. -/
structure ExtOK (P : Program) (C : Funcs) (X : Ext) : Prop where
  pure : ∀ f args rs, C f = none → X.pure f args = some rs → PureOK P f args rs
  imp : ∀ f args σ rs σ', C f = none → X.imp f args σ = some (rs, σ') → ImpOK P f args σ rs σ'
  sort : ∀ fs, sortFn P fs = true → SortOK P fs

theorem Hk_sound {X : Ext} (hm : P.follows .mixedOrders = true) (hC : ∀ f pf, C f = some pf → FuncOK P f pf) (hX : ExtOK P C X) : ∀ k, SoundH P C (Hk C X k)
  | 0 => { pure := fun _ _ _ h => (nomatch h), imp := fun _ _ _ _ _ h => (nomatch h), loop := fun _ _ _ _ _ _ h => (nomatch h) }
  | k + 1 => by
    have ih := Hk_sound hm hC hX k
    refine ⟨fun f args rs h => ?_, fun f args σ rs σ' h => ?_, fun pa e σ o e' σ' h c hc base w g a Q hi hs hQ => ?_⟩
    · simp only [Hk] at h
      split at h
      · rename_i pf hf
        exact pure_ok ih hm hX.sort (hC f pf hf) h
      · rename_i hf
        exact hX.pure f args rs hf h
    · simp only [Hk] at h
      split at h
      · rename_i pf hf
        exact imp_ok ih hm hX.sort (hC f pf hf) h
      · rename_i hf
        exact hX.imp f args σ rs σ' hf h
    · simp only [Hk, loopStep, Option.bind_eq_some_iff] at h
      obtain ⟨⟨o1, e1, σ1⟩, k1, k2⟩ := h
      refine loopIn_step (code_ok ih hm hX.sort c hc k1 hi hs fun a' w' g' hd hp hs' => ?_)
      cases o1 with
      | norm => exact ih.loop pa _ σ1 o e' σ' k2 c hc base w' g' a' Q hp.inv (headE_ok pa hs') fun a'' w'' g'' hd' hp' hs'' => hQ a'' w'' g'' (hd'.trans hd) (hp.trans hp') hs''
      | exit id =>
        cases k2
        exact hQ a' w' g' hd hp hs'
      | ret =>
        cases k2
        exact hQ a' w' g' hd hp hs'

/-- THE EVALUATOR IS RIGHT. -/
theorem pure_sound {X : Ext} (hm : P.follows .mixedOrders = true) (hC : ∀ f pf, C f = some pf → FuncOK P f pf) (hX : ExtOK P C X) {f : Nat} {args rs : List PV} (h : (Hw C X).pure f args = some rs) : PureOK P f args rs := by
  obtain ⟨k, hk⟩ := Hw_pure.1 h
  exact (Hk_sound hm hC hX k).pure f args rs hk
end
end Go.PE
