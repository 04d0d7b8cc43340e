/- The operations, sixth part: make, maps, min, max; all of them together. -/
import Derived.Test.YtkpbfldnickghaaDoorPEg
set_option linter.unusedVariables false
set_option linter.unusedSimpArgs false
set_option linter.unusedSectionVars false
namespace Go.PE
variable [Globs]
open Go.RowKit (Below)
open Go.MapKept (bytes_beq)
section
variable {P : Program} {base : Nat} {w : World} {g : Gh} {σ : Heap} {a : Act} {e : Env} {o : Oper}

theorem op_mkslice (hi : Inv base w g σ) (hs : Sim w g σ a e) {t el : TypeId} {i : TypeInfo} {z : Value} (ht : P.underlying t = some (.slice el)) (hinfo : P.info? el = some i) (hz : i.zero = some z) (hpos : 0 < i.size) {zs : List PV} (hzs : pvConsts z.cells.toList = some zs) (hzl : zs.length = i.size) (hb0 : 0 < i.bytes)
    {l c : Operand} {pl pc : Opd} (hl : cOpd l = some pl) (hc : cOpd c = some pc) {p : PV} {σ' : Heap} (h : evPrim e σ (.mkslice el i.size i.bytes zs pl pc) = some (p, σ')) :
    ValOK P base w g σ (Instr.makeSlice t (a.eval l) (a.eval c)) p σ' := by
  have hrl := ev_ok hs hl
  have hrc := ev_ok hs hc
  have hzr := pvConsts_rep (w := w) (g := g) (σ := σ) hzs
  have hzsz : z.cells.size = i.size := by have := hzr.1; simp only [Array.length_toList] at this; omega
  have small : ∀ n : Int, 0 ≤ n → n * i.bytes ≤ 140737488355328 → n ≤ 140737488355328 := fun n h0 hn => by
    have := Int.mul_le_mul_of_nonneg_left (show (1 : Int) ≤ i.bytes by omega) h0
    omega
  simp only [evPrim] at h
  split at h
  · rename_i n m e1 e2
    rw [e1] at hrl
    rw [e2] at hrc
    rw [hrl.int_inv, hrc.int_inv]
    split at h
    · rename_i hcond
      obtain ⟨c1, rfl, c3⟩ := hcond
      cases h
      have hsm := small n c1 c3
      have hrun := run_make (P := P) w t el i z ht hinfo hz .i64 .i64 n n c1 (Int.le_refl _) (by rw [Int.mul_comm]; omega) (by omega)
      have hcells : RepL w g σ (madeCells z.cells (n.toNat * i.size)).toList (List.replicate n.toNat zs).flatten := by
        have := made_flat z.cells n.toNat (by omega)
        rw [hzsz] at this
        unfold madeCells
        rw [hzsz, this]
        exact rep_flat hzr _
      obtain ⟨g', h1, h2, _, _⟩ := hi.push (.cells (madeCells z.cells (n.toNat * i.size)) el) (.box (List.replicate n.toNat zs).flatten) 0 (fun _ => False) (fun a h => h.elim) fun g' hp hl _ hx => by
        refine ⟨by rw [hl]; exact hi.size, ⟨_, el, by rw [hl]; exact heap_alloc_new w _, hcells.mono hx⟩, fun a ha he => ?_⟩
        rw [hl] at he
        rcases (hp a).1 ha with h | h
        · obtain ⟨v, hv⟩ := hi.prot a h
          have := block_lt hv
          omega
        · exact h
      refine ⟨_, _, g', hrun, h1, .own _ _ _ _ ⟨⟨_, _, rfl⟩, ?_⟩⟩
      simp only [List.getElem?_concat_length]
      intro _
      rw [h2]
    · split at h
      · rename_i hcond
        obtain ⟨rfl, c2, c3⟩ := hcond
        cases h
        have hsm := small m c2 c3
        have hrun := run_make (P := P) w t el i z ht hinfo hz .i64 .i64 0 m (Int.le_refl _) c2 (by rw [Int.mul_comm]; omega) (by omega)
        obtain ⟨g', q1, q2⟩ := op_newlog hi el (rows := []) (st := i.size) (vals := []) (RepL.nil _ _ _) (fun r h => by simp at h) rfl (cap := m.toNat) (Nat.zero_le _) (by unfold maxLen; omega) (c := madeCells z.cells (m.toNat * i.size)) (by rw [size_madeCells]) (fun j u h => by simp at h)
        exact ⟨_, _, g', hrun, q1, q2⟩
      · cases h
  · cases h

theorem op_mkmap (hi : Inv base w g σ) {t : TypeId} : ValOK P base w g σ (Instr.makeMap t none) (.mp σ.length) (σ ++ [.map []]) := by
  obtain ⟨g', h1, h2, _, _⟩ := hi.push (.map #[] 0) (.map []) 0 (fun _ => False) (fun a h => h.elim) fun g' hp hl _ hx => by
    refine ⟨by rw [hl]; exact hi.size, #[], 0, by rw [hl]; exact heap_alloc_new w _, rfl, Born.nil _, fun i e kv h => by simp at h⟩
  exact ⟨.map (some w.heap.size), _, g', by simp [Instr.makeMap], h1, .mp _ _ ⟨[], by simp, by rw [h2]⟩⟩

/-! ### Maps -/
theorem tyk_key {kt : TypeId} {p : PV} (h : keyOK (tyk P kt) p = true) : ∃ d, P.underlying kt = some d ∧ ((∃ k n, p = .int k n ∧ ∃ k0, d = .int k0) ∨ (∃ s, p = .str s ∧ d = .string) ∨ ∃ b, p = .bool b ∧ d = .bool) := by
  unfold tyk at h
  split at h <;> first
    | (rename_i hd; refine ⟨_, hd, ?_⟩; cases p <;> first | (simp [keyOK] at h; done) | exact .inl ⟨_, _, rfl, _, rfl⟩ | exact .inr (.inl ⟨_, rfl, rfl⟩) | exact .inr (.inr ⟨_, rfl, rfl⟩))
    | (cases p <;> simp [keyOK] at h; done)

theorem bytes_beq_list (x y : ByteArray) : (x == y) = (x.data.toList == y.data.toList) := by
  rw [Bool.eq_iff_iff, bytes_beq, beq_iff_eq]
  constructor
  · rintro rfl; rfl
  · intro h
    obtain ⟨⟨x⟩⟩ := x
    obtain ⟨⟨y⟩⟩ := y
    simp at h
    subst h
    rfl
theorem sameNow_ok {d : TypeDesc} {kv kv' : Value} {kp kp' : PV} (h1 : Rep w g σ kv kp) (h2 : Rep w g σ kv' kp') (hd : (∃ k n, kp = .int k n ∧ ∃ k0, d = .int k0) ∨ (∃ s, kp = .str s ∧ d = .string) ∨ ∃ b, kp = .bool b ∧ d = .bool) {r : Bool} (h : keyEq kp kp' = some r) :
    Instr.sameNow d kv kv' = some r := by
  rcases hd with ⟨k, n, rfl, k0, rfl⟩ | ⟨s, rfl, rfl⟩ | ⟨b, rfl, rfl⟩
  · rw [h1.int_inv]
    cases kp' <;> first | (simp [keyEq] at h; done) | skip
    rw [h2.int_inv]
    simpa [keyEq, Instr.sameNow] using h
  · obtain ⟨s1, rfl, rfl⟩ := h1.str_inv
    cases kp' <;> first | (simp [keyEq] at h; done) | skip
    obtain ⟨s2, rfl, rfl⟩ := h2.str_inv
    simp only [keyEq, Option.some.injEq] at h
    simp only [Instr.sameNow, bytes_beq_list, h]
  · rw [h1.bool_inv]
    cases kp' <;> first | (simp [keyEq] at h; done) | skip
    rw [h2.bool_inv]
    simpa [keyEq, Instr.sameNow] using h
theorem findNow_ok {d : TypeDesc} {kv : Value} {kp : PV} (h1 : Rep w g σ kv kp) (hd : (∃ k n, kp = .int k n ∧ ∃ k0, d = .int k0) ∨ (∃ s, kp = .str s ∧ d = .string) ∨ ∃ b, kp = .bool b ∧ d = .bool) :
    ∀ (ents : List MapEntry) (es : List (PV × PV)) (i : Nat), ents.length = es.length → (∀ (j : Nat) x kv, ents[j]? = some x → es[j]? = some kv → Rep w g σ x.key kv.1 ∧ Rep w g σ x.val kv.2) → ∀ {r : Option (Nat × PV)}, findP kp es i = some r →
      (r = none ∧ Instr.findNow d kv ents i = some none) ∨ ∃ (j : Nat) (p : PV) (x : MapEntry) (q : PV × PV), r = some (i + j, p) ∧ ents[j]? = some x ∧ es[j]? = some q ∧ q.2 = p ∧ Instr.findNow d kv ents i = some (some (i + j, x.val)) ∧ Rep w g σ x.val p ∧ Instr.sameNow d kv x.key = some true
  | [], [], i, _, _, r, h => by
    simp only [findP, Option.some.injEq] at h
    exact .inl ⟨h.symm, rfl⟩
  | [], _ :: _, _, hl, _, _, _ => by simp at hl
  | _ :: _, [], _, hl, _, _, _ => by simp at hl
  | x :: ents, (k', v') :: es, i, hl, hr, r, h => by
    obtain ⟨r1, r2⟩ := hr 0 x (k', v') (by simp) (by simp)
    simp only [findP] at h
    split at h
    · rename_i hk
      cases h
      have := sameNow_ok h1 r1 hd hk
      exact .inr ⟨0, v', x, (k', v'), rfl, rfl, rfl, rfl, by simp [Instr.findNow, this], r2, this⟩
    · rename_i hk
      have hs := sameNow_ok h1 r1 hd hk
      rcases findNow_ok h1 hd ents es (i + 1) (by simpa using hl) (fun j x kv h1 h2 => hr (j + 1) x kv (by simpa using h1) (by simpa using h2)) h with ⟨e1, e2⟩ | ⟨j, p, y, q, e1, e2, e3, e4, e5, e6, e7⟩
      · exact .inl ⟨e1, by simp [Instr.findNow, hs, e2]⟩
      · refine .inr ⟨j + 1, p, y, q, by rw [e1]; congr 2; omega, by simpa using e2, by simpa using e3, e4, ?_, e6, e7⟩
        simp only [Instr.findNow, hs, e5]
        congr 3
        omega
    · cases h

theorem isKey_of {d : TypeDesc} {kv : Value} {kp : PV} (h1 : Rep w g σ kv kp) (hd : (∃ k n, kp = .int k n ∧ ∃ k0, d = .int k0) ∨ (∃ s, kp = .str s ∧ d = .string) ∨ ∃ b, kp = .bool b ∧ d = .bool) (n : Nat) (em : Bool) {kt : TypeId} (hu : P.underlying kt = some d) : (Instr.checkKey em (n + 1) kt kv).run P w = .ok () w := by
  unfold Instr.checkKey
  simp only [Sem.run_bind, run_underlying hu, Result.andThen]
  rcases hd with ⟨k, n, rfl, k0, rfl⟩ | ⟨s, rfl, rfl⟩ | ⟨b, rfl, rfl⟩
  · rw [h1.int_inv]; rfl
  · obtain ⟨s1, rfl, rfl⟩ := h1.str_inv; rfl
  · rw [h1.bool_inv]; rfl

theorem mapOf_ok (hi : Inv base w g σ) {v : Value} {p : PV} (h : Rep w g σ v p) {es : List (PV × PV)} (hm : mapOf σ p = some es) :
    ∃ ents : Array MapEntry, (v = .map none ∧ ents = #[] ∨ ∃ r clock, v = .map (some r) ∧ w.heap[r]? = some (.map ents clock)) ∧ ents.toList.length = es.length ∧ ∀ (j : Nat) x kv, ents.toList[j]? = some x → es[j]? = some kv → Rep w g σ x.key kv.1 ∧ Rep w g σ x.val kv.2 := by
  unfold mapOf at hm
  split at hm
  · cases hm
    refine ⟨#[], .inl ⟨?_, rfl⟩, rfl, fun j x kv h => by simp at h⟩
    cases h
    rfl
  · split at hm
    · rename_i id es' ho
      cases hm
      obtain ⟨es2, k1, k2⟩ := h.mp_inv
      obtain ⟨_, ents, clock, hh, hsz, _, hr⟩ := hi.obj _ _ ho
      exact ⟨ents, .inr ⟨_, clock, k2, hh⟩, by simpa using hsz, fun j x kv h1 h2 => hr j x kv (by simpa using h1) h2⟩
    · cases hm
  · cases hm

theorem op_lookup (hi : Inv base w g σ) (hs : Sim w g σ a e) {t kt et : TypeId} {i : TypeInfo} {z : Value} {zp : PV} (ht : P.underlying t = some (.map kt et)) (hinfo : P.info? et = some i) (hz : i.zero = some z) (hzp : pvConst z = some zp) {x k : Operand} {px pk : Opd} (hx : cOpd x = some px) (hk : cOpd k = some pk)
    {ok : Bool} {p : PV} {σ' : Heap} (h : evPrim e σ (.lookup (tyk P kt) zp px pk ok) = some (p, σ')) : ValOK P base w g σ (Instr.lookup t (a.eval x) (a.eval k) ok) p σ' := by
  have hrx := ev_ok hs hx
  have hrk := ev_ok hs hk
  simp only [evPrim] at h
  split at h
  · rename_i hkey
    obtain ⟨d, hd, hdd⟩ := tyk_key hkey
    simp only [Option.bind_eq_some_iff, Option.map_eq_some_iff] at h
    obtain ⟨es, hm, r, hf, hp⟩ := h
    obtain ⟨ents, hv, hl, hr⟩ := mapOf_ok hi hrx hm
    have hck := isKey_of (P := P) hrk hdd 9999 ents.isEmpty hd
    have hfind := findNow_ok hrk hdd ents.toList es 0 hl hr hf
    have hz0 : (zeroValue et).run P w = .ok z w := run_zero_of hinfo hz w
    rcases hfind with ⟨rfl, hf'⟩ | ⟨j, q, y, kv, rfl, e1, e2, e3, hf', hrep, _⟩
    · simp only [Prod.mk.injEq] at hp
      obtain ⟨rfl, rfl⟩ := hp
      have hfk : (Instr.findKey kt (a.eval k) ents.toList).run P w = .ok none w := by simp [Instr.findKey, run_underlying hd, hf']
      refine .pure_ hi (v := if ok then .tuple #[z, .bool false] else z) ?_ ?_
      · unfold Instr.lookup
        rcases hv with ⟨hv, rfl⟩ | ⟨r, clock, hv, hh⟩
        · simp only [Sem.run_bind, run_underlying ht, Result.andThen_ok, hv, hck, hfk, hz0, Sem.run_pure]
        · have hg : (getObj r).run P w = .ok (.map ents clock) w := by simp [getObj, Sem.run, hh]
          simp only [Sem.run_bind, run_underlying ht, Result.andThen_ok, hv, hg, hck, hfk, hz0, Sem.run_pure]
      · cases ok
        · exact pvConst_rep hzp
        · exact (RepL.cons (pvConst_rep hzp) (RepL.cons (.bool false) (RepL.nil _ _ _)) : RepL w g σ (#[z, .bool false] : Array Value).toList _).tup
    · simp only [Nat.zero_add, Prod.mk.injEq] at hp
      obtain ⟨rfl, rfl⟩ := hp
      have hfk : (Instr.findKey kt (a.eval k) ents.toList).run P w = .ok (some (0 + j, y.val)) w := by simp [Instr.findKey, run_underlying hd, hf']
      refine .pure_ hi (v := if ok then .tuple #[y.val, .bool true] else y.val) ?_ ?_
      · unfold Instr.lookup
        rcases hv with ⟨hv, rfl⟩ | ⟨r, clock, hv, hh⟩
        · simp only [Sem.run_bind, run_underlying ht, Result.andThen_ok, hv, hck, hfk, Sem.run_pure]
        · have hg : (getObj r).run P w = .ok (.map ents clock) w := by simp [getObj, Sem.run, hh]
          simp only [Sem.run_bind, run_underlying ht, Result.andThen_ok, hv, hg, hck, hfk, Sem.run_pure]
      · cases ok
        · exact hrep
        · exact (RepL.cons hrep (RepL.cons (.bool true) (RepL.nil _ _ _)) : RepL w g σ (#[y.val, .bool true] : Array Value).toList _).tup
  · cases h

/-- A map that is written. -/
theorem map_prog (hi : Inv base w g σ) {id : Nat} {es es' : List (PV × PV)} (ho : σ[id]? = some (.map es)) {ents ents' : Array MapEntry} {clock clock' : Nat} (hh : w.heap[g.loc id]? = some (.map ents clock))
    (hl : ents'.size = es'.length) (hbn : Born ents' clock') (hr : ∀ (j : Nat) x kv, ents'[j]? = some x → es'[j]? = some kv → Rep w g σ x.key kv.1 ∧ Rep w g σ x.val kv.2) :
    Prog base w g σ { w with heap := w.heap.setIfInBounds (g.loc id) (.map ents' clock') } g (σ.set id (.map es')) := by
  have hid := (List.getElem?_eq_some_iff.1 ho).1
  have hob := hi.obj id _ ho
  have hlt := hob.lt
  have hne : ∀ b : Addr, g.prot b → b.block ≠ g.loc id := fun b hb he => by
    obtain ⟨v, hv⟩ := hi.prot b hb
    rw [World.cell?, he, hh] at hv
    cases hv
  have hoth : ∀ k, k ≠ g.loc id → (w.heap.setIfInBounds (g.loc id) (.map ents' clock'))[k]? = w.heap[k]? := fun k hk => by simp [Ne.symm hk]
  have hx : WExt w g σ { w with heap := w.heap.setIfInBounds (g.loc id) (.map ents' clock') } g (σ.set id (.map es')) := by
    refine ⟨fun b v hp hc => ⟨hp, ?_⟩, fun k ty st rows hk => ?_, fun k cs hk => ?_, fun k es2 hk => ?_⟩
    · rw [← hc]
      exact World.cell?_of_block (hoth _ (hne b hp))
    · have hne : id ≠ k := fun e => by subst e; rw [ho] at hk; cases hk
      exact ⟨rows, by rw [List.getElem?_set_ne hne]; exact hk, Nat.le_refl _, fun _ => ⟨rfl, rfl⟩⟩
    · have hne : id ≠ k := fun e => by subst e; rw [ho] at hk; cases hk
      exact ⟨cs, by rw [List.getElem?_set_ne hne]; exact hk, rfl, rfl⟩
    · by_cases hne : id = k
      · subst hne
        rw [ho] at hk
        cases hk
        exact ⟨es', by simp [hid], rfl⟩
      · exact ⟨es2, by rw [List.getElem?_set_ne hne]; exact hk, rfl⟩
  refine ⟨⟨by simpa using hi.size, fun b hb => ?_, fun k ob hk => ?_, fun i j h1 h2 => hi.inj i j (by simpa using h1) (by simpa using h2), Globs.mono hi.glob fun k hk => hoth k (by have := hob.1; omega)⟩, hx, ?_, fun _ h _ => h, fun b hlt hn => ⟨hoth b fun he => hn id hid he.symm, fun k hk => hn k (by simpa using hk), fun _ _ h => h⟩⟩
  · obtain ⟨v, hv⟩ := hi.prot b hb
    exact ⟨v, (hx.prot b v hb hv).2⟩
  · by_cases hne : id = k
    · subst hne
      have : ob = .map es' := by simpa [hid] using hk.symm
      subst this
      exact ⟨hob.1, ents', clock', by simp [hlt], hl, hbn, fun j x kv h1 h2 => ⟨(hr j x kv h1 h2).1.mono hx, (hr j x kv h1 h2).2.mono hx⟩⟩
    · rw [List.getElem?_set_ne hne] at hk
      have hk' := hi.obj k ob hk
      refine hk'.mono hx rfl rfl (hoth _ fun he => ?_) fun _ h _ => h
      exact hne (hi.inj id k hid ((List.getElem?_eq_some_iff.1 hk).1) he.symm)
  · exact ⟨rfl, rfl, rfl, by simp, fun k hk => hoth k (by have := hob.1; omega)⟩

theorem sameBits_ok {d : TypeDesc} {kv kv' : Value} (h : Instr.sameNow d kv kv' = some true) (hk : ∃ p, Rep w g σ kv p ∧ ((∃ k n, p = PV.int k n ∧ ∃ k0, d = .int k0) ∨ (∃ s, p = .str s ∧ d = .string) ∨ ∃ b, p = .bool b ∧ d = .bool)) : kv' = kv := by
  obtain ⟨p, hr, hd⟩ := hk
  rcases hd with ⟨k, n, rfl, k0, rfl⟩ | ⟨s, rfl, rfl⟩ | ⟨b, rfl, rfl⟩
  · rw [hr.int_inv] at h ⊢
    cases kv' <;> simp [Instr.sameNow] at h
    obtain ⟨rfl, rfl⟩ := h
    rfl
  · obtain ⟨s1, rfl, rfl⟩ := hr.str_inv
    cases kv' <;> simp [Instr.sameNow, bytes_beq] at h
    rw [h]
  · rw [hr.bool_inv] at h ⊢
    cases kv' <;> simp [Instr.sameNow] at h
    rw [h]

theorem op_mapup (hi : Inv base w g σ) (hs : Sim w g σ a e) {t kt et : TypeId} (ht : P.underlying t = some (.map kt et)) {x k v : Operand} {px pk pv : Opd} (hx : cOpd x = some px) (hk : cOpd k = some pk) (hv : cOpd v = some pv)
    {p : PV} {σ' : Heap} (h : evPrim e σ (.mapup (tyk P kt) px pk pv) = some (p, σ')) : ExecOK P base w g σ (do Instr.mapUpdate t (a.eval x) (a.eval k) (a.eval v); pure .skip) p σ' := by
  have hrx := ev_ok hs hx
  have hrk := ev_ok hs hk
  have hrv := ev_ok hs hv
  simp only [evPrim] at h
  split at h
  · rename_i id hpx
    rw [hpx] at hrx
    split at h
    · rename_i es ho
      simp only [Option.map_eq_some_iff] at h
      obtain ⟨r, hf, hp⟩ := h
      split at hf
      · rename_i hkey
        obtain ⟨d, hd, hdd⟩ := tyk_key hkey
        obtain ⟨es2, k1, k2⟩ := hrx.mp_inv
        rw [ho] at k1
        cases k1
        obtain ⟨q1, ents, clock, hh, hsz, hborn, hr⟩ := hi.obj _ _ ho
        have hck := isKey_of (P := P) hrk hdd 9999 false hd
        have hg : (getObj (g.loc id)).run P w = .ok (.map ents clock) w := by simp [getObj, Sem.run, hh]
        have hset : ∀ ob, (setObj (g.loc id) ob).run P w = .ok () { w with heap := w.heap.setIfInBounds (g.loc id) ob } := fun ob => by simp [setObj, Sem.run, hh]
        have hl : ents.toList.length = es.length := by simpa using hsz
        have hfind := findNow_ok hrk hdd ents.toList es 0 hl (fun j x kv h1 h2 => hr j x kv (by simpa using h1) h2) hf
        rcases hfind with ⟨rfl, hf'⟩ | ⟨j, q, y, kv, rfl, e1, e2, e3, hf', hrep, hsame⟩
        · simp only [Prod.mk.injEq] at hp
          obtain ⟨rfl, rfl⟩ := hp
          have hfk : (Instr.findKey kt (a.eval k) ents.toList).run P w = .ok none w := by simp [Instr.findKey, run_underlying hd, hf']
          refine ⟨undef, _, g, .inr ⟨?_, rfl⟩, map_prog hi ho hh (ents' := ents.push { key := a.eval k, val := a.eval v, born := clock }) (clock' := clock + 1) (by simp [hsz]) (hborn.push _ _) fun j x kv h1 h2 => ?_, Rep.und _ _ _⟩
          · unfold Instr.mapUpdate
            simp only [Sem.run_bind, run_underlying ht, Result.andThen_ok, k2, hg, hck, hfk, hset, Sem.run_pure]
          · rw [Array.getElem?_push] at h1
            split at h1
            · rename_i hj
              cases h1
              rw [hj, hsz, List.getElem?_concat_length] at h2
              cases h2
              exact ⟨hrk, hrv⟩
            · rename_i hj
              have hlt := (Array.getElem?_eq_some_iff.1 h1).1
              rw [List.getElem?_append_left (by omega)] at h2
              exact hr j x kv h1 h2
        · simp only [Nat.zero_add, Prod.mk.injEq] at hp
          obtain ⟨rfl, rfl⟩ := hp
          have hfk : (Instr.findKey kt (a.eval k) ents.toList).run P w = .ok (some (0 + j, y.val)) w := by simp [Instr.findKey, run_underlying hd, hf']
          have hkey' : y.key = a.eval k := sameBits_ok hsame ⟨_, hrk, hdd⟩
          have e1' : ents[j]? = some y := by simpa using e1
          have hst : (Instr.keyThatStays (((ents[j]?).map (·.key)).getD (a.eval k)) (a.eval k)).run P w = .ok (a.eval k) w := by
            rw [e1']
            simp only [Option.map_some, Option.getD_some, hkey']
            have hsb : Instr.sameBits 10000 (a.eval k) (a.eval k) = true := by
              rcases hdd with ⟨k', n', hp, _⟩ | ⟨s', hp, _⟩ | ⟨b', hp, _⟩
              · rw [hp] at hrk; rw [hrk.int_inv]; simp [Instr.sameBits]
              · rw [hp] at hrk; obtain ⟨s1, hs1, _⟩ := hrk.str_inv; rw [hs1]; simp [Instr.sameBits, bytes_beq]
              · rw [hp] at hrk; rw [hrk.bool_inv]; simp [Instr.sameBits]
            simp [Instr.keyThatStays, hsb]
          refine ⟨undef, _, g, .inr ⟨?_, rfl⟩, map_prog hi ho hh (ents' := ents.modify j fun e => { e with key := a.eval k, val := a.eval v }) (clock' := clock) (by simp [hsz]) (hborn.modify _ _ _) fun j' x kv' h1 h2 => ?_, Rep.und _ _ _⟩
          · unfold Instr.mapUpdate
            simp only [Sem.run_bind, run_underlying ht, Result.andThen_ok, k2, hg, hck, hfk, Nat.zero_add, hst, hset, Sem.run_pure]
          · rw [Array.getElem?_modify] at h1
            rw [List.getElem?_set] at h2
            by_cases hj : j = j'
            · subst hj
              simp only [if_true] at h1 h2
              rw [e1'] at h1
              cases h1
              split at h2
              · cases h2
                exact ⟨hrk, hrv⟩
              · cases h2
            · rw [if_neg hj] at h1 h2
              exact hr j' x kv' h1 h2
      · cases hf
    · cases h
  · cases h

/-! ### min, max -/
theorem intsOf_ok : ∀ {ps : List PV} {vs : List Value} {k : IntKind} {ns : List Int}, RepL w g σ vs ps → intsOf ps = some (k, ns) → vs = ns.map (.int k)
  | [], _, _, _, _, h => by simp [intsOf] at h
  | [p], vs, k, ns, hr, h => by
    cases p <;> first | (simp [intsOf] at h; done) | skip
    rename_i k' n
    simp only [intsOf, Option.some.injEq, Prod.mk.injEq] at h
    obtain ⟨rfl, rfl⟩ := h
    match vs, hr with
    | [v], hr => simp [hr.head.int_inv]
    | [], hr => have := hr.1; simp at this
    | _ :: _ :: _, hr => have := hr.1; simp at this
  | p :: q :: ps, vs, k, ns, hr, h => by
    cases p <;> first | (simp [intsOf] at h; done) | skip
    rename_i k' n
    simp only [intsOf] at h
    split at h
    · rename_i k2 ns2 h2
      split at h
      · rename_i he
        subst he
        cases h
        match vs, hr with
        | v :: vs, hr =>
          rw [hr.head.int_inv, intsOf_ok hr.tail h2]
          rfl
        | [], hr => have := hr.1; simp at this
      · cases h
    · cases h
theorem run_maxL (k : IntKind) : ∀ (ns : List Int) (n : Int), ((ns.map (Value.int k)).foldlM Builtin.max2 (Value.int k n)).run P w = .ok (.int k (maxL n ns)) w
  | [], n => rfl
  | m :: ns, n => by
    simp only [List.map_cons, List.foldlM_cons, Builtin.max2, maxL, Sem.run_bind, Sem.run_pure, Result.andThen_ok]
    exact run_maxL k ns _
theorem run_minL (k : IntKind) : ∀ (ns : List Int) (n : Int), ((ns.map (Value.int k)).foldlM Builtin.min2 (Value.int k n)).run P w = .ok (.int k (minL n ns)) w
  | [], n => rfl
  | m :: ns, n => by
    simp only [List.map_cons, List.foldlM_cons, Builtin.min2, minL, Sem.run_bind, Sem.run_pure, Result.andThen_ok]
    exact run_minL k ns _
theorem op_max (hi : Inv base w g σ) (hs : Sim w g σ a e) {ts : Array TypeId} {ty : TypeId} {xs : Array Operand} {ps : List Opd} (hx : cOpds xs.toList = some ps) {p : PV} {σ' : Heap} (h : evPrim e σ (.mx ps) = some (p, σ')) : ValOK P base w g σ (Builtin.max_ ts ty (xs.map a.eval)) p σ' := by
  have hr := cOpds_ok hs hx
  simp only [evPrim] at h
  split at h
  · rename_i k n ns hi'
    cases h
    have hv := intsOf_ok hr hi'
    refine .pure_ hi (v := .int k (maxL n ns)) ?_ (.int _ _)
    unfold Builtin.max_
    rw [Array.toList_map, hv]
    exact run_maxL k ns n
  · cases h
theorem op_min (hi : Inv base w g σ) (hs : Sim w g σ a e) {ts : Array TypeId} {ty : TypeId} {xs : Array Operand} {ps : List Opd} (hx : cOpds xs.toList = some ps) {p : PV} {σ' : Heap} (h : evPrim e σ (.mn ps) = some (p, σ')) : ValOK P base w g σ (Builtin.min_ ts ty (xs.map a.eval)) p σ' := by
  have hr := cOpds_ok hs hx
  simp only [evPrim] at h
  split at h
  · rename_i k n ns hi'
    cases h
    have hv := intsOf_ok hr hi'
    refine .pure_ hi (v := .int k (minL n ns)) ?_ (.int _ _)
    unfold Builtin.min_
    rw [Array.toList_map, hv]
    exact run_minL k ns n
  · cases h

/-! ### All of them -/
theorem prim_ok (hi : Inv base w g σ) (hs : Sim w g σ a e) {pop : POp} (hc : compOp P o = some pop) (hcall : ∀ pc f xs, pop ≠ .call pc f xs) {p : PV} {σ' : Heap} (h : evPrim e σ pop = some (p, σ')) : ExecOK P base w g σ (execOp a.eval o) p σ' := by
  have hc0 := hc
  unfold compOp at hc
  split at hc
  case h_1 x ho =>
    simp only [Option.map_eq_some_iff] at hc
    obtain ⟨px, hx, rfl⟩ := hc
    cases h
    unfold execOp
    simp only [ho]
    exact op_mov hi hs hx
  case h_2 x ho =>
    simp only [Option.map_eq_some_iff] at hc
    obtain ⟨px, hx, rfl⟩ := hc
    cases h
    unfold execOp
    simp only [ho]
    exact op_mov hi hs hx
  case h_3 c x y ho =>
    split at hc
    · rename_i pc px py h1 h2 h3
      cases hc
      unfold execOp
      simp only [ho]
      exact op_pick hi hs h1 h2 h3 h
    · cases hc
  case h_4 t ho =>
    split at hc
    · rename_i i h1
      split at hc
      · rename_i z h2
        simp only [Option.map_eq_some_iff] at hc
        obtain ⟨cs, h3, rfl⟩ := hc
        cases h
        unfold execOp
        simp only [ho]
        exact (op_alloc hi h1 h2 h3).exec
      · cases hc
    · cases hc
  case h_5 t x ho =>
    simp only [Option.map_eq_some_iff] at hc
    obtain ⟨px, hx, rfl⟩ := hc
    simp only [evPrim] at h
    split at h
    · rename_i cs h1
      cases h
      unfold execOp
      simp only [ho]
      exact (op_box hi hs hx h1).exec
    · cases h
  case h_6 t parts ho =>
    unfold execOp
    simp only [ho]
    exact (op_build hi hs ho hc0 h).exec
  case h_7 t len parts ho =>
    unfold execOp
    simp only [ho]
    exact (op_bslice hi hs ho hc0 h).exec
  case h_8 t x ho =>
    split at hc
    · rename_i d i px h1 h2 h3
      cases hc
      simp only [evPrim, Option.bind_eq_some_iff, Option.map_eq_some_iff, Prod.mk.injEq] at h
      obtain ⟨cs, k1, v, k2, rfl, rfl⟩ := h
      unfold execOp
      simp only [ho]
      exact (op_load hi hs h1 h2 h3 k1 k2).exec
    · cases hc
  case h_9 t x y ho =>
    split at hc
    · rename_i i px py h1 h2 h3
      cases hc
      simp only [evPrim] at h
      split at h
      · rename_i id off ys k1 k2
        split at h
        · rename_i cells k3
          split at h
          · rename_i k4
            cases h
            unfold execOp
            simp only [ho]
            exact op_store hi hs h1 h2 h3 k1 k2 k3 k4.1 k4.2.1 k4.2.2
          · cases h
        · cases h
      · cases h
    · cases hc
  case h_10 x ho =>
    simp only [Option.map_eq_some_iff] at hc
    obtain ⟨px, hx, rfl⟩ := hc
    exact op_nilchk hi hs hx ho h
  case h_11 op t x y yt ho =>
    split at hc
    · rename_i px py h1 h2
      cases hc
      simp only [evPrim, Option.map_eq_some_iff, Prod.mk.injEq] at h
      obtain ⟨v, k1, rfl, rfl⟩ := h
      unfold execOp
      simp only [ho]
      exact (op_bin hi hs h1 h2 k1).exec
    · cases hc
  case h_12 op t x ho =>
    simp only [Option.map_eq_some_iff] at hc
    obtain ⟨px, hx, rfl⟩ := hc
    simp only [evPrim, Option.map_eq_some_iff, Prod.mk.injEq] at h
    obtain ⟨v, k1, rfl, rfl⟩ := h
    unfold execOp
    simp only [ho]
    exact (op_un hi hs hx k1).exec
  case h_13 src dst x ho =>
    split at hc
    · rename_i d k px h1 h2 h3
      cases hc
      simp only [evPrim] at h
      split at h
      · rename_i k' n k1
        cases h
        unfold execOp
        simp only [ho]
        exact (op_toint hi hs h1 h2 h3 k1).exec
      · cases h
    · rename_i px h1 h2 h3
      cases hc
      simp only [evPrim] at h
      split at h
      · rename_i l k1
        cases h
        unfold execOp
        simp only [ho]
        exact (op_tostr hi hs h1 h2 h3 k1).exec
      · cases h
    · cases hc
  case h_14 fn first captured ho =>
    split at hc
    · rename_i f caps h1 h2
      cases hc
      cases h
      have : first = #[] := by
        cases first
        simp at h1
        rw [h1]
      subst this
      unfold execOp
      simp only [ho]
      exact (op_mkfn hi hs h2).exec
    · cases hc
  case h_15 t ho =>
    cases hc
    cases h
    unfold execOp
    simp only [ho]
    exact (op_mkmap hi).exec
  case h_16 t l c ho =>
    split at hc
    · rename_i el h1
      split at hc
      · rename_i i pl pc h2 h3 h4
        split at hc
        · rename_i z h5
          split at hc
          · rename_i zs h6
            split at hc
            · rename_i h7
              cases hc
              unfold execOp
              simp only [ho]
              exact (op_mkslice hi hs h1 h2 h5 h7.1 h6 h7.2.1 h7.2.2 h3 h4 h).exec
            · cases hc
          · cases hc
        · cases hc
      · cases hc
    · cases hc
  case h_17 t x lo hi' mx ho =>
    split at hc
    · rename_i px plo phi pmx h1 h2 h3 h4 h5
      cases hc
      simp only [evPrim, Option.map_eq_some_iff, Prod.mk.injEq] at h
      obtain ⟨v, k1, rfl, rfl⟩ := h
      unfold execOp
      simp only [ho]
      exact (op_slice_str hi hs h1 h2 h3 h4 h5 k1).exec
    · rename_i el px plo phi pmx h1 h2 h3 h4 h5
      split at hc
      · rename_i i h6
        split at hc
        · cases hc
          simp only [evPrim, Option.map_eq_some_iff, Prod.mk.injEq] at h
          obtain ⟨v, k1, rfl, rfl⟩ := h
          unfold execOp
          simp only [ho]
          exact (op_slice hi hs h1 h6 h2 h3 h4 h5 k1).exec
        · cases hc
      · cases hc
    · cases hc
  case h_18 t x f ho =>
    split at hc
    · rename_i fields px h1 h2
      split at hc
      · rename_i fd h3
        split at hc
        · rename_i i h4
          split at hc
          · rename_i h5
            cases hc
            unfold execOp
            simp only [ho]
            exact (op_faddr hi hs h1 h3 h4 h5 h2 h).exec
          · cases hc
        · cases hc
      · cases hc
    · cases hc
  case h_19 t x f ho =>
    split at hc
    · rename_i fields px h1 h2
      split at hc
      · rename_i fd h3
        split at hc
        · rename_i d i h4 h5
          cases hc
          unfold execOp
          simp only [ho]
          exact (op_fld hi hs h1 h3 h4 h5 h2 h).exec
        · cases hc
      · cases hc
    · cases hc
  case h_20 t x i' ho =>
    split at hc
    · rename_i el px pix h1 h2 h3
      split at hc
      · rename_i i h4
        split at hc
        · rename_i h5
          cases hc
          unfold execOp
          simp only [ho]
          exact (op_iaddr hi hs h1 h4 h5 h2 h3 h).exec
        · cases hc
      · cases hc
    · cases hc
  case h_21 t x i' ho =>
    split at hc
    · rename_i px pix h1 h2 h3
      cases hc
      unfold execOp
      simp only [ho]
      exact (op_idxs hi hs h1 h2 h3 h).exec
    · cases hc
  case h_22 t x k ok ho =>
    split at hc
    · rename_i kt et px pk h1 h2 h3
      split at hc
      · rename_i i h4
        split at hc
        · rename_i z h5
          split at hc
          · rename_i zp h6
            split at hc
            · cases hc
              unfold execOp
              simp only [ho]
              exact (op_lookup hi hs h1 h4 h5 h6 h2 h3 h).exec
            · cases hc
          · cases hc
        · cases hc
      · cases hc
    · cases hc
  case h_23 t m k v ho =>
    split at hc
    · rename_i kt et pm pk pv h1 h2 h3 h4
      split at hc
      · cases hc
        unfold execOp
        simp only [ho]
        exact op_mapup hi hs h1 h2 h3 h4 h
      · cases hc
    · cases hc
  case h_24 t m k v ho =>
    split at hc
    · rename_i kt et pm pk pv h1 h2 h3 h4
      split at hc
      · cases hc
        unfold execOp
        simp only [ho]
        exact op_mapup hi hs h1 h2 h3 h4 h
      · cases hc
    · cases hc
  case h_25 x i ho =>
    simp only [Option.map_eq_some_iff] at hc
    obtain ⟨px, hx, rfl⟩ := hc
    unfold execOp
    simp only [ho]
    exact (op_ext hi hs hx h).exec
  case h_26 t x ho =>
    split at hc
    · cases hc
    · rename_i d px h1 h2 h3
      cases hc
      cases h
      unfold execOp
      simp only [ho]
      exact (op_mkif hi hs h2 (fun ms hd => h1 ms hd) h3).exec
    · cases hc
  case h_27 c ho =>
    obtain ⟨callee, args, argTypes⟩ := c
    dsimp only at hc
    have bi : ∀ (b : Builtin) (s : Sem Value), callee = .builtin b → Go.builtin b argTypes o.type (args.map fun | .const _ => true | _ => false) (args.map a.eval) = (do pure (.value (← s))) → ValOK P base w g σ s p σ' → ExecOK P base w g σ (execOp a.eval o) p σ' := by
      intro b s hb hs' hv
      unfold execOp
      simp only [ho, hb]
      have e0 : (do
        let d ← resolve a.eval { callee := .builtin b, args := args, argTypes := argTypes } o.type
        invoke d.target d.args : Sem Next) = Go.builtin b argTypes o.type (args.map fun | .const _ => true | _ => false) (args.map a.eval) := rfl
      rw [e0, hs']
      exact hv.exec
    split at hc
    · split at hc
      · cases hc
        exact absurd rfl (hcall _ _ _)
      · cases hc
    · split at hc
      · rename_i x t h1 h2
        simp only [Option.map_eq_some_iff] at hc
        obtain ⟨px, hx, rfl⟩ := hc
        simp only [evPrim, Option.map_eq_some_iff, Prod.mk.injEq] at h
        obtain ⟨n, k1, rfl, rfl⟩ := h
        have e1 : args = #[x] := by cases args; simp at h1; rw [h1]
        have e2 : argTypes = #[t] := by cases argTypes; simp at h2; rw [h2]
        subst e1
        subst e2
        exact bi .len _ rfl rfl (by simpa using op_len hi hs hx k1)
      · cases hc
    · split at hc
      · rename_i s x t t' h1 h2
        have e1 : args = #[s, x] := by cases args; simp at h1; rw [h1]
        have e2 : argTypes = #[t, t'] := by cases argTypes; simp at h2; rw [h2]
        subst e1
        subst e2
        split at hc
        · rename_i ht
          subst ht
          split at hc
          · rename_i el k1
            split at hc
            · rename_i i ps px k2 k3 k4
              split at hc
              · rename_i z k5
                split at hc
                · rename_i k6
                  split at hc
                  · rename_i k7
                    cases hc
                    have e3 : a.eval s = .slice none 0 0 := by
                      unfold isNilConst at k7
                      split at k7
                      · rfl
                      · cases k7
                    refine bi .append _ rfl rfl ?_
                    have := op_copy (ty := o.type) hi hs k1 k2 k5 k6.1 k6.2.1 k6.2.2 k4 h
                    simpa [e3] using this
                  · cases hc
                    refine bi .append _ rfl rfl ?_
                    have := op_append (ty := o.type) hi hs k1 k2 k5 k6.1 k6.2.1 k6.2.2 k3 k4 h
                    simpa using this
                · cases hc
              · cases hc
            · cases hc
          · cases hc
        · cases hc
      · cases hc
    · simp only [Option.map_eq_some_iff] at hc
      obtain ⟨ps, hx, rfl⟩ := hc
      exact bi .max _ rfl rfl (op_max hi hs hx h)
    · simp only [Option.map_eq_some_iff] at hc
      obtain ⟨ps, hx, rfl⟩ := hc
      exact bi .min _ rfl rfl (op_min hi hs hx h)
    · cases hc
  case h_28 => cases hc
end
end Go.PE
