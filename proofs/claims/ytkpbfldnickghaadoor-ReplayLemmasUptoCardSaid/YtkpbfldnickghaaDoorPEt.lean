/- Objects of the abstract heap, in proofs: what is written and what stays; values that grow by append. -/
import Derived.Test.YtkpbfldnickghaaDoorPEo
set_option linter.unusedVariables false
set_option linter.unusedSimpArgs false
namespace Go.PE

/-- All objects but these stay, and none goes. -/
def Stay (S : Nat → Prop) (σ τ : Heap) : Prop := σ.length ≤ τ.length ∧ ∀ id, id < σ.length → ¬ S id → τ[id]? = σ[id]?
theorem Stay.refl (S : Nat → Prop) (σ : Heap) : Stay S σ σ := ⟨Nat.le_refl _, fun _ _ _ => rfl⟩
theorem Stay.trans {S : Nat → Prop} {σ τ ρ : Heap} (h : Stay S σ τ) (k : Stay S τ ρ) : Stay S σ ρ :=
  ⟨Nat.le_trans h.1 k.1, fun id hid hs => (k.2 id (Nat.lt_of_lt_of_le hid h.1) hs).trans (h.2 id hid hs)⟩
theorem Stay.mono {S T : Nat → Prop} {σ τ : Heap} (h : Stay S σ τ) (hst : ∀ id, id < σ.length → S id → T id) : Stay T σ τ := ⟨h.1, fun id hid ht => h.2 id hid fun hs => ht (hst id hid hs)⟩
theorem Stay.get {S : Nat → Prop} {σ τ : Heap} (h : Stay S σ τ) {id : Nat} {o : Obj} (ho : σ[id]? = some o) (hs : ¬ S id) : τ[id]? = some o := by
  rw [h.2 id (List.getElem?_eq_some_iff.1 ho).1 hs]; exact ho
theorem Stay.push (S : Nat → Prop) (σ l : Heap) : Stay S σ (σ ++ l) := ⟨by simp, fun id hid _ => List.getElem?_append_left hid⟩
theorem Stay.set {S : Nat → Prop} {σ : Heap} {id : Nat} (hs : S id) (o : Obj) : Stay S σ (σ.set id o) := ⟨by simp, fun k hk hn => List.getElem?_set_ne fun e => hn (by rw [← e]; exact hs)⟩
theorem get_last (σ : Heap) (o : Obj) : (σ ++ [o])[σ.length]? = some o := by simp
theorem get_prev {σ : Heap} {id : Nat} {o : Obj} (h : σ[id]? = some o) (l : Heap) : (σ ++ l)[id]? = some o := by rw [List.getElem?_append_left (List.getElem?_eq_some_iff.1 h).1]; exact h
theorem get_set {σ : Heap} {id : Nat} {o : Obj} (h : σ[id]? = some o) (o' : Obj) : (σ.set id o')[id]? = some o' := List.getElem?_set_self (List.getElem?_eq_some_iff.1 h).1
theorem get_other {σ : Heap} {id k : Nat} {o : Obj} (h : σ[k]? = some o) (hne : id ≠ k) (o' : Obj) : (σ.set id o')[k]? = some o := by rw [List.getElem?_set_ne hne]; exact h
theorem id_lt {σ : Heap} {id : Nat} {o : Obj} (h : σ[id]? = some o) : id < σ.length := (List.getElem?_eq_some_iff.1 h).1

theorem storeV_at {σ : Heap} {id off sz : Nat} {cells ys : List PV} {y : PV} (h : σ[id]? = some (.box cells)) (hy : y.cells? = some ys) (hl : ys.length = sz) (ho : off + sz ≤ cells.length) (hs : ys.all PV.scalar = true) :
    storeV σ sz (.ptr id off) y = some (σ.set id (.box (cells.take off ++ ys ++ cells.drop (off + sz)))) := by
  simp only [storeV, evPrim, Opd.ev, h, hy]
  rw [if_pos ⟨hl, ho, hs⟩]
  rfl
/-- A whole box. -/
theorem storeV_all {σ : Heap} {id sz : Nat} {cells ys : List PV} (h : σ[id]? = some (.box cells)) (hl : ys.length = sz) (hc : cells.length = sz) (hs : ys.all PV.scalar = true) : storeV σ sz (.ptr id 0) (.agg ys) = some (σ.set id (.box ys)) := by
  rw [storeV_at h rfl hl (by omega) hs]
  simp [List.drop_of_length_le (show cells.length ≤ sz by omega)]
/-- One cell of a box. -/
theorem storeV_one {σ : Heap} {id off : Nat} {cells : List PV} {y : PV} (h : σ[id]? = some (.box cells)) (ho : off < cells.length) (hs : y.scalar = true) : storeV σ 1 (.ptr id off) y = some (σ.set id (.box (cells.set off y))) := by
  have hy : y.cells? = some [y] := by cases y <;> first | rfl | (simp [PV.scalar] at hs)
  rw [storeV_at (sz := 1) h hy rfl (by omega) (by simp [hs])]
  congr 3
  rw [List.set_eq_take_append_cons_drop, if_pos ho]
  simp

/-! ### A value that grows by append -/
/-- It holds these rows; nil where there is none yet. -/
def Acc (τ : Heap) (v : PV) (ty st : Nat) (rows : List (List PV)) : Prop :=
  (rows = [] ∧ v = .nils) ∨ ∃ L, v = .own L st rows.length ∧ τ[L]? = some (.log ty st rows)
/-- It is that object's. -/
def AccAt (v : PV) (L : Nat) : Prop := ∃ st n, v = .own L st n
theorem Acc.nil (τ : Heap) (ty st : Nat) : Acc τ .nils ty st [] := .inl ⟨rfl, rfl⟩
theorem Acc.keep {τ τ' : Heap} {v : PV} {ty st : Nat} {rows : List (List PV)} (h : Acc τ v ty st rows) (hk : ∀ L, AccAt v L → L < τ.length → τ'[L]? = τ[L]?) : Acc τ' v ty st rows := by
  rcases h with h | ⟨L, h1, h2⟩
  · exact .inl h
  · exact .inr ⟨L, h1, by rw [hk L ⟨_, _, h1⟩ (id_lt h2)]; exact h2⟩
theorem Acc.scal {τ : Heap} {v : PV} {ty st : Nat} {rows : List (List PV)} (h : Acc τ v ty st rows) : v.scalar = true := by
  rcases h with ⟨_, h⟩ | ⟨L, h, _⟩ <;> rw [h] <;> rfl
theorem Acc.len {τ : Heap} {v : PV} {ty st : Nat} {rows : List (List PV)} (h : Acc τ v ty st rows) : lenP τ .slice v = some rows.length := by
  rcases h with ⟨h1, h⟩ | ⟨L, h, h2⟩
  · rw [h, h1]; rfl
  · rw [h]; simp [lenP, h2]
theorem Acc.rows {τ : Heap} {v : PV} {ty st : Nat} {rows : List (List PV)} (h : Acc τ v ty st rows) : rowsP τ st v = some rows := by
  rcases h with ⟨h1, h⟩ | ⟨L, h, h2⟩
  · rw [h, h1]; rfl
  · rw [h]; simp [rowsP, h2]
theorem Acc.coe {τ : Heap} {v : PV} {ty st : Nat} {rows : List (List PV)} (h : Acc τ v ty st rows) : canon1 (some st) (coe1 τ v) = .sl st false rows := by
  rcases h with ⟨h1, h⟩ | ⟨L, h, h2⟩
  · rw [h, h1]; rfl
  · rw [h]; simp [coe1, h2, canon1]
theorem Acc.fin {τ : Heap} {v : PV} {ty st : Nat} {rows : List (List PV)} (h : Acc τ v ty st rows) : canon1 (some st) (fin1 τ v) = .sl st false rows := by
  rcases h with ⟨h1, h⟩ | ⟨L, h, h2⟩
  · rw [h, h1]; rfl
  · rw [h]; simp [fin1, h2, canon1]
theorem Acc.iaddr {τ : Heap} {v : PV} {ty st : Nat} {rows : List (List PV)} (h : Acc τ v ty st rows) (k : IntKind) {i : Nat} (hi : i < rows.length) : iaddrV τ st v (.int k (i : Int)) = some (.cref rows[i]) := by
  rcases h with ⟨h1, h⟩ | ⟨L, h, h2⟩
  · rw [h1] at hi; simp at hi
  · rw [h]
    simp only [iaddrV, evPrim, Opd.ev, h2]
    rw [if_pos ⟨trivial, trivial, trivial, Int.natCast_nonneg i⟩, Int.toNat_natCast, List.getElem?_eq_getElem hi]
    rfl
/-- One more row. -/
theorem Acc.append {τ : Heap} {v : PV} {ty st bytes : Nat} {rows : List (List PV)} (h : Acc τ v ty st rows) {row : List PV} (hp : pureL row = true) (hl : row.length = st) (hs : row.all PV.scalar = true) (hb : (rows.length + 1) * bytes ≤ 140737488355328) :
    ∃ v' τ', (∀ x, rowsOf τ st x = some [row] → appendP ty st bytes τ v x = some (v', τ')) ∧ Acc τ' v' ty st (rows ++ [row]) ∧ Stay (AccAt v) τ τ' ∧ ((∃ L, AccAt v L ∧ v' = .own L st (rows.length + 1)) ∨ (v = .nils ∧ v' = .own τ.length st (rows.length + 1))) := by
  have hc : pureLL [row] = true ∧ ([row] : List (List PV)).all (fun r => r.length == st && r.all PV.scalar) = true := by simp [pureLL, hp, hl, hs]
  rcases h with ⟨h1, h⟩ | ⟨L, h, h2⟩
  · subst h1
    refine ⟨.own τ.length st 1, τ ++ [.log ty st [row]], fun x hx => ?_, .inr ⟨_, rfl, by simp⟩, Stay.push _ _ _, .inr ⟨h, rfl⟩⟩
    rw [h]
    simp only [appendP, hx]
    rw [if_pos hc]
    simp only [List.length_nil, Nat.zero_add] at hb
    simp only [List.length_singleton]
    rw [if_pos hb]
    rfl
  · refine ⟨.own L st (rows.length + 1), τ.set L (.log ty st (rows ++ [row])), fun x hx => ?_, .inr ⟨L, by simp, get_set h2 _⟩, Stay.set ⟨_, _, h⟩ _, .inl ⟨L, ⟨_, _, h⟩, rfl⟩⟩
    rw [h]
    simp only [appendP, hx, h2]
    rw [if_pos hc, if_pos ⟨trivial, trivial, trivial, trivial, hb⟩]
    rfl
/-- A slice of one row, as append gets it. -/
theorem rowsOf_sl (τ : Heap) (st : Nat) (f : Bool) (rows : List (List PV)) : rowsOf τ st (.sl st f rows) = some rows := by simp [rowsOf, rowsP]
theorem bslice_one {τ : Heap} {st : Nat} {sh : List (Option Nat)} {zero : List PV} {x : PV} {ys : List PV} (h : (canonV sh (coeV τ x)).cells? = some ys) (hl : ys.length = st) (hp : pureL ys = true) : evPrim [] τ (.bslice st sh zero 1 [(0, .cst x)]) = some (.sl st true [ys], τ) := by
  simp [evPrim, fillR, Opd.ev, h, hl, hp]
theorem bslice_pure {τ : Heap} {st : Nat} {sh : List (Option Nat)} {zero : List PV} {ys : List PV} (hc : canonL sh ys = ys) (hl : ys.length = st) (hp : pureL ys = true) : evPrim [] τ (.bslice st sh zero 1 [(0, .cst (.agg ys))]) = some (.sl st true [ys], τ) := by
  refine bslice_one (ys := ys) ?_ hl hp
  rw [keep_pure τ (show (PV.agg ys).pure = true from hp)]
  simp only [canonV, hc]
  rfl
theorem bslice_int {τ : Heap} {zero : List PV} (n : Int) : evPrim [] τ (.bslice 1 [none] zero 1 [(0, .cst (.int .i64 n))]) = some (.sl 1 true [cInt n], τ) := by
  simp [evPrim, fillR, Opd.ev, coeV, coe1, canonV, canon1, PV.cells?, cInt, pureL, PV.pure]
theorem bslice_str {τ : Heap} {zero : List PV} (s : Str) : evPrim [] τ (.bslice 1 [none] zero 1 [(0, .cst (.str s))]) = some (.sl 1 true [cStr s], τ) := by
  simp [evPrim, fillR, Opd.ev, coeV, coe1, canonV, canon1, PV.cells?, cStr, pureL, PV.pure]
/-- A copy of a slice. -/
theorem copy_enc {α : Type} {τ : Heap} {st bytes : Nat} {f : α → List PV} {xs : List α} (hp : ∀ x, pureL (f x) = true) (hl : ∀ x, (f x).length = st) (hb : xs.length * bytes ≤ 140737488355328) : ∃ v, evPrim [] τ (.copy st bytes (.cst (encL st f xs))) = some (v, τ) ∧ (v = .nils ∧ xs = [] ∨ v = encL st f xs) ∧ v.scalar = true ∧ v.pure = true ∧ canon1 (some st) v = encL st f xs := by
  have h1 : pureLL (xs.map f) = true := pureLL_map xs fun x _ => hp x
  have h2 : (xs.map f).all (fun r => r.length == st) = true := by simp [hl]
  cases xs with
  | nil => exact ⟨.nils, by simp [evPrim, Opd.ev, encL, rowsOf_sl, pureLL], .inl ⟨rfl, rfl⟩, rfl, rfl, rfl⟩
  | cons x xs =>
    refine ⟨encL st f (x :: xs), ?_, .inr rfl, rfl, encL_pure fun x _ => hp x, canon1_encL⟩
    simp only [evPrim, Opd.ev, encL, rowsOf_sl]
    rw [if_pos ⟨h1, h2, by simpa using hb⟩]
    rfl

/-! ### Loops with an invariant -/
theorem inv_loop {R : Type} {n : Nat} {L : Nat → Heap → Option R} {Q : Option R → Prop} {I : Nat → Heap → Prop} (hend : ∀ τ, I n τ → Q (L n τ)) (hstep : ∀ i, i < n → ∀ τ, I i τ → ∃ τ', I (i + 1) τ' ∧ L i τ = L (i + 1) τ') {τ : Heap} (hI : I 0 τ) : Q (L 0 τ) := by
  have key : ∀ (d i : Nat), i + d = n → ∀ τ, I i τ → Q (L i τ) := by
    intro d
    induction d with
    | zero => intro i hi τ hI; obtain rfl : i = n := by omega
              exact hend τ hI
    | succ d ih =>
      intro i hi τ hI
      obtain ⟨τ', hI', e⟩ := hstep i (by omega) τ hI
      rw [e]
      exact ih (i + 1) (by omega) τ' hI'
  exact key n 0 (by omega) τ hI
/-- The same with a number that is reckoned on the way, and rounds that may end it all. -/
theorem inv_loop2 {R : Type} {n : Nat} {L : Nat → Heap → Option R} {Q : Option R → Prop} {I : Nat → Heap → Prop} (hend : ∀ τ, I n τ → Q (L n τ)) (hstep : ∀ i, i < n → ∀ τ, I i τ → Q (L i τ) ∨ ∃ τ', I (i + 1) τ' ∧ L i τ = L (i + 1) τ') {τ : Heap} (hI : I 0 τ) : Q (L 0 τ) := by
  have key : ∀ (d i : Nat), i + d = n → ∀ τ, I i τ → Q (L i τ) := by
    intro d
    induction d with
    | zero => intro i hi τ hI; obtain rfl : i = n := by omega
              exact hend τ hI
    | succ d ih =>
      intro i hi τ hI
      rcases hstep i (by omega) τ hI with h | ⟨τ', hI', e⟩
      · exact h
      · rw [e]
        exact ih (i + 1) (by omega) τ' hI'
  exact key n 0 (by omega) τ hI
theorem take_map_succ {α β : Type} (f : α → β) (xs : List α) {i : Nat} (h : i < xs.length) : (xs.take (i + 1)).map f = (xs.take i).map f ++ [f xs[i]] := by
  rw [List.take_succ_eq_append_getElem h, List.map_append]
  rfl
/-- A call that hands the heap over. -/
theorem callK_imp {R : Type} {C : Funcs} {X : Ext} {f : Nat} {pf : PFunc} (hf : C f = some pf) {σ σ' : Heap} {args caps args' rs : List PV} {k : PV → Heap → Option R} (h2 : keepArgs σ pf.keep (args ++ caps) = args') (h1 : pureL args' = false) (h : (Hw C X).imp f args' σ = some (rs, σ')) :
    callK C (Hw C X) σ false (.fn f caps) args k = k (packP rs) σ' := by
  have h4 : asPure C f args' = false := by unfold asPure; rw [h1]; rfl
  simp only [callK, evCall, hf, Option.map_some, Option.getD_some, h2, h4, Bool.false_eq_true, if_false, h, Option.bind_some]
theorem coe_ptr (σ : Heap) (id off : Nat) : coeV σ (.ptr id off) = .ptr id off := rfl
theorem coe_int (σ : Heap) (k : IntKind) (n : Int) : coeV σ (.int k n) = .int k n := rfl
theorem coe_pure {σ : Heap} {p : PV} (h : p.pure = true) : coeV σ p = p := keep_pure σ h
theorem canon_ptr (id off : Nat) : canonV [none] (.ptr id off) = .ptr id off := rfl
theorem canon_int (k : IntKind) (n : Int) : canonV [none] (.int k n) = .int k n := rfl
/-- A call whose arguments become values. -/
theorem callK_val {R : Type} {C : Funcs} {X : Ext} {f : Nat} {pf : PFunc} (hf : C f = some pf) {σ : Heap} {pc : Bool} {args args' rs : List PV} {k : PV → Heap → Option R} (h0 : (!pf.keepr.any (·.1)) = true) (h2 : keepArgs σ pf.keep args = args') (h1 : pureL args' = true) (h : (Hw C X).pure f args' = some rs) :
    callK C (Hw C X) σ pc (.fn f []) args k = k (packP rs) σ := by
  have h4 : asPure C f args' = true := by
    unfold asPure
    rw [hf, h1]
    simpa using h0
  simp only [callK, List.append_nil, evCall, hf, Option.map_some, Option.getD_some, h2, h4, if_true, h, Option.bind_some]
theorem callK_impA {R : Type} {C : Funcs} {X : Ext} {f : Nat} {pf : PFunc} (hf : C f = some pf) {σ σ' : Heap} {args caps args' rs : List PV} {k : PV → Heap → Option R} (h2 : keepArgs σ pf.keep (args ++ caps) = args') (h1 : pf.keepr.any (·.1) = true) (h : (Hw C X).imp f args' σ = some (rs, σ')) :
    callK C (Hw C X) σ false (.fn f caps) args k = k (packP rs) σ' := by
  have h4 : asPure C f args' = false := by unfold asPure; rw [hf, Option.map_some, Option.getD_some, h1]; simp
  simp only [callK, evCall, hf, Option.map_some, Option.getD_some, h2, h4, Bool.false_eq_true, if_false, h, Option.bind_some]
theorem Acc.coeV {τ : Heap} {v : PV} {ty st : Nat} {rows : List (List PV)} (h : Acc τ v ty st rows) : canonV [some st] (coeV τ v) = .sl st false rows := by
  rcases h with ⟨h1, h⟩ | ⟨L, h, h2⟩
  · rw [h, h1]; rfl
  · rw [h]
    simp only [Go.PE.coeV, coe1, h2]
    simp [canonV, canon1]
theorem Acc.finV {τ : Heap} {v : PV} {ty st : Nat} {rows : List (List PV)} (h : Acc τ v ty st rows) : canonV [some st] (finV τ v) = .sl st false rows := by
  rcases h with ⟨h1, h⟩ | ⟨L, h, h2⟩
  · rw [h, h1]; rfl
  · rw [h]
    simp only [Go.PE.finV, fin1, h2]
    simp [canonV, canon1]
end Go.PE
