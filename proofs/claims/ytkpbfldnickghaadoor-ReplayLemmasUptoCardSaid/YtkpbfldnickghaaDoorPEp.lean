/- What is read as data stands in abstract values: arguments. -/
import Derived.Test.YtkpbfldnickghaaDoorPEo
import Derived.ChangeArms
set_option linter.unusedVariables false
set_option linter.unusedSimpArgs false
namespace Go.PE

/-- All that is there is protected. -/
def allProt (w : World) : Addr → Prop := fun a => ∃ v, w.cell? a = some v
theorem allProt_ok (w : World) : protOK w (allProt w) := fun _ h => h

section
variable {H : Type} {enc : TypeId × Value → H} {P : Program} {w : World} {sp : Nat → Bool} {hd : Bool}
/-- Values of type t, read with so much fuel, are such data, in such relation to the reading. -/
def Rd (enc : TypeId × Value → H) (P : Program) (w : World) (sp : Nat → Bool) (hd : Bool) (t : TypeId) {α : Type} (f : α → List PV) (R : DataW H → α → Prop) (fuel : Nat) : Prop :=
  ∀ cs x, DataW.trod enc P w 0 sp hd fuel t cs = some x → ∃ y : α, R x.1 y ∧ RepL w (gh0 (allProt w)) [] cs (f y)
/-- One by one. -/
def All2 {α β : Type} (R : α → β → Prop) : List α → List β → Prop
  | [], [] => True
  | a :: l, b :: r => R a b ∧ All2 R l r
  | _, _ => False
theorem All2.length {α β : Type} {R : α → β → Prop} : ∀ {l : List α} {r : List β}, All2 R l r → l.length = r.length
  | [], [], _ => rfl
  | a :: l, b :: r, h => by simp [All2.length h.2]
theorem All2.mem {α β : Type} {R : α → β → Prop} : ∀ {l : List α} {r : List β}, All2 R l r → ∀ b ∈ r, ∃ a ∈ l, R a b
  | [], [], _, b, h => by cases h
  | a :: l, b :: r, h, c, hc => by
    rcases List.mem_cons.1 hc with rfl | hc
    · exact ⟨a, by simp, h.1⟩
    · obtain ⟨a', h1, h2⟩ := All2.mem h.2 c hc
      exact ⟨a', by simp [h1], h2⟩
theorem mapM_opt {α β : Type} {f : α → Option β} : ∀ {l : List α} {r : List β}, l.mapM f = some r → l.length = r.length ∧ ∀ (i : Nat) a, l[i]? = some a → ∃ b, r[i]? = some b ∧ f a = some b
  | [], r, h => by
    simp at h
    subst h
    exact ⟨rfl, fun i a h => by simp at h⟩
  | a :: l, r, h => by
    simp only [List.mapM_cons, Option.bind_eq_bind, Option.bind_eq_some_iff, Option.pure_def, Option.some.injEq] at h
    obtain ⟨b, h1, r', h2, rfl⟩ := h
    obtain ⟨k1, k2⟩ := mapM_opt h2
    refine ⟨by simp [k1], fun i c hc => ?_⟩
    cases i with
    | zero => simp at hc; subst hc; exact ⟨b, by simp, h1⟩
    | succ i => exact k2 i c (by simpa using hc)
theorem rd_int {t : TypeId} {k : IntKind} (ht : P.underlying t = some (.int k)) {R : DataW H → Int → Prop} (hR : ∀ n, (Lit.int k n).wf = true → R (.lit (.int k n)) n) (fuel : Nat) : Rd enc P w sp hd t (fun n => [.int k n]) R fuel := by
  intro cs x h
  obtain ⟨n, rfl, rfl, hw⟩ := DataW.trod_int ht h
  exact ⟨n, hR n hw, RepL.cons (.int k n) (RepL.nil _ _ _)⟩
theorem rd_nat {t : TypeId} {k : IntKind} (ht : P.underlying t = some (.int k)) (hk : k.signed = false) {R : DataW H → Nat → Prop} (hR : ∀ n : Nat, (Lit.int k n).wf = true → R (.lit (.int k n)) n) (fuel : Nat) : Rd enc P w sp hd t (fun n : Nat => [.int k (n : Int)]) R fuel := by
  intro cs x h
  obtain ⟨n, rfl, rfl, hw⟩ := DataW.trod_int ht h
  have h0 : 0 ≤ n := by
    cases k <;> first
      | (simp [IntKind.signed] at hk; done)
      | (simp [Lit.wf, IntKind.min, IntKind.max, IntKind.signed] at hw; omega)
  obtain ⟨m, rfl⟩ := Int.eq_ofNat_of_zero_le h0
  exact ⟨m, hR m hw, RepL.cons (.int k _) (RepL.nil _ _ _)⟩
theorem rd_bool {t : TypeId} (ht : P.underlying t = some .bool) {R : DataW H → Bool → Prop} (hR : ∀ n, R (.lit (.bool n)) n) (fuel : Nat) : Rd enc P w sp hd t (fun n => [.bool n]) R fuel := by
  intro cs x h
  obtain ⟨n, rfl, rfl⟩ := DataW.trod_bool ht h
  exact ⟨n, hR n, RepL.cons (.bool n) (RepL.nil _ _ _)⟩
theorem rd_string {t : TypeId} (ht : P.underlying t = some .string) {R : DataW H → Str → Prop} (hR : ∀ s : Str, s.length ≤ maxLen → R (.lit (.string s)) s) (fuel : Nat) : Rd enc P w sp hd t (fun s => [.str s]) R fuel := by
  intro cs x h
  obtain ⟨s, rfl, rfl, hs⟩ := DataW.trod_string ht h
  exact ⟨s.data.toList, hR _ (by simpa using hs), RepL.cons (.str s _ rfl) (RepL.nil _ _ _)⟩
theorem rd_slice {t e : TypeId} {st : Nat} {α : Type} {f : α → List PV} {R : DataW H → α → Prop} {RL : DataW H → List α → Prop} (ht : P.underlying t = some (.slice e)) (hc : P.cellsOf e = st) (hst : ∀ y, (f y).length = st)
    (h0 : RL .nil []) (h1 : ∀ es sp ys, es.length ≤ maxLen → All2 R es ys → RL (.slice es sp) ys) (fuel : Nat) (ih : ∀ n, fuel = n + 1 → Rd enc P w sp hd e f R n) : Rd enc P w sp hd t (fun ys => [encL st f ys]) RL fuel := by
  intro cs x h
  rcases DataW.trod_slice ht h with ⟨rfl, rfl⟩ | ⟨a, len, cap, elems, rest, n, hf, rfl, rfl, hb, hl, hm, hlen, hel, _, _⟩
  · exact ⟨[], h0, RepL.cons (.sl0 st false) (RepL.nil _ _ _)⟩
  · have ih := ih n hf
    rw [hc] at hel
    -- the elements, one by one
    have key : ∀ (m i : Nat), i + m = len → ∃ ys : List α, ys.length = m ∧ All2 R ((elems.drop i).map (·.1)) ys ∧ ∀ (j : Nat) y, ys[j]? = some y → RepL w (gh0 (allProt w)) [] ((List.range st).map fun k => (w.cell? (a.add ((i + j) * st + k))).getD undef) (f y) ∧ ∀ k, k < st → ∃ v, w.cell? (a.add ((i + j) * st + k)) = some v := by
      intro m
      induction m with
      | zero =>
        intro i hi
        refine ⟨[], rfl, ?_, fun j y h => by simp at h⟩
        rw [List.drop_eq_nil_of_le (by omega)]
        trivial
      | succ m ihm =>
        intro i hi
        obtain ⟨ys, k1, k2, k3⟩ := ihm (i + 1) (by omega)
        have hlt : i < elems.length := by omega
        have he := hel i (by omega)
        rw [List.getElem?_eq_getElem hlt, Option.bind_eq_some_iff] at he
        obtain ⟨cs', hcs, htr⟩ := he
        obtain ⟨y, hR, hrep⟩ := ih cs' _ htr
        unfold World.cells? at hcs
        rw [if_pos (Nat.zero_le _)] at hcs
        obtain ⟨c1, c2⟩ := mapM_opt hcs
        simp only [List.length_range] at c1
        have c3 : ∀ k, k < st → ∃ v, cs'[k]? = some v ∧ w.cell? (a.add (i * st + k)) = some v := fun k hk => by
          obtain ⟨v, v1, v2⟩ := c2 k k (by simp [hk])
          rw [add_add] at v2
          exact ⟨v, v1, v2⟩
        refine ⟨y :: ys, by simp [k1], ?_, fun j z hz => ?_⟩
        · rw [List.drop_eq_getElem_cons hlt, List.map_cons]
          exact ⟨hR, k2⟩
        · cases j with
          | zero =>
            simp only [List.getElem?_cons_zero, Option.some.injEq] at hz
            subst hz
            refine ⟨?_, fun k hk => ?_⟩
            · have : (List.range st).map (fun k => (w.cell? (a.add ((i + 0) * st + k))).getD undef) = cs' := by
                refine List.ext_getElem? fun k => ?_
                by_cases hk : k < st
                · obtain ⟨v, v1, v2⟩ := c3 k hk
                  simp [hk, v1, v2]
                · rw [List.getElem?_eq_none (by simp; omega), List.getElem?_eq_none (by omega)]
              rw [this]
              exact hrep
            · obtain ⟨v, _, v2⟩ := c3 k hk
              exact ⟨v, by simpa using v2⟩
          | succ j =>
            have := k3 j z (by simpa using hz)
            rw [show i + 1 + j = i + (j + 1) by omega] at this
            exact this
    obtain ⟨ys, k1, k2, k3⟩ := key len 0 (by omega)
    refine ⟨ys, h1 _ _ ys (by simp; omega) (by simpa using k2), RepL.cons ?_ (RepL.nil _ _ _)⟩
    refine .sl a len cap st false (ys.map f) (fun j i => (w.cell? (a.add (j * st + i))).getD undef) (by simp [k1]) hl (fun h => by cases h) (fun r hr => ?_) (fun j i r p hr hp => ?_) (fun j i r p hr hp => ?_)
    · obtain ⟨y, _, rfl⟩ := List.mem_map.1 hr
      exact hst y
    · simp only [List.getElem?_map, Option.map_eq_some_iff] at hr
      obtain ⟨y, hy, rfl⟩ := hr
      have hi : i < st := by rw [← hst y]; exact (List.getElem?_eq_some_iff.1 hp).1
      obtain ⟨v, hv⟩ := (k3 j y hy).2 i hi
      simp only [Nat.zero_add] at hv
      rw [hv]
      exact ⟨rfl, v, hv⟩
    · simp only [List.getElem?_map, Option.map_eq_some_iff] at hr
      obtain ⟨y, hy, rfl⟩ := hr
      have hi : i < st := by rw [← hst y]; exact (List.getElem?_eq_some_iff.1 hp).1
      exact (k3 j y hy).1.2 i _ p (by simp [hi]) hp
/-- The fields of a struct, one by one. -/
theorem rd_struct {t : TypeId} {fs : Array Field} (ht : P.underlying t = some (.struct fs)) {fuel : Nat} {cs : List Value} {x : DataW H × List MemPlace} (h : DataW.trod enc P w 0 sp hd fuel t cs = some x) :
    ∃ (n : Nat) (xs : List (DataW H × List MemPlace)), fuel = n + 1 ∧ x.1 = .agg (xs.map (·.1)) ∧ cs.length = P.cellsOf t ∧ xs.length = fs.size ∧ ∀ (i : Nat) (f : Field), fs[i]? = some f → ∃ y, xs[i]? = some y ∧ DataW.trod enc P w 0 sp hd n f.type ((cs.drop f.offset).take (P.cellsOf f.type)) = some y := by
  obtain ⟨xs, n, h1, h2, h3, h4, h5⟩ := DataW.trod_struct ht h
  refine ⟨n, xs, h1, by rw [h2], h3, h4, fun i f hf => ?_⟩
  have := h5 i f hf
  have hlt : i < xs.length := by rw [h4]; exact (Array.getElem?_eq_some_iff.1 hf).1
  rw [List.getElem?_eq_getElem hlt] at this
  exact ⟨xs[i], List.getElem?_eq_getElem hlt, this⟩
theorem repL_split {g : Gh} {σ : Heap} {cs : List Value} (m : Nat) {a b : List PV} (h1 : RepL w g σ (cs.take m) a) (h2 : RepL w g σ (cs.drop m) b) : RepL w g σ cs (a ++ b) := by
  have := h1.append h2
  rwa [List.take_append_drop] at this
end
end Go.PE
