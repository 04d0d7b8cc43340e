/- What an abstract value says of a value in memory; what an abstract heap says of a world; how both go on. -/
import Derived.Test.YtkpbfldnickghaaDoorPEa
import Derived.Below
import Derived.Calls
import Derived.Laws.Sem
import GoSem.ClaimData
namespace Go.PE
open Go.RowKit (Below)

structure Gh where
  prot : Addr → Prop
  loc : Nat → Nat
  cap : Nat → Nat

def OwnOK (g : Gh) (σ : Heap) (id st n : Nat) (v : Value) : Prop :=
  (∃ a c, v = .slice a n c) ∧
  match σ[id]? with
  | some (.log _ st' rows) => st' = st → n ≤ rows.length ∧ (n = rows.length → v = .slice (some ⟨g.loc id, 0, none⟩) n (g.cap id))
  | some (.box cells) => cells.length = n * st → v = .slice (some ⟨g.loc id, 0, none⟩) n n
  | _ => False
def PtrOK (g : Gh) (σ : Heap) (id off : Nat) (v : Value) : Prop := ∃ cells, σ[id]? = some (.box cells) ∧ v = .pointer (some ⟨g.loc id, off, none⟩)
def MapOK (g : Gh) (σ : Heap) (id : Nat) (v : Value) : Prop := ∃ es, σ[id]? = some (.map es) ∧ v = .map (some (g.loc id))

inductive Rep (w : World) (g : Gh) (σ : Heap) : Value → PV → Prop where
  | top (v : Value) : Rep w g σ v .top
  | int (k : IntKind) (n : Int) : Rep w g σ (.int k n) (.int k n)
  | bool (b : Bool) : Rep w g σ (.bool b) (.bool b)
  | str (s : ByteArray) (l : List UInt8) (h : s.data.toList = l) : Rep w g σ (.string s) (.str l)
  | nils : Rep w g σ (.slice none 0 0) .nils
  | sl0 (st : Nat) (full : Bool) : Rep w g σ (.slice none 0 0) (.sl st full [])
  | sl (a : Addr) (n cap st : Nat) (full : Bool) (rows : List (List PV)) (c : Nat → Nat → Value) (hn : rows.length = n) (hcap : n ≤ cap) (hfull : full = true → cap = n) (hst : ∀ r ∈ rows, r.length = st)
      (hc : ∀ j i r p, rows[j]? = some r → r[i]? = some p → w.cell? (a.add (j * st + i)) = some (c j i) ∧ g.prot (a.add (j * st + i)))
      (hr : ∀ j i r p, rows[j]? = some r → r[i]? = some p → Rep w g σ (c j i) p) : Rep w g σ (.slice (some a) n cap) (.sl st full rows)
  | own (v : Value) (id st n : Nat) (h : OwnOK g σ id st n v) : Rep w g σ v (.own id st n)
  | ptr (v : Value) (id off : Nat) (h : PtrOK g σ id off v) : Rep w g σ v (.ptr id off)
  | cref (a : Addr) (cells : List PV) (c : Nat → Value) (hc : ∀ i p, cells[i]? = some p → w.cell? (a.add i) = some (c i) ∧ g.prot (a.add i))
      (hr : ∀ i p, cells[i]? = some p → Rep w g σ (c i) p) : Rep w g σ (.pointer (some a)) (.cref cells)
  | nilp : Rep w g σ (.pointer none) .nilp
  | fn (f : Nat) (vs : Array Value) (ps : List PV) (hl : vs.size = ps.length) (hr : ∀ (i : Nat) v p, vs[i]? = some v → ps[i]? = some p → Rep w g σ v p) : Rep w g σ (.func (.func f) #[] vs) (.fn f ps)
  | nilf : Rep w g σ .nilFunc .nilf
  | mp (v : Value) (id : Nat) (h : MapOK g σ id v) : Rep w g σ v (.mp id)
  | nilm : Rep w g σ (.map none) .nilm
  | iface (t : Nat) (v : Value) (p : PV) (h : Rep w g σ v p) : Rep w g σ (.iface t v) (.iface t p)
  | nili : Rep w g σ .nilIface .nili
  | agg (vs : Array Value) (ps : List PV) (hl : vs.size = ps.length) (hr : ∀ (i : Nat) v p, vs[i]? = some v → ps[i]? = some p → Rep w g σ v p) : Rep w g σ (.agg vs) (.agg ps)
  | tup (vs : Array Value) (ps : List PV) (hl : vs.size = ps.length) (hr : ∀ (i : Nat) v p, vs[i]? = some v → ps[i]? = some p → Rep w g σ v p) : Rep w g σ (.tuple vs) (.tup ps)

/-- Lists of values. -/
def RepL (w : World) (g : Gh) (σ : Heap) (vs : List Value) (ps : List PV) : Prop :=
  vs.length = ps.length ∧ ∀ (i : Nat) v p, vs[i]? = some v → ps[i]? = some p → Rep w g σ v p

theorem RepL.nil (w : World) (g : Gh) (σ : Heap) : RepL w g σ [] [] := ⟨rfl, fun i v p h => by simp at h⟩
theorem RepL.cons {w : World} {g : Gh} {σ : Heap} {v : Value} {p : PV} {vs : List Value} {ps : List PV} (h : Rep w g σ v p) (k : RepL w g σ vs ps) : RepL w g σ (v :: vs) (p :: ps) := by
  refine ⟨by simp [k.1], fun i v' p' hv hp => ?_⟩
  cases i with
  | zero => simp at hv hp; subst hv; subst hp; exact h
  | succ i => simp at hv hp; exact k.2 i v' p' hv hp
theorem RepL.head {w : World} {g : Gh} {σ : Heap} {v : Value} {p : PV} {vs : List Value} {ps : List PV} (h : RepL w g σ (v :: vs) (p :: ps)) : Rep w g σ v p := h.2 0 v p (by simp) (by simp)
theorem RepL.tail {w : World} {g : Gh} {σ : Heap} {v : Value} {p : PV} {vs : List Value} {ps : List PV} (h : RepL w g σ (v :: vs) (p :: ps)) : RepL w g σ vs ps :=
  ⟨by have := h.1; simpa using this, fun i v' p' hv hp => h.2 (i + 1) v' p' (by simpa using hv) (by simpa using hp)⟩
theorem RepL.append {w : World} {g : Gh} {σ : Heap} {vs vs' : List Value} {ps ps' : List PV} (h : RepL w g σ vs ps) (k : RepL w g σ vs' ps') : RepL w g σ (vs ++ vs') (ps ++ ps') := by
  refine ⟨by simp [h.1, k.1], fun i v p hv hp => ?_⟩
  rcases Nat.lt_or_ge i vs.length with hi | hi
  · rw [List.getElem?_append_left hi] at hv
    rw [List.getElem?_append_left (by rw [← h.1]; exact hi)] at hp
    exact h.2 i v p hv hp
  · rw [List.getElem?_append_right hi] at hv
    rw [List.getElem?_append_right (by rw [← h.1]; exact hi), ← h.1] at hp
    exact k.2 _ v p hv hp
theorem RepL.take {w : World} {g : Gh} {σ : Heap} {vs : List Value} {ps : List PV} (h : RepL w g σ vs ps) (n : Nat) : RepL w g σ (vs.take n) (ps.take n) := by
  refine ⟨by simp [h.1], fun i v p hv hp => ?_⟩
  rw [List.getElem?_take] at hv hp
  split at hv
  · rename_i hi; rw [if_pos hi] at hp; exact h.2 i v p hv hp
  · cases hv
theorem RepL.drop {w : World} {g : Gh} {σ : Heap} {vs : List Value} {ps : List PV} (h : RepL w g σ vs ps) (n : Nat) : RepL w g σ (vs.drop n) (ps.drop n) := by
  refine ⟨by simp [h.1], fun i v p hv hp => ?_⟩
  rw [List.getElem?_drop] at hv hp
  exact h.2 _ v p hv hp
theorem RepL.get {w : World} {g : Gh} {σ : Heap} {vs : List Value} {ps : List PV} (h : RepL w g σ vs ps) {i : Nat} {p : PV} (hp : ps[i]? = some p) : ∃ v, vs[i]? = some v ∧ Rep w g σ v p := by
  have hi : i < vs.length := by rw [h.1]; exact (List.getElem?_eq_some_iff.1 hp).1
  exact ⟨vs[i], List.getElem?_eq_getElem hi, h.2 i _ p (List.getElem?_eq_getElem hi) hp⟩
theorem RepL.map {w : World} {g : Gh} {σ : Heap} {vs : List Value} {ps : List PV} (h : RepL w g σ vs ps) {f : Value → Value} {q : PV → PV} (hf : ∀ v p, Rep w g σ v p → Rep w g σ (f v) (q p)) : RepL w g σ (vs.map f) (ps.map q) := by
  refine ⟨by simp [h.1], fun i v p hv hp => ?_⟩
  simp only [List.getElem?_map, Option.map_eq_some_iff] at hv hp
  obtain ⟨v', hv', rfl⟩ := hv
  obtain ⟨p', hp', rfl⟩ := hp
  exact hf _ _ (h.2 i v' p' hv' hp')
theorem RepL.agg {w : World} {g : Gh} {σ : Heap} {vs : Array Value} {ps : List PV} (h : RepL w g σ vs.toList ps) : Rep w g σ (.agg vs) (.agg ps) :=
  .agg vs ps (by simpa using h.1) fun i v p hv hp => h.2 i v p (by simpa using hv) hp
theorem RepL.tup {w : World} {g : Gh} {σ : Heap} {vs : Array Value} {ps : List PV} (h : RepL w g σ vs.toList ps) : Rep w g σ (.tuple vs) (.tup ps) :=
  .tup vs ps (by simpa using h.1) fun i v p hv hp => h.2 i v p (by simpa using hv) hp
theorem Rep.agg_inv {w : World} {g : Gh} {σ : Heap} {v : Value} {ps : List PV} (h : Rep w g σ v (.agg ps)) : ∃ vs, v = .agg vs ∧ RepL w g σ vs.toList ps := by
  cases h with
  | agg vs ps hl hr => exact ⟨vs, rfl, by simpa using hl, fun i v p hv hp => hr i v p (by simpa using hv) hp⟩
theorem Rep.tup_inv {w : World} {g : Gh} {σ : Heap} {v : Value} {ps : List PV} (h : Rep w g σ v (.tup ps)) : ∃ vs, v = .tuple vs ∧ RepL w g σ vs.toList ps := by
  cases h with
  | tup vs ps hl hr => exact ⟨vs, rfl, by simpa using hl, fun i v p hv hp => hr i v p (by simpa using hv) hp⟩
theorem Rep.fn_inv {w : World} {g : Gh} {σ : Heap} {v : Value} {f : Nat} {ps : List PV} (h : Rep w g σ v (.fn f ps)) : ∃ vs, v = .func (.func f) #[] vs ∧ RepL w g σ vs.toList ps := by
  cases h with
  | fn f vs ps hl hr => exact ⟨vs, rfl, by simpa using hl, fun i v p hv hp => hr i v p (by simpa using hv) hp⟩
theorem Rep.und (w : World) (g : Gh) (σ : Heap) : Rep w g σ undef (.tup []) := .tup #[] [] rfl fun i v p hv => by simp at hv

/-! ### How a world goes on -/
structure WExt (w : World) (g : Gh) (σ : Heap) (w' : World) (g' : Gh) (σ' : Heap) : Prop where
  prot : ∀ a v, g.prot a → w.cell? a = some v → g'.prot a ∧ w'.cell? a = some v
  log : ∀ id ty st rows, σ[id]? = some (.log ty st rows) → ∃ rows', σ'[id]? = some (.log ty st rows') ∧ rows.length ≤ rows'.length ∧ (rows'.length = rows.length → g'.loc id = g.loc id ∧ g'.cap id = g.cap id)
  box : ∀ id cells, σ[id]? = some (.box cells) → ∃ cells', σ'[id]? = some (.box cells') ∧ cells'.length = cells.length ∧ g'.loc id = g.loc id
  map : ∀ id es, σ[id]? = some (.map es) → ∃ es', σ'[id]? = some (.map es') ∧ g'.loc id = g.loc id
theorem WExt.refl (w : World) (g : Gh) (σ : Heap) : WExt w g σ w g σ :=
  ⟨fun _ _ h k => ⟨h, k⟩, fun _ _ _ rows h => ⟨rows, h, Nat.le_refl _, fun _ => ⟨rfl, rfl⟩⟩, fun _ c h => ⟨c, h, rfl, rfl⟩, fun _ es h => ⟨es, h, rfl⟩⟩
theorem WExt.trans {w w1 w2 : World} {g g1 g2 : Gh} {σ σ1 σ2 : Heap} (h : WExt w g σ w1 g1 σ1) (k : WExt w1 g1 σ1 w2 g2 σ2) : WExt w g σ w2 g2 σ2 := by
  refine ⟨fun a v hp hc => ?_, fun id ty st rows ho => ?_, fun id cells ho => ?_, fun id es ho => ?_⟩
  · obtain ⟨h1, h2⟩ := h.prot a v hp hc
    exact k.prot a v h1 h2
  · obtain ⟨rows1, h1, h2, h3⟩ := h.log id ty st rows ho
    obtain ⟨rows2, k1, k2, k3⟩ := k.log id ty st rows1 h1
    refine ⟨rows2, k1, Nat.le_trans h2 k2, fun he => ?_⟩
    obtain ⟨e1, e2⟩ := h3 (by omega)
    obtain ⟨e3, e4⟩ := k3 (by omega)
    exact ⟨e3.trans e1, e4.trans e2⟩
  · obtain ⟨c1, h1, h2, h3⟩ := h.box id cells ho
    obtain ⟨c2, k1, k2, k3⟩ := k.box id c1 h1
    exact ⟨c2, k1, k2.trans h2, k3.trans h3⟩
  · obtain ⟨c1, h1, h3⟩ := h.map id es ho
    obtain ⟨c2, k1, k3⟩ := k.map id c1 h1
    exact ⟨c2, k1, k3.trans h3⟩

theorem OwnOK.mono {w w' : World} {g g' : Gh} {σ σ' : Heap} {id st n : Nat} {v : Value} (h : OwnOK g σ id st n v) (hx : WExt w g σ w' g' σ') : OwnOK g' σ' id st n v := by
  unfold OwnOK at h
  obtain ⟨h0, h⟩ := h
  refine ⟨h0, ?_⟩
  split at h
  · rename_i ty' st' rows ho
    obtain ⟨rows', h1, h2, h3⟩ := hx.log id ty' st' rows ho
    rw [h1]
    intro he
    obtain ⟨k1, k2⟩ := h he
    refine ⟨by omega, fun hn => ?_⟩
    obtain ⟨e1, e2⟩ := h3 (by omega)
    rw [e1, e2]
    exact k2 (by omega)
  · rename_i cells ho
    obtain ⟨c', h1, h2, h3⟩ := hx.box id cells ho
    rw [h1]
    intro he
    rw [h3]
    exact h (by omega)
  · exact h.elim

theorem Rep.mono {w w' : World} {g g' : Gh} {σ σ' : Heap} {v : Value} {p : PV} (h : Rep w g σ v p) (hx : WExt w g σ w' g' σ') : Rep w' g' σ' v p := by
  induction h with
  | top v => exact .top v
  | int k n => exact .int k n
  | bool b => exact .bool b
  | str s l h => exact .str s l h
  | nils => exact .nils
  | sl0 st full => exact .sl0 st full
  | sl a n cap st full rows c hn hcap hfull hst hc hr ih =>
    exact .sl a n cap st full rows c hn hcap hfull hst (fun j i r p h1 h2 => by
      obtain ⟨k1, k2⟩ := hc j i r p h1 h2
      obtain ⟨e1, e2⟩ := hx.prot _ _ k2 k1
      exact ⟨e2, e1⟩) ih
  | own v id st n h => exact .own v id st n (h.mono hx)
  | ptr v id off h =>
    obtain ⟨cells, h1, rfl⟩ := h
    obtain ⟨c', k1, _, k3⟩ := hx.box id cells h1
    exact .ptr _ id off ⟨c', k1, by rw [k3]⟩
  | cref a cells c hc hr ih =>
    exact .cref a cells c (fun i p h1 => by
      obtain ⟨k1, k2⟩ := hc i p h1
      obtain ⟨e1, e2⟩ := hx.prot _ _ k2 k1
      exact ⟨e2, e1⟩) ih
  | nilp => exact .nilp
  | fn f vs ps hl hr ih => exact .fn f vs ps hl ih
  | nilf => exact .nilf
  | mp v id h =>
    obtain ⟨es, h1, rfl⟩ := h
    obtain ⟨c', k1, k3⟩ := hx.map id es h1
    exact .mp _ id ⟨c', k1, by rw [k3]⟩
  | nilm => exact .nilm
  | iface t v p h ih => exact .iface t v p ih
  | nili => exact .nili
  | agg vs ps hl hr ih => exact .agg vs ps hl ih
  | tup vs ps hl hr ih => exact .tup vs ps hl ih
theorem RepL.mono {w w' : World} {g g' : Gh} {σ σ' : Heap} {vs : List Value} {ps : List PV} (h : RepL w g σ vs ps) (hx : WExt w g σ w' g' σ') : RepL w' g' σ' vs ps :=
  ⟨h.1, fun i v p hv hp => (h.2 i v p hv hp).mono hx⟩

/-! ### Values that do not name the abstract heap -/
theorem pureL_get {ps : List PV} (h : pureL ps = true) : ∀ (i : Nat) p, ps[i]? = some p → p.pure = true := by
  induction ps with
  | nil => intro i p hp; simp at hp
  | cons q ps ih =>
    simp only [pureL, Bool.and_eq_true] at h
    intro i p hp
    cases i with
    | zero => simp at hp; subst hp; exact h.1
    | succ i => exact ih h.2 i p (by simpa using hp)
theorem pureLL_get {rows : List (List PV)} (h : pureLL rows = true) : ∀ (i : Nat) r, rows[i]? = some r → pureL r = true := by
  induction rows with
  | nil => intro i p hp; simp at hp
  | cons q ps ih =>
    simp only [pureLL, Bool.and_eq_true] at h
    intro i p hp
    cases i with
    | zero => simp at hp; subst hp; exact h.1
    | succ i => exact ih h.2 i p (by simpa using hp)
theorem pureL_of {ps : List PV} (h : ∀ p ∈ ps, p.pure = true) : pureL ps = true := by
  induction ps with
  | nil => rfl
  | cons q ps ih =>
    simp only [pureL, Bool.and_eq_true]
    exact ⟨h q (by simp), ih fun p hp => h p (by simp [hp])⟩
theorem pureL_mem {ps : List PV} (h : pureL ps = true) : ∀ p ∈ ps, p.pure = true := fun p hp => by
  obtain ⟨i, hi⟩ := List.getElem?_of_mem hp
  exact pureL_get h i p hi
theorem pureLL_of {ps : List (List PV)} (h : ∀ p ∈ ps, pureL p = true) : pureLL ps = true := by
  induction ps with
  | nil => rfl
  | cons q ps ih =>
    simp only [pureLL, Bool.and_eq_true]
    exact ⟨h q (by simp), ih fun p hp => h p (by simp [hp])⟩
theorem pureLL_mem {ps : List (List PV)} (h : pureLL ps = true) : ∀ p ∈ ps, pureL p = true := fun p hp => by
  obtain ⟨i, hi⟩ := List.getElem?_of_mem hp
  exact pureLL_get h i p hi
theorem pureL_append (a b : List PV) : pureL (a ++ b) = (pureL a && pureL b) := by
  induction a with
  | nil => simp [pureL]
  | cons q a ih => simp [pureL, ih, Bool.and_assoc]
theorem pureLL_append (a b : List (List PV)) : pureLL (a ++ b) = (pureLL a && pureLL b) := by
  induction a with
  | nil => simp [pureLL]
  | cons q a ih => simp [pureLL, ih, Bool.and_assoc]

/-- A pure value is read off protected cells alone. -/
theorem Rep.keep {w w' : World} {g g' : Gh} {σ σ' : Heap} {v : Value} {p : PV} (h : Rep w g σ v p) (hp : p.pure = true)
    (hx : ∀ a v, g.prot a → w.cell? a = some v → g'.prot a ∧ w'.cell? a = some v) : Rep w' g' σ' v p := by
  induction h with
  | top v => simp [PV.pure] at hp
  | int k n => exact .int k n
  | bool b => exact .bool b
  | str s l h => exact .str s l h
  | nils => exact .nils
  | sl0 st full => exact .sl0 st full
  | sl a n cap st full rows c hn hcap hfull hst hc hr ih =>
    have hp' : pureLL rows = true := by simpa [PV.pure] using hp
    exact .sl a n cap st full rows c hn hcap hfull hst (fun j i r p h1 h2 => by
      obtain ⟨k1, k2⟩ := hc j i r p h1 h2
      obtain ⟨e1, e2⟩ := hx _ _ k2 k1
      exact ⟨e2, e1⟩) fun j i r p h1 h2 => ih j i r p h1 h2 (pureL_get (pureLL_get hp' j r h1) i p h2)
  | own v id st n h => simp [PV.pure] at hp
  | ptr v id off h => simp [PV.pure] at hp
  | cref a cells c hc hr ih =>
    have hp' : pureL cells = true := by simpa [PV.pure] using hp
    exact .cref a cells c (fun i p h1 => by
      obtain ⟨k1, k2⟩ := hc i p h1
      obtain ⟨e1, e2⟩ := hx _ _ k2 k1
      exact ⟨e2, e1⟩) fun i p h1 => ih i p h1 (pureL_get hp' i p h1)
  | nilp => exact .nilp
  | fn f vs ps hl hr ih =>
    have hp' : pureL ps = true := by simpa [PV.pure] using hp
    exact .fn f vs ps hl fun i v p h1 h2 => ih i v p h1 h2 (pureL_get hp' i p h2)
  | nilf => exact .nilf
  | mp v id h => simp [PV.pure] at hp
  | nilm => exact .nilm
  | iface t v p h ih => exact .iface t v p (ih (by simpa [PV.pure] using hp))
  | nili => exact .nili
  | agg vs ps hl hr ih =>
    have hp' : pureL ps = true := by simpa [PV.pure] using hp
    exact .agg vs ps hl fun i v p h1 h2 => ih i v p h1 h2 (pureL_get hp' i p h2)
  | tup vs ps hl hr ih =>
    have hp' : pureL ps = true := by simpa [PV.pure] using hp
    exact .tup vs ps hl fun i v p h1 h2 => ih i v p h1 h2 (pureL_get hp' i p h2)
theorem RepL.keep {w w' : World} {g g' : Gh} {σ σ' : Heap} {vs : List Value} {ps : List PV} (h : RepL w g σ vs ps) (hp : pureL ps = true)
    (hx : ∀ a v, g.prot a → w.cell? a = some v → g'.prot a ∧ w'.cell? a = some v) : RepL w' g' σ' vs ps :=
  ⟨h.1, fun i v p hv hq => (h.2 i v p hv hq).keep (pureL_get hp i p hq) hx⟩

/-! ### Abstract heaps -/
/-- Every entry of a map has a stamp of its own, before the clock. -/
def Born (ents : Array MapEntry) (clock : Nat) : Prop := (∀ x ∈ ents.toList, x.born < clock) ∧ (ents.toList.map (·.born)).Nodup
theorem Born.nil (clock : Nat) : Born #[] clock := ⟨fun x h => by simp at h, List.nodup_nil⟩
theorem Born.push {ents : Array MapEntry} {clock : Nat} (h : Born ents clock) (k v : Value) : Born (ents.push { key := k, val := v, born := clock }) (clock + 1) := by
  obtain ⟨h1, h2⟩ := h
  refine ⟨fun x hx => ?_, ?_⟩
  · rw [Array.toList_push, List.mem_append, List.mem_singleton] at hx
    rcases hx with hx | rfl
    · exact Nat.lt_succ_of_lt (h1 x hx)
    · exact Nat.lt_succ_self _
  · rw [Array.toList_push, List.map_append, List.nodup_append]
    refine ⟨h2, by simp, fun a ha b hb e => ?_⟩
    obtain ⟨x, hx, rfl⟩ := List.mem_map.1 ha
    simp only [List.map_cons, List.map_nil, List.mem_singleton] at hb
    have := h1 x hx
    omega
theorem Born.modify {ents : Array MapEntry} {clock : Nat} (h : Born ents clock) (j : Nat) (k v : Value) : Born (ents.modify j fun e => { e with key := k, val := v }) clock := by
  have e : (ents.modify j fun e => { e with key := k, val := v }).toList.map (·.born) = ents.toList.map (·.born) := by
    apply List.ext_getElem?
    intro i
    simp only [List.getElem?_map, Array.getElem?_toList, Array.getElem?_modify]
    split
    · cases ents[i]? <;> rfl
    · rfl
  refine ⟨fun x hx => ?_, by rw [e]; exact h.2⟩
  have : x.born ∈ (ents.modify j fun e => { e with key := k, val := v }).toList.map (·.born) := List.mem_map.2 ⟨x, hx, rfl⟩
  rw [e] at this
  obtain ⟨y, hy, hyx⟩ := List.mem_map.1 this
  rw [← hyx]
  exact h.1 y hy
def ObjOK (base : Nat) (w : World) (g : Gh) (σ : Heap) (id : Nat) : Obj → Prop
  | .box cells => base ≤ g.loc id ∧ (∃ c t, w.heap[g.loc id]? = some (.cells c t (0, 0)) ∧ RepL w g σ c.toList cells) ∧ ∀ a, g.prot a → a.block ≠ g.loc id
  | .log ty st rows => base ≤ g.loc id ∧ (∃ c, w.heap[g.loc id]? = some (.cells c ty (0, 0)) ∧ c.size = g.cap id * st ∧
      (∀ j i r p, rows[j]? = some r → r[i]? = some p → ∃ v, c[j * st + i]? = some v ∧ Rep w g σ v p ∧ g.prot ⟨g.loc id, j * st + i, none⟩)) ∧
      rows.length ≤ g.cap id ∧ g.cap id ≤ maxLen ∧ (∀ r ∈ rows, r.length = st) ∧ pureLL rows = true ∧ ∀ a, g.prot a → a.block = g.loc id → a.off < rows.length * st
  | .map es => base ≤ g.loc id ∧ ∃ ents clock, w.heap[g.loc id]? = some (.map ents clock) ∧ ents.size = es.length ∧ Born ents clock ∧
      ∀ (i : Nat) e kv, ents[i]? = some e → es[i]? = some kv → Rep w g σ e.key kv.1 ∧ Rep w g σ e.val kv.2

/-- What is known of the memory that was there before: of blocks below a number. -/
class Globs where
  ok : Nat → World → Prop
  mono : ∀ {B : Nat} {w w' : World}, ok B w → (∀ k, k < B → w'.heap[k]? = w.heap[k]?) → ok B w'
  up : ∀ {B B' : Nat} {w : World}, ok B w → B ≤ B' → ok B' w
instance trivialGlobs : Globs := ⟨fun _ _ => True, fun h _ => h, fun h _ => h⟩
variable [Globs]
set_option linter.unusedSectionVars false

structure Inv (base : Nat) (w : World) (g : Gh) (σ : Heap) : Prop where
  size : base ≤ w.heap.size
  prot : ∀ a, g.prot a → ∃ v, w.cell? a = some v
  obj : ∀ id o, σ[id]? = some o → ObjOK base w g σ id o
  inj : ∀ i j, i < σ.length → j < σ.length → g.loc i = g.loc j → i = j
  glob : Globs.ok base w

theorem block_lt {w : World} {a : Addr} {v : Value} (h : w.cell? a = some v) : a.block < w.heap.size := World.block_lt_of_cell? w a h

theorem ObjOK.lt {base : Nat} {w : World} {g : Gh} {σ : Heap} {id : Nat} {o : Obj} (h : ObjOK base w g σ id o) : g.loc id < w.heap.size := by
  cases o with
  | box cells => obtain ⟨_, ⟨c, t, hh, _⟩, _⟩ := h; exact (Array.getElem?_eq_some_iff.1 hh).1
  | log ty st rows => obtain ⟨_, ⟨c, hh, _⟩, _⟩ := h; exact (Array.getElem?_eq_some_iff.1 hh).1
  | map es => obtain ⟨_, ents, clock, hh, _⟩ := h; exact (Array.getElem?_eq_some_iff.1 hh).1
theorem ObjOK.base_le {base : Nat} {w : World} {g : Gh} {σ : Heap} {id : Nat} {o : Obj} (h : ObjOK base w g σ id o) : base ≤ g.loc id := by
  cases o with
  | box cells => exact h.1
  | log ty st rows => exact h.1
  | map es => exact h.1

/-- An object lives on where its block is as it was, its place and its capacity are, and no new cell of it is protected. -/
theorem ObjOK.mono {base : Nat} {w w' : World} {g g' : Gh} {σ σ' : Heap} {id : Nat} {o : Obj} (h : ObjOK base w g σ id o) (hx : WExt w g σ w' g' σ')
    (hloc : g'.loc id = g.loc id) (hcap : g'.cap id = g.cap id) (hb : w'.heap[g.loc id]? = w.heap[g.loc id]?) (hprot : ∀ a, g'.prot a → a.block = g.loc id → g.prot a) : ObjOK base w' g' σ' id o := by
  cases o with
  | box cells =>
    obtain ⟨h1, ⟨c, t, hh, hr⟩, h3⟩ := h
    refine ⟨by rw [hloc]; exact h1, ⟨c, t, by rw [hloc, hb]; exact hh, hr.mono hx⟩, fun a ha he => ?_⟩
    rw [hloc] at he
    exact h3 a (hprot a ha he) he
  | log ty st rows =>
    obtain ⟨h1, ⟨c, hh, hs, hr⟩, h3, h3', h4, h5, h6⟩ := h
    refine ⟨by rw [hloc]; exact h1, ⟨c, by rw [hloc, hb]; exact hh, by rw [hcap]; exact hs, fun j i r p k1 k2 => ?_⟩, by rw [hcap]; exact h3, by rw [hcap]; exact h3', h4, h5, fun a ha he => ?_⟩
    · obtain ⟨v, e1, e2, e3⟩ := hr j i r p k1 k2
      refine ⟨v, e1, e2.mono hx, ?_⟩
      rw [hloc]
      refine (hx.prot _ v e3 ?_).1
      simp [World.cell?, hh, e1]
    · rw [hloc] at he
      exact h6 a (hprot a ha he) he
  | map es =>
    obtain ⟨h1, ents, clock, hh, hs, hbn, hr⟩ := h
    exact ⟨by rw [hloc]; exact h1, ents, clock, by rw [hloc, hb]; exact hh, hs, hbn, fun i e kv k1 k2 => ⟨(hr i e kv k1 k2).1.mono hx, (hr i e kv k1 k2).2.mono hx⟩⟩

/-- Blocks of nobody's stay as they are, nobody's, and no more of them is protected. -/
def Framed (w : World) (g : Gh) (σ : Heap) (w' : World) (g' : Gh) (σ' : Heap) : Prop :=
  ∀ b, b < w.heap.size → (∀ id, id < σ.length → g.loc id ≠ b) → w'.heap[b]? = w.heap[b]? ∧ (∀ id, id < σ'.length → g'.loc id ≠ b) ∧ ∀ a : Addr, a.block = b → g'.prot a → g.prot a
/-- From one state to a later one of the same call. -/
structure Prog (base : Nat) (w : World) (g : Gh) (σ : Heap) (w' : World) (g' : Gh) (σ' : Heap) : Prop where
  inv : Inv base w' g' σ'
  ext : WExt w g σ w' g' σ'
  below : Below base w w'
  old : ∀ a, g'.prot a → a.block < base → g.prot a
  frame : Framed w g σ w' g' σ'
theorem Prog.refl {base : Nat} {w : World} {g : Gh} {σ : Heap} (h : Inv base w g σ) : Prog base w g σ w g σ := ⟨h, WExt.refl _ _ _, Below.refl _ _, fun _ h _ => h, fun _ _ h => ⟨rfl, h, fun _ _ h => h⟩⟩
theorem Prog.trans {base : Nat} {w w1 w2 : World} {g g1 g2 : Gh} {σ σ1 σ2 : Heap} (h : Prog base w g σ w1 g1 σ1) (k : Prog base w1 g1 σ1 w2 g2 σ2) : Prog base w g σ w2 g2 σ2 :=
  ⟨k.inv, h.ext.trans k.ext, h.below.trans k.below, fun a ha hb => h.old a (k.old a ha hb) hb, fun b hb hn => by
    obtain ⟨h1, h2, h3⟩ := h.frame b hb hn
    obtain ⟨k1, k2, k3⟩ := k.frame b (Nat.lt_of_lt_of_le hb h.below.size) h2
    exact ⟨k1.trans h1, k2, fun a ha hp => h3 a ha (k3 a ha hp)⟩⟩

/-- The world has grown by blocks of others; more is protected in these alone. -/
theorem Inv.grow {base : Nat} {w w' : World} {g : Gh} {σ : Heap} (h : Inv base w g σ) {prot' : Addr → Prop} (hb : Below w.heap.size w w')
    (h1 : ∀ a, g.prot a → prot' a) (h2 : ∀ a, prot' a → a.block < w.heap.size → g.prot a) (h3 : ∀ a, prot' a → ∃ v, w'.cell? a = some v) :
    Prog base w g σ w' { g with prot := prot' } σ := by
  have hx : WExt w g σ w' { g with prot := prot' } σ := by
    refine ⟨fun a v hp hc => ⟨h1 a hp, ?_⟩, fun _ _ _ rows h => ⟨rows, h, Nat.le_refl _, fun _ => ⟨rfl, rfl⟩⟩, fun _ c h => ⟨c, h, rfl, rfl⟩, fun _ es h => ⟨es, h, rfl⟩⟩
    rw [hb.cell (block_lt hc)]
    exact hc
  refine ⟨⟨Nat.le_trans h.size hb.size, h3, fun id o ho => ?_, h.inj, Globs.mono h.glob (hb.mono h.size).block⟩, hx, hb.mono h.size, fun a ha hl => h2 a ha (Nat.lt_of_lt_of_le hl h.size), fun b hlt hn => ⟨hb.block b hlt, hn, fun a ha hp => h2 a hp (by rw [ha]; exact hlt)⟩⟩
  have hk := h.obj id o ho
  exact hk.mono hx rfl rfl (hb.block _ hk.lt) fun a ha he => h2 a ha (by rw [he]; exact hk.lt)

/-- A block of one's own: a new object. -/
theorem Inv.push {base : Nat} {w : World} {g : Gh} {σ : Heap} (h : Inv base w g σ) (ob : Go.Obj) (o : Obj) (cap : Nat) (new : Addr → Prop)
    (hnew : ∀ a, new a → a.block = w.heap.size ∧ ∃ v, (w.alloc ob).cell? a = some v)
    (hobj : ∀ g' : Gh, (∀ a, g'.prot a ↔ g.prot a ∨ new a) → g'.loc σ.length = w.heap.size → g'.cap σ.length = cap → WExt w g σ (w.alloc ob) g' (σ ++ [o]) → ObjOK base (w.alloc ob) g' (σ ++ [o]) σ.length o) :
    ∃ g' : Gh, Prog base w g σ (w.alloc ob) g' (σ ++ [o]) ∧ g'.loc σ.length = w.heap.size ∧ g'.cap σ.length = cap ∧ ∀ a, g'.prot a ↔ g.prot a ∨ new a := by
  let g' : Gh := { prot := fun a => g.prot a ∨ new a, loc := fun i => if i = σ.length then w.heap.size else g.loc i, cap := fun i => if i = σ.length then cap else g.cap i }
  have hold : ∀ id o', σ[id]? = some o' → id < σ.length ∧ (σ ++ [o])[id]? = some o' ∧ g'.loc id = g.loc id ∧ g'.cap id = g.cap id := by
    intro id o' ho
    have hid := (List.getElem?_eq_some_iff.1 ho).1
    refine ⟨hid, by rw [List.getElem?_append_left hid]; exact ho, ?_, ?_⟩ <;> simp [g', Nat.ne_of_lt hid]
  have hb : Below w.heap.size w (w.alloc ob) := (Below.refl _ _).alloc (Nat.le_refl _) _
  have hx : WExt w g σ (w.alloc ob) g' (σ ++ [o]) := by
    refine ⟨fun a v hp hc => ⟨.inl hp, by rw [hb.cell (block_lt hc)]; exact hc⟩, fun id ty st rows ho => ?_, fun id cells ho => ?_, fun id es ho => ?_⟩
    · obtain ⟨_, e1, e2, e3⟩ := hold id _ ho
      exact ⟨rows, e1, Nat.le_refl _, fun _ => ⟨e2, e3⟩⟩
    · obtain ⟨_, e1, e2, e3⟩ := hold id _ ho
      exact ⟨cells, e1, rfl, e2⟩
    · obtain ⟨_, e1, e2, e3⟩ := hold id _ ho
      exact ⟨es, e1, e2⟩
  refine ⟨g', ⟨⟨by simp; have := h.size; omega, fun a ha => ?_, fun id o' ho => ?_, fun i j hi hj he => ?_, Globs.mono h.glob (hb.mono h.size).block⟩, hx, hb.mono h.size, fun a ha hl => ?_, fun b hlt hn => ⟨hb.block b hlt, fun id hid => ?_, fun a ha hp => ?_⟩⟩, by simp [g'], by simp [g'], fun a => Iff.rfl⟩
  · rcases ha with ha | ha
    · obtain ⟨v, hv⟩ := h.prot a ha
      exact ⟨v, by rw [hb.cell (block_lt hv)]; exact hv⟩
    · exact (hnew a ha).2
  · rcases Nat.lt_or_ge id σ.length with hid | hid
    · rw [List.getElem?_append_left hid] at ho
      obtain ⟨_, _, e2, e3⟩ := hold id _ ho
      have hk := h.obj id o' ho
      refine hk.mono hx e2 e3 (hb.block _ hk.lt) fun a ha he => ?_
      rcases ha with ha | ha
      · exact ha
      · have := (hnew a ha).1
        have := hk.lt
        omega
    · have hid' : id = σ.length := by
        have := (List.getElem?_eq_some_iff.1 ho).1
        simp at this
        omega
      subst hid'
      have ho' : o' = o := by simpa using ho.symm
      subst ho'
      exact hobj g' (fun a => Iff.rfl) (by simp [g']) (by simp [g']) hx
  · simp only [List.length_append, List.length_singleton] at hi hj
    have hlt : ∀ k, k < σ.length → g.loc k < w.heap.size := fun k hk => (h.obj k _ (List.getElem?_eq_getElem hk)).lt
    simp only [g'] at he
    split at he
    · split at he
      · omega
      · have := hlt j (by omega); omega
    · split at he
      · have := hlt i (by omega); omega
      · exact h.inj i j (by omega) (by omega) he
  · rcases ha with ha | ha
    · exact ha
    · have := (hnew a ha).1
      have := h.size
      omega
  · simp only [List.length_append, List.length_singleton] at hid
    simp only [g']
    split
    · omega
    · exact hn id (by omega)
  · rcases hp with hp | hp
    · exact hp
    · have := (hnew a hp).1
      omega
end Go.PE
