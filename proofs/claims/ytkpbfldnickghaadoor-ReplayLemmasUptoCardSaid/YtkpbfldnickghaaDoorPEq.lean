/- Arguments of the program's data types, read as data. -/
import Derived.Test.YtkpbfldnickghaaDoorPEp
set_option linter.unusedVariables false
set_option linter.unusedSimpArgs false
namespace Go.PE

/-! ### How much data there is -/
/-- What a measure of readings owes. -/
structure Bk {H : Type} (B : DataW H → Nat) : Prop where
  pos : ∀ d, 1 ≤ B d
  str : ∀ s : Str, s.length + 1 ≤ B (.lit (.string s))
  slice : ∀ es sp, (es.map B).sum + 1 ≤ B (.slice es sp)
  agg : ∀ ps, (ps.map B).sum + 1 ≤ B (.agg ps)
mutual
def bw {H : Type} : DataW H → Nat
  | .lit (.string s) => s.length + 1
  | .slice es _ => bws es + 1
  | .agg ps => bws ps + 1
  | _ => 1
def bws {H : Type} : List (DataW H) → Nat
  | [] => 0
  | d :: r => bw d + bws r
end
theorem bws_sum {H : Type} : ∀ (l : List (DataW H)), bws l = (l.map bw).sum
  | [] => rfl
  | d :: r => by simp [bws, bws_sum r]
theorem bw_ok (H : Type) : Bk (bw (H := H)) where
  pos d := by
    cases d with
    | lit l => cases l <;> simp [bw]
    | _ => simp [bw]
  str s := by simp [bw]
  slice es sp := by simp [bw, bws_sum]
  agg ps := by simp [bw, bws_sum]

/-! ### In their ranges; how great -/
def i64ok (n : Int) : Prop := -9223372036854775808 ≤ n ∧ n ≤ 9223372036854775807
def u32ok (n : Nat) : Prop := n < 4294967296
def strOk (s : Str) : Prop := s.length ≤ 9223372036854775807
def TRat.wf (r : TRat) : Prop := (∀ x ∈ r.num, u32ok x) ∧ ∀ x ∈ r.den, u32ok x
mutual
def TNode.wf : TNode → Prop
  | .mk op name num kids => i64ok op ∧ strOk name ∧ num.wf ∧ TNode.wfs kids
def TNode.wfs : List TNode → Prop
  | [] => True
  | n :: r => n.wf ∧ TNode.wfs r
end
theorem TNode.wfs_iff : ∀ {l : List TNode}, TNode.wfs l ↔ ∀ n ∈ l, n.wf
  | [] => by simp [TNode.wfs]
  | n :: r => by simp [TNode.wfs, TNode.wfs_iff (l := r)]
def TMono.wf (m : TMono) : Prop := (∀ x ∈ m.exps, i64ok x) ∧ m.coef.wf
def TPoly.wf (p : TPoly) : Prop := i64ok p.n ∧ ∀ m ∈ p.terms, m.wf
def TSquare.wf (s : TSquare) : Prop := s.weight.wf ∧ s.poly.wf
def TPair.wf (p : TPair) : Prop := p.what.wf ∧ p.with_.wf ∧ ∀ n ∈ p.rates, n.wf
mutual
def TCert.wf : TCert → Prop
  | .mk kind nums polys squares kids => i64ok kind ∧ (∀ r ∈ nums, r.wf) ∧ (∀ p ∈ polys, p.wf) ∧ (∀ s ∈ squares, s.wf) ∧ TCert.wfs kids
def TCert.wfs : List TCert → Prop
  | [] => True
  | n :: r => n.wf ∧ TCert.wfs r
end
theorem TCert.wfs_iff : ∀ {l : List TCert}, TCert.wfs l ↔ ∀ n ∈ l, n.wf
  | [] => by simp [TCert.wfs]
  | n :: r => by simp [TCert.wfs, TCert.wfs_iff (l := r)]
mutual
def TProof.wf : TProof → Prop
  | .mk rule name forms subst path args cert kids => strOk rule ∧ strOk name ∧ (∀ n ∈ forms, n.wf) ∧ (∀ p ∈ subst, p.wf) ∧ (∀ x ∈ path, i64ok x) ∧ (∀ s ∈ args, strOk s) ∧ cert.wf ∧ TProof.wfs kids
def TProof.wfs : List TProof → Prop
  | [] => True
  | n :: r => n.wf ∧ TProof.wfs r
end
theorem TProof.wfs_iff : ∀ {l : List TProof}, TProof.wfs l ↔ ∀ n ∈ l, n.wf
  | [] => by simp [TProof.wfs]
  | n :: r => by simp [TProof.wfs, TProof.wfs_iff (l := r)]
def TStep.wf (s : TStep) : Prop := s.what.wf ∧ ∀ x ∈ s.kids, i64ok x

def TRat.sz (r : TRat) : Nat := 1 + r.num.length + r.den.length
mutual
def TNode.sz : TNode → Nat
  | .mk op name num kids => 1 + name.length + num.sz + TNode.szs kids
def TNode.szs : List TNode → Nat
  | [] => 0
  | n :: r => n.sz + TNode.szs r
end
theorem TNode.szs_sum : ∀ (l : List TNode), TNode.szs l = (l.map TNode.sz).sum
  | [] => rfl
  | n :: r => by simp [TNode.szs, TNode.szs_sum r]
def TMono.sz (m : TMono) : Nat := 1 + m.exps.length + m.coef.sz
def TPoly.sz (p : TPoly) : Nat := 1 + (p.terms.map TMono.sz).sum
def TSquare.sz (s : TSquare) : Nat := 1 + s.weight.sz + s.poly.sz
def TPair.sz (p : TPair) : Nat := 1 + p.what.sz + p.with_.sz + (p.rates.map TNode.sz).sum
mutual
def TCert.sz : TCert → Nat
  | .mk kind nums polys squares kids => 1 + (nums.map TRat.sz).sum + (polys.map TPoly.sz).sum + (squares.map TSquare.sz).sum + TCert.szs kids
def TCert.szs : List TCert → Nat
  | [] => 0
  | n :: r => n.sz + TCert.szs r
end
theorem TCert.szs_sum : ∀ (l : List TCert), TCert.szs l = (l.map TCert.sz).sum
  | [] => rfl
  | n :: r => by simp [TCert.szs, TCert.szs_sum r]
mutual
def TProof.sz : TProof → Nat
  | .mk rule name forms subst path args cert kids => 1 + rule.length + name.length + (forms.map TNode.sz).sum + (subst.map TPair.sz).sum + path.length + (args.map fun s => s.length + 1).sum + cert.sz + TProof.szs kids
def TProof.szs : List TProof → Nat
  | [] => 0
  | n :: r => n.sz + TProof.szs r
end
theorem TProof.szs_sum : ∀ (l : List TProof), TProof.szs l = (l.map TProof.sz).sum
  | [] => rfl
  | n :: r => by simp [TProof.szs, TProof.szs_sum r]
def TStep.sz (s : TStep) : Nat := 1 + s.what.sz + s.kids.length

/-! ### Reading -/
/-- A struct type and its fields' types and places. -/
def St (P : Program) (t : TypeId) (l : List (TypeId × Nat)) : Prop := ∃ fs, P.underlying t = some (.struct fs) ∧ fs.toList.map (fun f => (f.type, f.offset)) = l
section
variable {H : Type} {enc : TypeId × Value → H} {P : Program} {w : World} {sp : Nat → Bool} {hd : Bool} {B : DataW H → Nat}
theorem st_fields {t : TypeId} {l : List (TypeId × Nat)} (ht : St P t l) {fuel : Nat} {cs : List Value} {x : DataW H × List MemPlace} (h : DataW.trod enc P w 0 sp hd fuel t cs = some x) :
    ∃ (n : Nat) (xs : List (DataW H × List MemPlace)), fuel = n + 1 ∧ x.1 = .agg (xs.map (·.1)) ∧ cs.length = P.cellsOf t ∧ xs.length = l.length ∧ ∀ (i : Nat) (u o : Nat), l[i]? = some (u, o) → ∃ y, xs[i]? = some y ∧ DataW.trod enc P w 0 sp hd n u ((cs.drop o).take (P.cellsOf u)) = some y := by
  obtain ⟨fs, h1, h2⟩ := ht
  obtain ⟨n, xs, e1, e2, e3, e4, e5⟩ := rd_struct h1 h
  refine ⟨n, xs, e1, e2, e3, by rw [e4, ← h2]; simp, fun i u o hi => ?_⟩
  rw [← h2, List.getElem?_map, Option.map_eq_some_iff] at hi
  obtain ⟨f, hf, he⟩ := hi
  cases he
  exact e5 i f (by simpa using hf)
theorem rep_step {g : Gh} {σ : Heap} {cs : List Value} (o n o' : Nat) (ho : o' = o + n) {a b : List PV} (h1 : RepL w g σ ((cs.drop o).take n) a) (h2 : RepL w g σ (cs.drop o') b) : RepL w g σ (cs.drop o) (a ++ b) := by
  subst ho
  refine repL_split n h1 ?_
  rwa [List.drop_drop]
theorem rep_end {g : Gh} {σ : Heap} {cs : List Value} (o : Nat) (h : cs.length = o) : RepL w g σ (cs.drop o) [] := by
  rw [List.drop_eq_nil_of_le (by omega)]
  exact RepL.nil _ _ _
theorem sum_mem {l : List (DataW H × List MemPlace)} {i : Nat} {y : DataW H × List MemPlace} (h : l[i]? = some y) : True := trivial

/-- Reading and data. -/
def RdOk (B : DataW H → Nat) {α : Type} (ok wf : α → Prop) (sz : α → Nat) (d : DataW H) (y : α) : Prop := ok y ∧ wf y ∧ sz y ≤ B d
/-- The same for lists. -/
def RdOks (B : DataW H → Nat) {α : Type} (ok wf : α → Prop) (sz : α → Nat) (d : DataW H) (ys : List α) : Prop := (Sm ys ∧ ∀ y ∈ ys, ok y) ∧ (∀ y ∈ ys, wf y) ∧ (ys.map sz).sum + 1 ≤ B d
theorem rdOks_nil (hB : Bk B) {α : Type} {ok wf : α → Prop} {sz : α → Nat} : RdOks B ok wf sz .nil [] :=
  ⟨⟨by simp [Sm], fun y h => (List.not_mem_nil h).elim⟩, fun y h => (List.not_mem_nil h).elim, by have := hB.pos .nil; simpa using this⟩
theorem rdOks_mk (hB : Bk B) {α : Type} {ok wf : α → Prop} {sz : α → Nat} (es sp : List (DataW H)) (ys : List α) (hl : es.length ≤ maxLen) (h : All2 (RdOk B ok wf sz) es ys) : RdOks B ok wf sz (.slice es sp) ys := by
  refine ⟨⟨by have := h.length; unfold Sm; unfold maxLen at hl; omega, fun y hy => ?_⟩, fun y hy => ?_, ?_⟩
  · obtain ⟨_, _, hr⟩ := h.mem y hy
    exact hr.1
  · obtain ⟨_, _, hr⟩ := h.mem y hy
    exact hr.2.1
  · have h1 := hB.slice es sp
    have : ∀ (es : List (DataW H)) (ys : List α), All2 (RdOk B ok wf sz) es ys → (ys.map sz).sum ≤ (es.map B).sum := by
      intro es
      induction es with
      | nil => intro ys h; cases ys with
        | nil => simp
        | cons y ys => cases h
      | cons e es ih => intro ys h; cases ys with
        | nil => cases h
        | cons y ys => have := ih ys h.2; have := h.1.2.2; simp; omega
    have := this es ys h
    omega
/-- The readings' measures, summed up. -/
theorem sum3 (hB : Bk B) {x : DataW H × List MemPlace} {xs : List (DataW H × List MemPlace)} (hx : x.1 = .agg (xs.map (·.1))) : ((xs.map (·.1)).map B).sum + 1 ≤ B x.1 := by
  rw [hx]
  exact hB.agg _

/-- The program's types. -/
structure TyRat (P : Program) (tbool twords trat tu32 : TypeId) : Prop where
  bool : P.underlying tbool = some .bool
  u32 : P.underlying tu32 = some (.int .u32)
  words : P.underlying twords = some (.slice tu32)
  rat : St P trat [(tbool, 0), (twords, 1), (twords, 2)]
  cbool : P.cellsOf tbool = 1
  cu32 : P.cellsOf tu32 = 1
  cwords : P.cellsOf twords = 1
  crat : P.cellsOf trat = 3
def szOne {α : Type} (_ : α) : Nat := 1
theorem sum_one {α : Type} (l : List α) : (l.map szOne).sum = l.length := by
  induction l with
  | nil => rfl
  | cons a l ih => simp only [List.map_cons, List.sum_cons, List.length_cons, szOne, ih]; omega
theorem rd_words {tbool twords trat tu32 : TypeId} (T : TyRat P tbool twords trat tu32) (hB : Bk B) (fuel : Nat) : Rd enc P w sp hd twords (fun ys => [encL 1 cU32 ys]) (RdOks B (fun _ : Nat => True) u32ok szOne) fuel :=
  rd_slice T.words T.cu32 (fun _ => rfl) (rdOks_nil hB) (fun es sp ys => rdOks_mk hB es sp ys) fuel fun n _ =>
    rd_nat T.u32 rfl (fun n hn => ⟨trivial, by simp [Lit.wf, IntKind.min, IntKind.max, IntKind.signed, IntKind.bits] at hn; unfold u32ok; omega, hB.pos _⟩) n
theorem rd_rat {tbool twords trat tu32 : TypeId} (T : TyRat P tbool twords trat tu32) (hB : Bk B) (fuel : Nat) : Rd enc P w sp hd trat TRat.c (RdOk B TRat.ok TRat.wf TRat.sz) fuel := by
  intro cs x h
  obtain ⟨n, xs, rfl, e2, e3, e4, e5⟩ := st_fields T.rat h
  rw [T.crat] at e3
  obtain ⟨y0, x0, h0⟩ := e5 0 _ _ rfl
  obtain ⟨y1, x1, h1⟩ := e5 1 _ _ rfl
  obtain ⟨y2, x2, h2⟩ := e5 2 _ _ rfl
  rw [T.cbool] at h0
  rw [T.cwords] at h1 h2
  obtain ⟨b, _, r0⟩ := rd_bool T.bool (R := fun _ _ => True) (fun _ => trivial) n _ _ h0
  obtain ⟨u, ⟨⟨s1, _⟩, w1, z1⟩, r1⟩ := rd_words T hB n _ _ h1
  obtain ⟨v, ⟨⟨s2, _⟩, w2, z2⟩, r2⟩ := rd_words T hB n _ _ h2
  have hs := sum3 hB e2
  have ex : xs = [y0, y1, y2] := by
    match xs, e4, x0, x1, x2 with
    | [a, b, c], _, x0, x1, x2 => simp at x0 x1 x2; simp [x0, x1, x2]
  rw [ex] at hs
  simp only [List.map_cons, List.map_nil, List.sum_cons, List.sum_nil, sum_one] at hs z1 z2
  refine ⟨⟨b, u, v⟩, ⟨⟨s1, s2⟩, ⟨w1, w2⟩, ?_⟩, ?_⟩
  · simp only [TRat.sz]; omega
  · exact rep_step 0 1 1 rfl r0 (rep_step 1 1 2 rfl r1 (rep_step 2 1 3 rfl r2 (rep_end 3 e3)))

structure TyNode (P : Program) (tbool twords trat tu32 tint tstr tnode tnodes : TypeId) : Prop extends TyRat P tbool twords trat tu32 where
  int : P.underlying tint = some (.int .i64)
  str : P.underlying tstr = some .string
  node : St P tnode [(tint, 0), (tstr, 1), (trat, 2), (tnodes, 5)]
  nodes : P.underlying tnodes = some (.slice tnode)
  cint : P.cellsOf tint = 1
  cstr : P.cellsOf tstr = 1
  cnode : P.cellsOf tnode = 6
  cnodes : P.cellsOf tnodes = 1
theorem rd_i64 {t : TypeId} (ht : P.underlying t = some (.int .i64)) (hB : Bk B) (fuel : Nat) : Rd enc P w sp hd t cInt (RdOk B (fun _ => True) i64ok szOne) fuel :=
  rd_int ht (fun n hn => ⟨trivial, by simp [Lit.wf, IntKind.min, IntKind.max, IntKind.signed, IntKind.bits] at hn; unfold i64ok; omega, hB.pos _⟩) fuel
theorem rd_str {t : TypeId} (ht : P.underlying t = some .string) (hB : Bk B) (fuel : Nat) : Rd enc P w sp hd t cStr (RdOk B (fun _ => True) strOk (fun s => s.length + 1)) fuel :=
  rd_string ht (fun s hs => ⟨trivial, by simpa [strOk, maxLen] using hs, hB.str s⟩) fuel
theorem rd_node {tbool twords trat tu32 tint tstr tnode tnodes : TypeId} (T : TyNode P tbool twords trat tu32 tint tstr tnode tnodes) (hB : Bk B) : ∀ (fuel : Nat), Rd enc P w sp hd tnode TNode.c (RdOk B TNode.ok TNode.wf TNode.sz) fuel ∧ Rd enc P w sp hd tnodes (fun ys => [encL 6 TNode.c ys]) (RdOks B TNode.ok TNode.wf TNode.sz) fuel
  | 0 => ⟨fun cs x h => by simp [DataW.trod] at h, fun cs x h => by simp [DataW.trod] at h⟩
  | fuel + 1 => by
    obtain ⟨i1, i2⟩ := rd_node T hB fuel
    constructor
    · intro cs x h
      obtain ⟨n, xs, hn, e2, e3, e4, e5⟩ := st_fields T.node h
      obtain rfl : n = fuel := by omega
      rw [T.cnode] at e3
      obtain ⟨y0, x0, h0⟩ := e5 0 _ _ rfl
      obtain ⟨y1, x1, h1⟩ := e5 1 _ _ rfl
      obtain ⟨y2, x2, h2⟩ := e5 2 _ _ rfl
      obtain ⟨y3, x3, h3⟩ := e5 3 _ _ rfl
      rw [T.cint] at h0
      rw [T.cstr] at h1
      rw [T.crat] at h2
      rw [T.cnodes] at h3
      obtain ⟨op, ⟨_, w0, _⟩, r0⟩ := rd_i64 T.int hB n _ _ h0
      obtain ⟨name, ⟨_, w1, z1⟩, r1⟩ := rd_str T.str hB n _ _ h1
      obtain ⟨num, ⟨k2, w2, z2⟩, r2⟩ := rd_rat T.toTyRat hB n _ _ h2
      obtain ⟨kids, ⟨⟨s3, k3⟩, w3, z3⟩, r3⟩ := i2 _ _ h3
      have hs := sum3 hB e2
      have ex : xs = [y0, y1, y2, y3] := by
        match xs, e4, x0, x1, x2, x3 with
        | [a, b, c, d], _, x0, x1, x2, x3 => simp at x0 x1 x2 x3; simp [x0, x1, x2, x3]
      rw [ex] at hs
      simp only [List.map_cons, List.map_nil, List.sum_cons, List.sum_nil] at hs
      refine ⟨.mk op name num kids, ⟨⟨k2, s3, TNode.oks_iff.2 k3⟩, ⟨w0, w1, w2, TNode.wfs_iff.2 w3⟩, ?_⟩, ?_⟩
      · simp only [TNode.sz, TNode.szs_sum]; dsimp only at z1; omega
      · rw [TNode.c_eq]
        exact rep_step 0 1 1 rfl r0 (rep_step 1 1 2 rfl r1 (rep_step 2 3 5 rfl r2 (rep_step 5 1 6 rfl r3 (rep_end 6 e3))))
    · exact rd_slice T.nodes T.cnode TNode.len (rdOks_nil hB) (fun es sp ys => rdOks_mk hB es sp ys) (fuel + 1) fun n hn => by
        obtain rfl : n = fuel := by omega
        exact i1
end
end Go.PE
