/- The operations, third part. -/
import Derived.Test.YtkpbfldnickghaaDoorPEd
import Derived.MapKept
import Derived.Lib.SmallJoins
import Derived.Lib.Strings
set_option linter.unusedVariables false
set_option linter.unusedSimpArgs false
set_option linter.unusedSectionVars false
namespace Go.PE
variable [Globs]
open Go.RowKit (Below)
section
variable {P : Program} {base : Nat} {w : World} {g : Gh} {σ : Heap} {a : Act} {e : Env} {o : Oper}

theorem op_nilchk (hi : Inv base w g σ) (hs : Sim w g σ a e) {x : Operand} {px : Opd} (hx : cOpd x = some px) {oo : Oper} (ho : oo.op = .nilCheck x) {p : PV} {σ' : Heap} (h : evPrim e σ (.nilchk px) = some (p, σ')) :
    ExecOK P base w g σ (execOp a.eval oo) p σ' := by
  have hr := ev_ok hs hx
  simp only [evPrim] at h
  unfold execOp
  simp only [ho]
  split at h
  · rename_i id off he
    rw [he] at hr
    cases h
    obtain ⟨cells, k1, k2⟩ := hr.ptr_inv
    rw [k2] at hr ⊢
    exact ⟨_, w, g, .inl rfl, Prog.refl hi, hr⟩
  · rename_i cs he
    rw [he] at hr
    cases h
    obtain ⟨ad, vs, k1, _, _⟩ := hr.cref_inv
    rw [k1] at hr ⊢
    exact ⟨_, w, g, .inl rfl, Prog.refl hi, hr⟩
  · rename_i f caps he
    rw [he] at hr
    cases h
    obtain ⟨vs, k1, _⟩ := hr.fn_inv
    rw [k1] at hr ⊢
    exact ⟨_, w, g, .inl rfl, Prog.refl hi, hr⟩
  · cases h

theorem i64max : IntKind.i64.max = 9223372036854775807 := by decide
theorem intBin_ok {op : BinOp} {k : IntKind} {x y : Int} {p : PV} (t : TypeId) (hn : ¬ (op = .shl ∨ op = .shr)) (h : intBin op k x y = some p) :
    ∃ v, (Go.binOp op t (.int k x) (.int k y)).run P w = .ok v w ∧ Rep w g σ v p := by
  cases op <;> simp only [intBin, Option.some.injEq, reduceCtorEq] at h
  case quo =>
    split at h
    · cases h
    · rename_i hy
      cases h
      refine ⟨.int k (k.wrap (x.tdiv y)), ?_, .int _ _⟩
      simp [Go.binOp, Op.intDiv, hy]
  case rem =>
    split at h
    · cases h
    · rename_i hy
      cases h
      refine ⟨.int k (x.tmod y), ?_, .int _ _⟩
      simp [Go.binOp, Op.intDiv, hy]
  case add => subst h; exact ⟨.int k (k.wrap (x + y)), by simp [Go.binOp, Op.intArith], .int _ _⟩
  case sub => subst h; exact ⟨.int k (k.wrap (x - y)), by simp [Go.binOp, Op.intArith], .int _ _⟩
  case mul => subst h; exact ⟨.int k (k.wrap (x * y)), by simp [Go.binOp, Op.intArith], .int _ _⟩
  case and => subst h; exact ⟨.int k (k.wrap (BitVec.ofInt k.bits x &&& BitVec.ofInt k.bits y).toNat), by simp only [Go.binOp, ne_eq, not_true_eq_false, if_false]; rfl, .int _ _⟩
  case or => subst h; exact ⟨.int k (k.wrap (BitVec.ofInt k.bits x ||| BitVec.ofInt k.bits y).toNat), by simp only [Go.binOp, ne_eq, not_true_eq_false, if_false]; rfl, .int _ _⟩
  case xor => subst h; exact ⟨.int k (k.wrap (BitVec.ofInt k.bits x ^^^ BitVec.ofInt k.bits y).toNat), by simp only [Go.binOp, ne_eq, not_true_eq_false, if_false]; rfl, .int _ _⟩
  case andNot => subst h; exact ⟨.int k (k.wrap (BitVec.ofInt k.bits x &&& ~~~ (BitVec.ofInt k.bits y)).toNat), by simp only [Go.binOp, ne_eq, not_true_eq_false, if_false]; rfl, .int _ _⟩
  case eql => subst h; exact ⟨.bool (x == y), by simp only [Go.binOp, ne_eq, not_true_eq_false, if_false]; rfl, .bool _⟩
  case neq => subst h; exact ⟨.bool (x != y), by simp only [Go.binOp, ne_eq, not_true_eq_false, if_false]; rfl, .bool _⟩
  case lss => subst h; exact ⟨.bool (x < y), by simp only [Go.binOp, ne_eq, not_true_eq_false, if_false]; rfl, .bool _⟩
  case leq => subst h; exact ⟨.bool (x ≤ y), by simp only [Go.binOp, ne_eq, not_true_eq_false, if_false]; rfl, .bool _⟩
  case gtr => subst h; exact ⟨.bool (x > y), by simp only [Go.binOp, ne_eq, not_true_eq_false, if_false]; rfl, .bool _⟩
  case geq => subst h; exact ⟨.bool (x ≥ y), by simp only [Go.binOp, ne_eq, not_true_eq_false, if_false]; rfl, .bool _⟩
theorem shBin_ok {op : BinOp} {k k' : IntKind} {x y : Int} {p : PV} (t : TypeId) (hn : op = .shl ∨ op = .shr) (h : shBin op k x y = some p) :
    ∃ v, (Go.binOp op t (.int k x) (.int k' y)).run P w = .ok v w ∧ Rep w g σ v p := by
  unfold shBin at h
  split at h
  · cases h
  · rename_i hy
    rcases hn with rfl | rfl
    · cases h; exact ⟨.int k (k.wrap (x * 2 ^ (min y.toNat k.bits))), by simp [Go.binOp, Op.shift, hy], .int _ _⟩
    · cases h; exact ⟨.int k (x.fdiv (2 ^ (min y.toNat k.bits))), by simp [Go.binOp, Op.shift, hy], .int _ _⟩
theorem data_app (x y : ByteArray) : (x ++ y).data.toList = x.data.toList ++ y.data.toList := by
  cases x; cases y; simp
theorem strBin_ok {op : BinOp} {x y : ByteArray} {p : PV} (t : TypeId) (h : strBin op x.data.toList y.data.toList = some p) :
    ∃ v, (Go.binOp op t (.string x) (.string y)).run P w = .ok v w ∧ Rep w g σ v p := by
  have e1 : x.toList = x.data.toList := ByteArray.toList_eq x
  have e2 : y.toList = y.data.toList := ByteArray.toList_eq y
  have e3 : x.data.toList.length = x.size := by rw [Array.length_toList]; rfl
  have e4 : y.data.toList.length = y.size := by rw [Array.length_toList]; rfl
  cases op <;> simp only [strBin, Option.some.injEq, reduceCtorEq] at h
  case eql => subst h; exact ⟨.bool (x.toList == y.toList), rfl, by rw [e1, e2]; exact .bool _⟩
  case neq => subst h; exact ⟨.bool (!(x.toList == y.toList)), rfl, by rw [e1, e2]; exact .bool _⟩
  case lss => subst h; exact ⟨.bool (Op.bytesLess x.toList y.toList), rfl, by rw [e1, e2]; exact .bool _⟩
  case leq => subst h; exact ⟨.bool (Op.bytesLess x.toList y.toList || x.toList == y.toList), rfl, by rw [e1, e2]; exact .bool _⟩
  case gtr => subst h; exact ⟨.bool (!(Op.bytesLess x.toList y.toList || x.toList == y.toList)), rfl, by rw [e1, e2]; exact .bool _⟩
  case geq => subst h; exact ⟨.bool (!Op.bytesLess x.toList y.toList), rfl, by rw [e1, e2]; exact .bool _⟩
  case add =>
    split at h
    · cases h
    · rename_i hl
      cases h
      rw [e3, e4] at hl
      refine ⟨.string (x ++ y), ?_, .str _ _ (data_app x y)⟩
      have hl' : ¬ (((x.size + y.size : Nat) : Int) > IntKind.i64.max) := by rw [i64max]; exact hl
      show (Op.stringOp .add x y).run P w = _
      simp only [Op.stringOp]
      rw [if_neg hl']
      rfl
theorem boolEq_ok {t : TypeId} (hu : P.underlying t = some .bool) (b b' : Bool) : (Go.binOp .eql t (.bool b) (.bool b')).run P w = .ok (.bool (b == b')) w ∧ (Go.binOp .neq t (.bool b) (.bool b')).run P w = .ok (.bool (!(b == b'))) w := by
  have h : (Op.equal t (.bool b) (.bool b')).run P w = .ok (b == b') w := by
    show (Op.equalIn (9999 + 1) t (.bool b) (.bool b')).run P w = _
    rw [Op.equalIn]
    simp only [Sem.run_bind, run_underlying hu, Result.andThen_ok]
    rfl
  constructor
  · show ((do pure (.bool (← Op.equal t (.bool b) (.bool b')))) : Sem Value).run P w = _
    simp only [Sem.run_bind, h, Result.andThen_ok, Sem.run_pure]
  · show ((do pure (.bool (!(← Op.equal t (.bool b) (.bool b'))))) : Sem Value).run P w = _
    simp only [Sem.run_bind, h, Result.andThen_ok, Sem.run_pure]

theorem op_bin (hi : Inv base w g σ) (hs : Sim w g σ a e) {op : BinOp} {t : TypeId} {x y : Operand} {px py : Opd} (hx : cOpd x = some px) (hy : cOpd y = some py) {p : PV} (h : evBin op (tyk P t) (px.ev e) (py.ev e) = some p) :
    ValOK P base w g σ (do eqGuard op t x y (a.eval x) (a.eval y); Go.binOp op t (a.eval x) (a.eval y)) p σ := by
  have hrx := ev_ok hs hx
  have hry := ev_ok hs hy
  unfold evBin at h
  split at h
  · rename_i k m k' n e1 e2
    rw [e1] at hrx
    rw [e2] at hry
    rw [hrx.int_inv, hry.int_inv]
    have hg : (eqGuard op t x y (.int k m) (.int k' n)).run P w = .ok () w := by cases op <;> rfl
    split at h
    · rename_i hsh
      obtain ⟨v, h1, h2⟩ := shBin_ok (P := P) (w := w) (g := g) (σ := σ) (k' := k') t hsh h
      exact .pure_ hi (by simp only [Sem.run_bind, hg, Result.andThen_ok, h1]) h2
    · rename_i hsh
      split at h
      · rename_i hk
        subst hk
        obtain ⟨v, h1, h2⟩ := intBin_ok (P := P) (w := w) (g := g) (σ := σ) t hsh h
        exact .pure_ hi (by simp only [Sem.run_bind, hg, Result.andThen_ok, h1]) h2
      · cases h
  · rename_i l l' e1 e2
    rw [e1] at hrx
    rw [e2] at hry
    obtain ⟨s, k1, rfl⟩ := hrx.str_inv
    obtain ⟨s', k2, rfl⟩ := hry.str_inv
    rw [k1, k2]
    have hg : (eqGuard op t x y (.string s) (.string s')).run P w = .ok () w := by cases op <;> rfl
    obtain ⟨v, h1, h2⟩ := strBin_ok (P := P) (w := w) (g := g) (σ := σ) t h
    exact .pure_ hi (by simp only [Sem.run_bind, hg, Result.andThen_ok, h1]) h2
  · rename_i b b' e1 e2
    rw [e1] at hrx
    rw [e2] at hry
    rw [hrx.bool_inv, hry.bool_inv]
    have hg : (eqGuard op t x y (.bool b) (.bool b')).run P w = .ok () w := by cases op <;> rfl
    split at h
    · rename_i hty
      have hu : P.underlying t = some .bool := by
        unfold tyk at hty
        split at hty <;> first | assumption | cases hty
      cases h
      exact .pure_ hi (by simp only [Sem.run_bind, hg, Result.andThen_ok]; exact (boolEq_ok hu b b').1) (.bool _)
    · rename_i hty
      have hu : P.underlying t = some .bool := by
        unfold tyk at hty
        split at hty <;> first | assumption | cases hty
      cases h
      exact .pure_ hi (by simp only [Sem.run_bind, hg, Result.andThen_ok]; exact (boolEq_ok hu b b').2) (.bool _)
    · cases h
  · cases h

theorem op_un (hi : Inv base w g σ) (hs : Sim w g σ a e) {op : UnOp} {x : Operand} {px : Opd} (hx : cOpd x = some px) {p : PV} (h : evUn op (px.ev e) = some p) : ValOK P base w g σ (Op.unary op (a.eval x)) p σ := by
  have hrx := ev_ok hs hx
  unfold evUn at h
  split at h
  · rename_i b he
    rw [he] at hrx
    cases h
    rw [hrx.bool_inv]
    exact .pure_ hi (v := .bool (!b)) (by simp [Op.unary]) (.bool _)
  · rename_i k n he
    rw [he] at hrx
    cases h
    rw [hrx.int_inv]
    exact .pure_ hi (v := .int k (k.wrap (0 - n))) (by simp [Op.unary, Op.intArith]) (.int _ _)
  · rename_i k n he
    rw [he] at hrx
    cases h
    rw [hrx.int_inv]
    exact .pure_ hi (v := .int k (k.wrap (BitVec.ofInt k.bits (if k.signed then -1 else k.max) ^^^ BitVec.ofInt k.bits n).toNat)) (by simp [Op.unary, Op.intBits]) (.int _ _)
  · cases h

theorem op_toint (hi : Inv base w g σ) (hs : Sim w g σ a e) {src dst : TypeId} {d : TypeDesc} {k : IntKind} (h1 : P.underlying src = some d) (h2 : P.underlying dst = some (.int k)) {x : Operand} {px : Opd} (hx : cOpd x = some px)
    {k' : IntKind} {n : Int} (hn : px.ev e = .int k' n) : ValOK P base w g σ (Go.convert src dst (a.eval x)) (.int k (k.wrap n)) σ := by
  have hrx := ev_ok hs hx
  rw [hn] at hrx
  rw [hrx.int_inv]
  exact .pure_ hi (v := .int k (k.wrap n)) (by simp [Go.convert, run_underlying h1, run_underlying h2, Conv.intToInt]) (.int _ _)
theorem op_tostr (hi : Inv base w g σ) (hs : Sim w g σ a e) {src dst : TypeId} (h1 : P.underlying src = some .string) (h2 : P.underlying dst = some .string) {x : Operand} {px : Opd} (hx : cOpd x = some px)
    {l : List UInt8} (hn : px.ev e = .str l) : ValOK P base w g σ (Go.convert src dst (a.eval x)) (.str l) σ := by
  have hrx := ev_ok hs hx
  rw [hn] at hrx
  obtain ⟨s, k1, k2⟩ := hrx.str_inv
  rw [k1]
  exact .pure_ hi (v := .string s) (by simp [Go.convert, run_underlying h1, run_underlying h2]) (.str _ _ k2)

theorem natOf_ok {x : Operand} {px : Opd} (hs : Sim w g σ a e) (hx : cOpd x = some px) {n : Nat} (h : natOf (px.ev e) = some n) : ∃ k m, a.eval x = .int k m ∧ 0 ≤ m ∧ m.toNat = n := by
  have hrx := ev_ok hs hx
  unfold natOf at h
  split at h
  · rename_i k m he
    rw [he] at hrx
    split at h
    · rename_i h0
      cases h
      exact ⟨k, m, hrx.int_inv, h0, rfl⟩
    · cases h
  · cases h
/-- An optional bound. -/
theorem optNat_ok {x : Option Operand} {px : Option Opd} (hs : Sim w g σ a e) (hx : cOpt x = some px) {d n : Nat} (h : optNat e d px = some n) :
    (x = none ∧ n = d ∧ px = none) ∨ ∃ y k m, x = some y ∧ a.eval y = .int k m ∧ 0 ≤ m ∧ m.toNat = n := by
  cases x with
  | none =>
    cases hx
    simp only [optNat, Option.some.injEq] at h
    exact .inl ⟨rfl, h.symm, rfl⟩
  | some y =>
    simp only [cOpt, Option.map_eq_some_iff] at hx
    obtain ⟨py, h1, rfl⟩ := hx
    obtain ⟨k, m, h2, h3, h4⟩ := natOf_ok hs h1 h
    exact .inr ⟨y, k, m, rfl, h2, h3, h4⟩
theorem run_bound (k : IntKind) (m : Int) (y : Nat) (code : BoundsCode) (h0 : 0 ≤ m) (h1 : m.toNat ≤ y) (w : World) : (Instr.sliceBound (.int k m) y code).run P w = .ok m.toNat w :=
  run_sliceBound w k m y code h0 (by omega)

theorem run_bounds (hs : Sim w g σ a e) {isS : Bool} {len cap : Nat} (hlc : len ≤ cap) {lo hi mx : Option Operand} {plo phi pmx : Option Opd} (h1 : cOpt lo = some plo) (h2 : cOpt hi = some phi) (h3 : cOpt mx = some pmx)
    {l h : Nat} (e1 : optNat e 0 plo = some l) (e2 : optNat e len phi = some h) (hlh : l ≤ h) (hhl : h ≤ len) {m : Nat} (e3 : (pmx = none ∧ m = cap) ∨ ∃ q, pmx = some q ∧ natOf (q.ev e) = some h ∧ m = h ∧ hi.isSome = true) :
    (Instr.sliceBounds isS len cap (lo.map a.eval) (hi.map a.eval) (mx.map a.eval)).run P w = .ok (l, h, m) w := by
  rcases e3 with ⟨rfl, rfl⟩ | ⟨q, rfl, e3, rfl, e4⟩
  · have hm : mx = none := by cases mx <;> simp [cOpt] at h3 ⊢
    subst hm
    rcases optNat_ok hs h1 e1 with ⟨rfl, rfl, _⟩ | ⟨y, k, n, rfl, k1, k2, k3⟩ <;> rcases optNat_ok hs h2 e2 with ⟨rfl, rfl, _⟩ | ⟨y', k', n', rfl, k1', k2', k3'⟩
    · simp [Instr.sliceBounds]
    · have b1 := fun c => run_bound (P := P) k' n' m c k2' (by omega) w
      simp [Instr.sliceBounds, k1', b1, k3']
    · have b1 := fun c => run_bound (P := P) k n h c k2 (by omega) w
      simp [Instr.sliceBounds, k1, b1, k3]
    · have b1 := fun c => run_bound (P := P) k n h c k2 (by omega) w
      have b2 := fun c => run_bound (P := P) k' n' m c k2' (by omega) w
      simp [Instr.sliceBounds, k1, k1', b1, b2, k3, k3']
  · cases mx with
    | none => simp [cOpt] at h3
    | some z =>
      simp only [cOpt, Option.map_eq_some_iff, Option.some.injEq] at h3
      obtain ⟨pz, h3, rfl⟩ := h3
      obtain ⟨k3, n3, m1, m2, m3⟩ := natOf_ok hs h3 e3
      have b3 := fun c => run_bound (P := P) k3 n3 cap c m2 (by omega) w
      rcases optNat_ok hs h2 e2 with ⟨rfl, rfl, _⟩ | ⟨y', k', n', rfl, k1', k2', k3'⟩
      · cases e4
      · have b2 := fun c => run_bound (P := P) k' n' m c k2' (by omega) w
        rcases optNat_ok hs h1 e1 with ⟨rfl, rfl, _⟩ | ⟨y, k, n, rfl, k1, k2, k3⟩
        · simp [Instr.sliceBounds, m1, b3, m3, k1', b2, k3']
        · have b1 := fun c => run_bound (P := P) k n m c k2 (by omega) w
          simp [Instr.sliceBounds, m1, b3, m3, k1', b2, k3', k1, b1, k3]

theorem list_drop_take (l : List UInt8) (x y : Nat) : (l.take y).drop x = (l.drop x).take (y - x) := by rw [List.drop_take]

theorem op_slice_str (hinv : Inv base w g σ) (hs : Sim w g σ a e) {t : TypeId} (hu : P.underlying t = some .string) {x : Operand} {px : Opd} (hx : cOpd x = some px) {lo hi mx : Option Operand} {plo phi pmx : Option Opd}
    (h1 : cOpt lo = some plo) (h2 : cOpt hi = some phi) (h3 : cOpt mx = some pmx) {p : PV} (h : sliceP true 1 σ e (px.ev e) plo phi pmx = some p) :
    ValOK P base w g σ (Instr.sliceAt t (a.eval x) (lo.map a.eval) (hi.map a.eval) (mx.map a.eval)) p σ := by
  have hrx := ev_ok hs hx
  simp only [sliceP, sliceS] at h
  split at h
  · rename_i s he
    rw [he] at hrx
    obtain ⟨b, k1, k2⟩ := hrx.str_inv
    rw [k1]
    split at h
    · rename_i l hh e1 e2
      split at h
      · rename_i hle
        obtain ⟨hl1, hl2⟩ := hle
        cases h
        have hsz : s.length = b.size := by rw [← k2, Array.length_toList]; rfl
        have hm : mx = none := by cases mx <;> simp [cOpt] at h3 ⊢
        subst hm
        have hb := run_bounds (P := P) (isS := false) (len := s.length) (cap := s.length) hs (Nat.le_refl _) h1 h2 h3 e1 e2 hl1 hl2 (m := s.length) (.inl ⟨rfl, rfl⟩)
        rw [hsz] at hb
        refine .pure_ hinv (v := .string (b.extract l hh)) ?_ (.str _ _ ?_)
        · have := run_sliceAt_string (P := P) w t (.string b) (lo.map a.eval) (hi.map a.eval) (Option.map a.eval none) hu
          rw [this]
          simp only [Option.map_none] at hb ⊢
          simp [Instr.slice, run_underlying hu, hb]
        · rw [Lib.extract_data, k2, list_drop_take]
      · cases h
    · cases h
  · cases h

theorem run_slice_of {t el : TypeId} {i : TypeInfo} (hu : P.underlying t = some (.slice el)) (hinfo : P.info? el = some i) {A : Option Addr} {n cap l h m : Nat} {lo hi mx : Option Value} (hb : (Instr.sliceBounds true n cap lo hi mx).run P w = .ok (l, h, m) w) :
    (Instr.sliceAt t (.slice A n cap) lo hi mx).run P w = .ok (.slice (if m = l then A else A.map (·.add (l * i.size))) (h - l) (m - l)) w := by
  simp [Instr.sliceAt, run_underlying hu, Instr.slice, hb, run_sizeOf_of hinfo]

theorem flat_drop {st : Nat} : ∀ (l : Nat) {rows : List (List PV)}, (∀ r ∈ rows, r.length = st) → (rows.drop l).flatten = rows.flatten.drop (l * st)
  | 0, _, _ => by simp
  | l + 1, [], _ => by simp
  | l + 1, r :: rows, h => by
    have h0 := h r (by simp)
    rw [List.drop_succ_cons, flat_drop l fun r' hr' => h r' (by simp [hr']), List.flatten_cons, Nat.succ_mul]
    rw [show l * st + st = r.length + l * st by omega, List.drop_append]
    simp
theorem flat_take {st : Nat} : ∀ (l : Nat) {rows : List (List PV)}, (∀ r ∈ rows, r.length = st) → (rows.take l).flatten = rows.flatten.take (l * st)
  | 0, _, _ => by simp
  | l + 1, [], _ => by simp
  | l + 1, r :: rows, h => by
    have h0 := h r (by simp)
    rw [List.take_succ_cons, List.flatten_cons, List.flatten_cons, flat_take l fun r' hr' => h r' (by simp [hr']), Nat.succ_mul]
    rw [show l * st + st = r.length + l * st by omega, List.take_length_add_append]

theorem op_slice (hinv : Inv base w g σ) (hs : Sim w g σ a e) {t el : TypeId} {i : TypeInfo} (hu : P.underlying t = some (.slice el)) (hinfo : P.info? el = some i) {x : Operand} {px : Opd} (hx : cOpd x = some px) {lo hi mx : Option Operand} {plo phi pmx : Option Opd}
    (h1 : cOpt lo = some plo) (h2 : cOpt hi = some phi) (h3 : cOpt mx = some pmx) {p : PV} (h : sliceP false i.size σ e (px.ev e) plo phi pmx = some p) :
    ValOK P base w g σ (Instr.sliceAt t (a.eval x) (lo.map a.eval) (hi.map a.eval) (mx.map a.eval)) p σ := by
  have hrx := ev_ok hs hx
  simp only [sliceP, sliceL] at h
  · split at h
    · cases h
    · rename_i rows hrows
      obtain ⟨A, cap, k1, k2, k3, k4⟩ := (rowsP_ok hinv hrx hrows).ex
      rw [k1]
      split at h
      · rename_i l hh e1 e2
        split at h
        · rename_i hle
          obtain ⟨hl1, hl2⟩ := hle
          have hul : ∀ r ∈ (rows.take hh).drop l, r.length = i.size := fun r hr => k3 r (List.mem_of_mem_take (List.mem_of_mem_drop hr))
          have hlen : ((rows.take hh).drop l).length = hh - l := by rw [List.length_drop, List.length_take]; omega
          have fin : ∀ (m : Nat) (full : Bool), (full = true → m = hh) → hh ≤ m → m ≤ cap → Rep w g σ (.slice (if m = l then A else A.map (·.add (l * i.size))) (hh - l) (m - l)) (.sl i.size full ((rows.take hh).drop l)) := by
            intro m full hf hm hmc
            rcases k4 with ⟨rfl, rfl, rfl⟩ | ⟨ad, vs, rfl, q1, q2⟩
            · have e0 : hh = 0 := by simpa using hl2
              subst e0
              have e0 : m = 0 := by omega
              subst e0
              have e0 : l = 0 := by omega
              subst e0
              exact .sl0 _ _
            · rw [← hlen]
              have e0 : (if m = l then some ad else Option.map (·.add (l * i.size)) (some ad)) = some (if m = l then ad else ad.add (l * i.size)) := by split <;> rfl
              rw [e0]
              refine Rep.sl_of (vs := (vs.take (hh * i.size)).drop (l * i.size)) (by omega) (fun hfu => by have := hf hfu; omega) hul ?_ fun j u hu => ?_
              · have f1 : ((rows.take hh).drop l).flatten = (rows.flatten.take (hh * i.size)).drop (l * i.size) := by
                  rw [flat_drop l (fun r hr => k3 r (List.mem_of_mem_take hr)), flat_take hh k3]
                rw [f1]
                exact (q1.take _).drop _
              · rw [List.getElem?_drop, List.getElem?_take] at hu
                split at hu
                · rename_i hlt
                  have hne : m ≠ l := fun e => by
                    have e' : hh = l := by omega
                    subst e'
                    omega
                  rw [if_neg hne, add_add]
                  exact ⟨(q2 _ u hu).1, (q2 _ u hu).2 rfl⟩
                · cases hu
          split at h
          · cases h
            have hb := run_bounds (P := P) (isS := true) (cap := cap) hs k2 h1 h2 h3 e1 e2 hl1 hl2 (m := cap) (.inl ⟨rfl, rfl⟩)
            exact .pure_ hinv (run_slice_of hu hinfo hb) (fin cap false (fun h => by cases h) (by omega) (Nat.le_refl _))
          · rename_i q
            split at h
            · rename_i e3
              obtain ⟨e3, h4⟩ := e3
              cases h
              have hsome : hi.isSome = true := by
                have := h4
                cases hi with
                | none => simp [cOpt] at h2; subst h2; simp at this
                | some _ => rfl
              have hb := run_bounds (P := P) (isS := true) (cap := cap) hs k2 h1 h2 h3 e1 e2 hl1 hl2 (m := hh) (.inr ⟨q, rfl, e3, rfl, hsome⟩)
              exact .pure_ hinv (run_slice_of hu hinfo hb) (fin hh true (fun _ => rfl) (Nat.le_refl _) (by omega))
            · cases h
        · cases h
      · cases h

theorem op_faddr (hi : Inv base w g σ) (hs : Sim w g σ a e) {t : TypeId} {fields : Array Field} {f : Nat} {fd : Field} {i : TypeInfo} (h1 : P.underlying t = some (.struct fields)) (h2 : fields[f]? = some fd) (h3 : P.info? fd.type = some i) (h4 : 0 < i.size)
    {x : Operand} {px : Opd} (hx : cOpd x = some px) {p : PV} {σ' : Heap} (h : evPrim e σ (.faddr fd.offset px) = some (p, σ')) : ValOK P base w g σ (Instr.fieldAt t (a.eval x) f) p σ' := by
  have hrx := ev_ok hs hx
  have run : ∀ ad, a.eval x = .pointer (some ad) → (Instr.fieldAt t (a.eval x) f).run P w = .ok (.pointer (some (ad.add fd.offset))) w := fun ad he => by
    have h0 : i.size ≠ 0 := by omega
    simp [Instr.fieldAt, run_underlying h1, h2, he, Instr.sureAddr, fieldPlace, run_sizeOf_of h3, h0]
  simp only [evPrim] at h
  split at h
  · rename_i id off he
    rw [he] at hrx
    cases h
    obtain ⟨cells, k1, k2⟩ := hrx.ptr_inv
    refine .pure_ hi (run _ k2) (.ptr _ _ _ ⟨cells, k1, ?_⟩)
    rw [add_litO]
  · rename_i cells he
    rw [he] at hrx
    cases h
    obtain ⟨ad, vs, k1, k2, k3⟩ := hrx.cref_inv
    refine .pure_ hi (run _ k1) (Rep.cref_of (k2.drop _) fun j u hu => ?_)
    rw [List.getElem?_drop] at hu
    rw [add_add]
    exact k3 _ u hu
  · cases h

theorem op_fld (hi : Inv base w g σ) (hs : Sim w g σ a e) {t : TypeId} {fields : Array Field} {f : Nat} {fd : Field} {d : TypeDesc} {i : TypeInfo} (h1 : P.underlying t = some (.struct fields)) (h2 : fields[f]? = some fd) (h3 : P.underlying fd.type = some d) (h4 : P.info? fd.type = some i)
    {x : Operand} {px : Opd} (hx : cOpd x = some px) {p : PV} {σ' : Heap} (h : evPrim e σ (.fld (aggTy d) fd.offset i.size px) = some (p, σ')) : ValOK P base w g σ (Instr.field t (a.eval x) f) p σ' := by
  have hrx := ev_ok hs hx
  simp only [evPrim] at h
  split at h
  · rename_i cells he
    rw [he] at hrx
    obtain ⟨vs, k1, k2⟩ := hrx.agg_inv
    rw [k1]
    have hsz : vs.size = cells.length := by have := k2.1; simpa using this
    cases hagg : aggTy d with
    | true =>
      rw [hagg] at h
      simp only [if_true] at h
      split at h
      · rename_i hle
        cases h
        refine .pure_ hi (v := .agg (vs.extract fd.offset (fd.offset + i.size))) ?_ (RepL.agg ?_)
        · simp [Instr.field, run_underlying h1, h2, asAgg, part, run_isAgg_of h3, hagg, run_sizeOf_of h4]
        · have e1 : (vs.extract fd.offset (fd.offset + i.size)).toList = (vs.toList.drop fd.offset).take i.size := by
            rw [Array.toList_extract, List.extract_eq_take_drop]
            congr 1
            omega
          rw [e1]
          exact (k2.drop _).take _
      · cases h
    | false =>
      rw [hagg] at h
      simp only [Bool.false_eq_true, if_false, Option.map_eq_some_iff] at h
      obtain ⟨q, hq, hpq⟩ := h
      cases hpq
      obtain ⟨v, hv, hrep⟩ := k2.get hq
      refine .pure_ hi (v := v) ?_ hrep
      rw [Array.getElem?_toList] at hv
      simp [Instr.field, run_underlying h1, h2, asAgg, part, run_isAgg_of h3, hagg, hv]
  · cases h

theorem op_iaddr (hi : Inv base w g σ) (hs : Sim w g σ a e) {t el : TypeId} {i : TypeInfo} (h1 : P.underlying t = some (.slice el)) (h2 : P.info? el = some i) (h3 : 0 < i.size) {x ix : Operand} {px pix : Opd} (hx : cOpd x = some px) (hix : cOpd ix = some pix)
    {p : PV} {σ' : Heap} (h : evPrim e σ (.iaddr i.size px pix) = some (p, σ')) : ValOK P base w g σ (Instr.indexAt t (a.eval x) (a.eval ix)) p σ' := by
  have hrx := ev_ok hs hx
  have hri := ev_ok hs hix
  have run : ∀ ad n cap k (m : Int), a.eval x = .slice (some ad) n cap → a.eval ix = .int k m → 0 ≤ m → m < n → (Instr.indexAt t (a.eval x) (a.eval ix)).run P w = .ok (.pointer (some (ad.add (m.toNat * i.size)))) w := by
    intro ad n cap k m e1 e2 e3 e4
    simp [Instr.indexAt, e1, e2, asIntOf, run_underlying h1, e3, e4, run_sizeOf_of h2]
  have fin : ∀ {rows : List (List PV)} {r : List PV} {k : IntKind} {m : Int}, a.eval ix = .int k m → 0 ≤ m → rows[m.toNat]? = some r → Reads w g σ i.size (a.eval x) rows true → ValOK P base w g σ (Instr.indexAt t (a.eval x) (a.eval ix)) (.cref r) σ := by
    intro rows r k m e1 e2 e3 hR
    obtain ⟨A, cap, k1, k2, k3, k4⟩ := hR.ex
    have hlt := (List.getElem?_eq_some_iff.1 e3).1
    rcases k4 with ⟨_, rfl, _⟩ | ⟨ad, vs, rfl, q1, q2⟩
    · simp at hlt
    · have hrl : r.length = i.size := k3 r (List.mem_of_getElem? e3)
      have hflat : (rows.flatten.drop (m.toNat * i.size)).take i.size = r := by
        rw [← flat_drop _ k3]
        have : rows.drop m.toNat = r :: rows.drop (m.toNat + 1) := by
          rw [List.drop_eq_getElem_cons hlt]
          congr 1
          exact (List.getElem?_eq_some_iff.1 e3).2
        rw [this, List.flatten_cons, ← hrl]
        simp
      refine .pure_ hi (run _ _ _ _ _ k1 e1 e2 (by omega)) (Rep.cref_of (vs := (vs.drop (m.toNat * i.size)).take i.size) ?_ fun j u hu => ?_)
      · have := (q1.drop (m.toNat * i.size)).take i.size
        rw [hflat] at this
        exact this
      · rw [List.getElem?_take, List.getElem?_drop] at hu
        split at hu
        · rw [add_add]
          exact ⟨(q2 _ u hu).1, (q2 _ u hu).2 rfl⟩
        · cases hu
  simp only [evPrim] at h
  split at h
  · rename_i st' full rows k m e1 e2
    rw [e2] at hri
    split at h
    · rename_i hc
      obtain ⟨rfl, h0⟩ := hc
      simp only [Option.map_eq_some_iff] at h
      obtain ⟨r, hr, hpr⟩ := h
      cases hpr
      exact fin hri.int_inv h0 hr (rowsP_ok hi hrx (by rw [e1]; simp [rowsP]))
    · cases h
  · rename_i id st' n k m e1 e2
    rw [e2] at hri
    split at h
    · rename_i ty st'' rows ho
      split at h
      · rename_i hc
        obtain ⟨rfl, rfl, rfl, h0⟩ := hc
        simp only [Option.map_eq_some_iff] at h
        obtain ⟨r, hr, hpr⟩ := h
        cases hpr
        exact fin hri.int_inv h0 hr (rowsP_ok hi hrx (by rw [e1]; simp [rowsP, ho]))
      · cases h
    · rename_i cells ho
      split at h
      · rename_i hc
        obtain ⟨rfl, hcl, h0, hmn⟩ := hc
        cases h
        rw [e1] at hrx
        have hown := hrx.own_inv
        unfold OwnOK at hown
        rw [ho] at hown
        have hv := hown.2 hcl
        refine .pure_ hi (run _ _ _ _ _ hv hri.int_inv h0 hmn) (.ptr _ _ _ ⟨cells, ho, ?_⟩)
        rw [add_lit']
      · cases h
    · cases h
  · cases h

theorem op_idxs (hi : Inv base w g σ) (hs : Sim w g σ a e) {t : TypeId} (h1 : P.underlying t = some .string) {x ix : Operand} {px pix : Opd} (hx : cOpd x = some px) (hix : cOpd ix = some pix)
    {p : PV} {σ' : Heap} (h : evPrim e σ (.idxs px pix) = some (p, σ')) : ValOK P base w g σ (Instr.index t (a.eval x) (a.eval ix)) p σ' := by
  have hrx := ev_ok hs hx
  have hri := ev_ok hs hix
  simp only [evPrim] at h
  split at h
  · rename_i s k m e1 e2
    rw [e1] at hrx
    rw [e2] at hri
    split at h
    · rename_i h0
      simp only [Option.map_eq_some_iff] at h
      obtain ⟨b, hb, hpb⟩ := h
      cases hpb
      obtain ⟨bs, k1, k2⟩ := hrx.str_inv
      have hb' : bs[m.toNat]? = some b := by
        rw [← k2, Array.getElem?_toList] at hb
        exact hb
      refine .pure_ hi (v := .int .u8 b.toNat) ?_ (.int _ _)
      rw [k1, hri.int_inv]
      simp [Instr.index, asIntOf, run_underlying h1, h0, hb']
    · cases h
  · cases h

theorem op_ext (hi : Inv base w g σ) (hs : Sim w g σ a e) {x : Operand} {px : Opd} (hx : cOpd x = some px) {i : Nat} {p : PV} {σ' : Heap} (h : evPrim e σ (.ext px i) = some (p, σ')) : ValOK P base w g σ (Instr.extract (a.eval x) i) p σ' := by
  have hrx := ev_ok hs hx
  simp only [evPrim] at h
  split at h
  · rename_i vs he
    rw [he] at hrx
    simp only [Option.map_eq_some_iff] at h
    obtain ⟨q, hq, hpq⟩ := h
    cases hpq
    obtain ⟨us, k1, k2⟩ := hrx.tup_inv
    obtain ⟨v, hv, hr⟩ := k2.get hq
    rw [Array.getElem?_toList] at hv
    rw [k1]
    exact .pure_ hi (by simp [Instr.extract, hv]) hr
  · cases h

theorem op_mkif (hi : Inv base w g σ) (hs : Sim w g σ a e) {t : TypeId} {d : TypeDesc} (h1 : P.underlying t = some d) (h2 : ∀ ms, d ≠ .interface ms) {x : Operand} {px : Opd} (hx : cOpd x = some px) : ValOK P base w g σ (Instr.makeInterface t (a.eval x)) (.iface t (px.ev e)) σ := by
  refine .pure_ hi (v := .iface t (a.eval x)) ?_ (.iface _ _ _ (ev_ok hs hx))
  simp only [Instr.makeInterface, Sem.run_bind, run_underlying h1, Result.andThen_ok]
  cases d <;> first | rfl | (rename_i ms; exact absurd rfl (h2 ms))

theorem op_mkfn (hi : Inv base w g σ) (hs : Sim w g σ a e) {f : FuncId} {caps : Array Operand} {ps : List Opd} (h : cOpds caps.toList = some ps) : ValOK P base w g σ (Instr.makeFunc (.func f) ((#[] : Array Operand).map a.eval) (caps.map a.eval)) (.fn f (ps.map (·.ev e))) σ := by
  have hr := cOpds_ok hs h
  refine .pure_ hi rfl ?_
  simp only [Array.map_empty]
  refine .fn _ _ _ (by have := hr.1; simpa using this) fun i v p hv hp => hr.2 i v p ?_ hp
  rw [← Array.getElem?_toList] at hv
  simpa using hv

theorem op_pick (hi : Inv base w g σ) (hs : Sim w g σ a e) {c x y : Operand} {pc px py : Opd} (hc : cOpd c = some pc) (hx : cOpd x = some px) (hy : cOpd y = some py) {p : PV} {σ' : Heap} (h : evPrim e σ (.pick pc px py) = some (p, σ')) :
    ExecOK P base w g σ (do pure (.value (if ← asBool (a.eval c) then a.eval x else a.eval y))) p σ' := by
  have hrc := ev_ok hs hc
  simp only [evPrim] at h
  split at h
  · rename_i he
    rw [he] at hrc
    cases h
    exact ⟨a.eval x, w, g, .inl (by simp [hrc.bool_inv, asBool]), Prog.refl hi, ev_ok hs hx⟩
  · rename_i he
    rw [he] at hrc
    cases h
    exact ⟨a.eval y, w, g, .inl (by simp [hrc.bool_inv, asBool]), Prog.refl hi, ev_ok hs hy⟩
  · cases h
end
end Go.PE
