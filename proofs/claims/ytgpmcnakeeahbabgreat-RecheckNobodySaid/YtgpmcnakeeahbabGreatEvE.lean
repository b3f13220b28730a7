/-
  Lengths, copies; numbers, texts, bools; conversions.
-/
import Derived.Test.YtgpmcnakeeahbabGreatEvD
namespace Go.Ev
open Go.Aw (litOk Z TK TI kOf isAggV tiOf TIs tiOf_spec WF addr_add toArray_getD getD_list und_sl und_str und_arr sB sB_length eqGuard_ok getD_toArray_append3 get_append3)

/-! ### len, cap -/
def lenE (P : Program) (t : TypeId) (x : D) : Option D :=
  match tiOf P t with
  | some { k := .str, .. } => (match x with
    | .lit (.string b) => some (.lit (goInt b.size))
    | _ => none)
  | some { k := .sl _, .. } => (match x with
    | .lit (.slice none 0 0) => some (.lit (goInt 0))
    | .em => some (.lit (goInt 0))
    | .sl _ _ len _ => some (.lit (goInt len))
    | _ => none)
  | some { k := .arr n _, .. } => some (.lit (goInt n))
  | _ => none

theorem len_ok {P : Program} {M : Mem} {w : World} {t ty : TypeId} {x y : D} (he : lenE P t x = some y) {v : Value} (hv : R M x v) :
    ∃ q, (Builtin.len_ #[t] ty #[v]).run P w = .ok q w ∧ R M y q := by
  unfold lenE at he
  have lit : ∀ n : Int, R M (.lit (goInt n)) (goInt n) := fun n => .lit _ trivial
  split at he
  · rename_i htt
    obtain ⟨it, dt, zt, ht⟩ := tiOf_spec htt
    have hts := und_str ht rfl
    split at he
    case h_2 => cases he
    cases he
    cases hv
    exact ⟨_, by simp [Builtin.len_, run_underlying hts], lit _⟩
  · rename_i htt
    obtain ⟨it, dt, zt, ht⟩ := tiOf_spec htt
    have hte := und_sl ht rfl
    split at he
    · cases he
      cases hv
      exact ⟨_, by simp [Builtin.len_, run_underlying hte], lit _⟩
    · cases he
      cases hv
      exact ⟨_, by simp [Builtin.len_, run_underlying hte], lit _⟩
    · cases he
      cases hv
      exact ⟨_, by simp [Builtin.len_, run_underlying hte], lit _⟩
    · cases he
  · rename_i htt
    obtain ⟨it, dt, zt, ht⟩ := tiOf_spec htt
    have hte := und_arr ht rfl
    cases he
    exact ⟨_, by simp [Builtin.len_, run_underlying hte], lit _⟩
  · cases he

def capE (P : Program) (t : TypeId) (x : D) : Option D :=
  match tiOf P t with
  | some { k := .sl _, .. } => (match x with
    | .lit (.slice none 0 0) => some (.lit (goInt 0))
    | .sl _ _ _ (some k) => some (.lit (goInt k))
    | _ => none)
  | _ => none

theorem cap_ok {P : Program} {M : Mem} {w : World} {t ty : TypeId} {x y : D} (he : capE P t x = some y) {v : Value} (hv : R M x v) :
    ∃ q, (Builtin.cap_ #[t] ty #[v]).run P w = .ok q w ∧ R M y q := by
  unfold capE at he
  have lit : ∀ n : Int, R M (.lit (goInt n)) (goInt n) := fun n => .lit _ trivial
  split at he
  · rename_i htt
    obtain ⟨it, dt, zt, ht⟩ := tiOf_spec htt
    have hte := und_sl ht rfl
    split at he
    · cases he
      cases hv
      exact ⟨_, by simp [Builtin.cap_, run_underlying hte], lit _⟩
    · cases he
      cases hv with
      | sl _ _ _ _ b k ha hk h0 hn hm =>
      have := hk _ rfl
      subst this
      exact ⟨_, by simp [Builtin.cap_, run_underlying hte], lit _⟩
    · cases he
  · cases he

/-! ### copy -/
def copyE (P : Program) (h : H) (t tx : TypeId) (x y : D) : Option (D × H) :=
  match tiOf P t with
  | some { k := .sl e, .. } => (match tiOf P e with
    | some ti => bif isSrc P tx y then (match srcE h ti.size y with
      | some (m, news) => (match x with
        | .sl l off len _ => bif Nat.ble m len then (match h.hp.get l with
          | some (.cells ty op ds) => bif Nat.ble (off + news.length) ds.length then
              some (.lit (goInt m), { h with hp := h.hp.set l (.cells ty op (ds.take off ++ news ++ ds.drop (off + news.length))) }) else none
          | _ => none) else none
        | _ => none)
      | none => none) else none
    | none => none)
  | _ => none

theorem copy_ok {P : Program} {M : Mem} {h h' : H} {w : World} (hr : RH M h w) {t tx ty : TypeId} {x y p : D} (he : copyE P h t tx x y = some (p, h')) {v u : Value} (hv : R M x v) (hu : R M y u) :
    ∃ q w', (Builtin.copy_ #[t, tx] ty #[v, u]).run P w = .ok q w' ∧ RH M h' w' ∧ R M p q ∧ Ext M w M w' := by
  unfold copyE at he
  split at he
  case h_2 => cases he
  rename_i tsize tbytes e tz htt
  obtain ⟨it, dt, zt, ht⟩ := tiOf_spec htt
  have hte := und_sl ht rfl
  split at he
  case h_2 => cases he
  rename_i ti hti
  obtain ⟨i, d, z, hi⟩ := tiOf_spec hti
  replace he := bif_some he
  obtain ⟨hsrc, he⟩ := he
  split at he
  case h_2 => cases he
  rename_i m dnews hs
  obtain ⟨news, hS⟩ := src_ok hr hs hsrc hu
  have hSs := hS.src
  rw [← hi.size] at hSs
  split at he
  case h_2 => cases he
  rename_i l off len cap
  replace he := bif_some he
  obtain ⟨hml, he⟩ := he
  simp only [Nat.ble_eq] at hml
  split at he
  case h_2 => cases he
  rename_i ty' op cs hcs
  replace he := bif_some he
  obtain ⟨hle, he⟩ := he
  simp only [Nat.ble_eq] at hle
  cases he
  cases hv with
  | sl _ _ _ _ b k ha hk h0 hlk hmk =>
  obtain ⟨c, hl, cur, hc1, hc2, hc3⟩ := hr.look hcs ha
  have hcsz : cs.length ≤ cur.size := by
    cases op with
    | none => simp only at hc2; omega
    | some q => exact hc2.1
  have h2 : off + news.length ≤ cur.size := by rw [hS.len]; omega
  have hst := run_storeCells_at P b off ty' news 0 cur w hc1 (by simpa using h2) hSs.one
  simp only [Nat.add_zero] at hst
  have hrun : (Builtin.copy_ #[t, tx] ty #[.slice (some ⟨b, off, none⟩) len k, u]).run P w = .ok (goInt m) (w.setRow b (cur.toList.take off ++ news ++ cur.toList.drop (off + news.length)).toArray) := by
    have hmin : Nat.min m len = m := Nat.min_eq_left hml
    simp [Builtin.copy_, run_underlying hte, hSs.len, sizeOf, typeInfo, hi.info, hmin, hSs.cells, hst]
  have wsize : (cur.toList.take off ++ news ++ cur.toList.drop (off + news.length)).toArray.size = cur.size := by
    simp only [List.size_toArray, List.length_append, List.length_take, List.length_drop, Array.length_toList]; omega
  obtain ⟨g1, g2⟩ := hr.write (w' := w.setRow b (cur.toList.take off ++ news ++ cur.toList.drop (off + news.length)).toArray) hl
    (.cells ty' op (cs.take off ++ dnews ++ cs.drop (off + dnews.length))) rfl rfl rfl (by simp) (fun m hm => setRow_other w b m _ (fun q => hm q))
    ⟨_, setRow_heap w b cur _ ty' (0, 0) hc1, by
      rw [wsize]
      have : (cs.take off ++ dnews ++ cs.drop (off + dnews.length)).length = cs.length := by
        simp only [List.length_append, List.length_take, List.length_drop]; omega
      cases op with
      | none => simp only [this] at hc2 ⊢; exact hc2
      | some q => simp only [this] at hc2 ⊢; exact hc2, fun j q hj => by
        rw [get_append3] at hj
        rw [getD_toArray_append3]
        have m1 : min off cs.length = off := by omega
        have m2 : min off cur.size = off := by omega
        simp only [List.length_take, Array.length_toList, m1, m2, ← hS.len] at hj ⊢
        split
        · rename_i q1
          rw [if_pos q1, List.getElem?_take_of_lt q1] at hj
          rw [show (cur.toList.take off).getD j undef = cur.getD j undef by simp [List.getD_eq_getElem?_getD, List.getElem?_take_of_lt q1, Array.getD_eq_getD_getElem?]]
          exact hc3 j q hj
        · rename_i q1
          rw [if_neg q1] at hj
          split
          · rename_i q2
            rw [if_pos q2] at hj
            exact hS.at_ _ q hj
          · rename_i q2
            rw [if_neg q2, List.getElem?_drop] at hj
            rw [show (cur.toList.drop (off + news.length)).getD (j - off - news.length) undef = cur.getD (off + news.length + (j - off - news.length)) undef by simp [List.getD_eq_getElem?_getD, Array.getD_eq_getD_getElem?]]
            exact hc3 _ q hj⟩
  exact ⟨_, _, hrun, g1, .lit _ trivial, g2⟩

/-! ### Two operands -/
def binI (op : BinOp) (k : IntKind) (a b : Int) : Option Value :=
  match op with
  | .add => some (.int k (k.wrap (a + b)))
  | .sub => some (.int k (k.wrap (a - b)))
  | .mul => some (.int k (k.wrap (a * b)))
  | .quo => bif b == 0 then none else some (.int k (k.wrap (a.tdiv b)))
  | .rem => bif b == 0 then none else some (.int k (a.tmod b))
  | .and => some (.int k (k.wrap (BitVec.ofInt k.bits a &&& BitVec.ofInt k.bits b).toNat))
  | .or => some (.int k (k.wrap (BitVec.ofInt k.bits a ||| BitVec.ofInt k.bits b).toNat))
  | .xor => some (.int k (k.wrap (BitVec.ofInt k.bits a ^^^ BitVec.ofInt k.bits b).toNat))
  | .andNot => some (.int k (k.wrap (BitVec.ofInt k.bits a &&& ~~~BitVec.ofInt k.bits b).toNat))
  | .eql => some (.bool (a == b))
  | .neq => some (.bool (a != b))
  | .lss => some (.bool (decide (a < b)))
  | .leq => some (.bool (decide (a ≤ b)))
  | .gtr => some (.bool (decide (a > b)))
  | .geq => some (.bool (decide (a ≥ b)))
  | _ => none

theorem binI_ok {P : Program} {w : World} {op : BinOp} {t : TypeId} {k : IntKind} {a b : Int} {v : Value} (h : binI op k a b = some v) : (binOp op t (.int k a) (.int k b)).run P w = .ok v w := by
  unfold binI at h
  cases op <;> simp only [Option.some.injEq, reduceCtorEq] at h
  case quo =>
    rw [cond_eq_ite] at h
    split at h
    · cases h
    · rename_i hb; cases h; simp at hb; simp [binOp, Op.intDiv, hb]
  case rem =>
    rw [cond_eq_ite] at h
    split at h
    · cases h
    · rename_i hb; cases h; simp at hb; simp [binOp, Op.intDiv, hb]
  all_goals
    subst h
    first
    | (simp only [binOp, Op.intCmp, ne_eq, not_true_eq_false, if_false, Sem.run_pure]; done)
    | (simp [binOp, Op.intArith]; done)
    | (simp [binOp, Op.intBits]; done)

def binS (op : BinOp) (a b : ByteArray) : Option Value :=
  match op with
  | .add => bif Nat.ble (a.size + b.size) 9223372036854775807 then some (.string (a ++ b)) else none
  | .eql => some (.bool (sB a == sB b))
  | .neq => some (.bool (!(sB a == sB b)))
  | .lss => some (.bool (Op.bytesLess (sB a) (sB b)))
  | .leq => some (.bool (Op.bytesLess (sB a) (sB b) || sB a == sB b))
  | .gtr => some (.bool (!(Op.bytesLess (sB a) (sB b) || sB a == sB b)))
  | .geq => some (.bool (!Op.bytesLess (sB a) (sB b)))
  | _ => none

theorem binS_ok {P : Program} {w : World} {op : BinOp} {t : TypeId} {a b : ByteArray} {v : Value} (h : binS op a b = some v) : (binOp op t (.string a) (.string b)).run P w = .ok v w ∧ litOk v := by
  unfold binS at h
  have e : ∀ c : ByteArray, c.toList = sB c := fun c => Lib.toList_data c
  cases op <;> simp only [Option.some.injEq, reduceCtorEq] at h
  case add =>
    replace h := bif_some h
    obtain ⟨h1, h2⟩ := h
    simp only [Nat.ble_eq] at h1
    cases h2
    refine ⟨?_, ?_⟩
    · simp only [binOp, Op.stringOp]
      rw [if_neg (by simp only [IntKind.max]; show ¬ (((a.size + b.size : Nat) : Int) > 9223372036854775807); omega)]
      rfl
    · show (a ++ b).size ≤ maxLen
      rw [ByteArray.size_append]
      simpa [maxLen] using h1
  all_goals
    subst h
    exact ⟨by simp only [binOp, Op.stringOp, Sem.run_pure, e], trivial⟩

def eqRes (op : BinOp) (b : Bool) : Option D :=
  match op with
  | .eql => some (.lit (.bool b))
  | .neq => some (.lit (.bool (!b)))
  | _ => none

inductive UK where | bool | ptr | sl | fn | ifc | oth
  deriving DecidableEq
def ukOf (P : Program) (t : TypeId) : UK :=
  match P.underlying t with
  | some .bool => .bool
  | some (.pointer _) => .ptr
  | some (.slice _) => .sl
  | some (.func _ _ _) => .fn
  | some (.interface _) => .ifc
  | _ => .oth

/-- Whether two values are the same, where that is seen at once. -/
def eqE (P : Program) (t : TypeId) (x y : D) : Option Bool :=
  match ukOf P t, x, y with
  | .bool, .lit (.bool a), .lit (.bool b) => some (a == b)
  | .ptr, .lit (.pointer none), .lit (.pointer none) => some true
  | .ptr, .pt _ _, .lit (.pointer none) => some false
  | .ptr, .lit (.pointer none), .pt _ _ => some false
  | .sl, .lit (.slice none 0 0), .lit (.slice none 0 0) => some true
  | .sl, .sl _ _ _ _, .lit (.slice none 0 0) => some false
  | .sl, .lit (.slice none 0 0), .sl _ _ _ _ => some false
  | .fn, .fn _ _ _, .lit .nilFunc => some false
  | .fn, .lit .nilFunc, .lit .nilFunc => some true
  | .fn, .lit .nilFunc, .fn _ _ _ => some false
  | .fn, .yl _, .lit .nilFunc => some false
  | .ifc, .ifc _ _, .lit .nilIface => some false
  | .ifc, .lit .nilIface, .ifc _ _ => some false
  | _, _, _ => none

theorem eqE_ok {P : Program} {M : Mem} {w : World} {t : TypeId} {x y : D} {b : Bool} (h : eqE P t x y = some b) {v u : Value} (hv : R M x v) (hu : R M y u) :
    (binOp .eql t v u).run P w = .ok (.bool b) w ∧ (binOp .neq t v u).run P w = .ok (.bool (!b)) w ∧ (∀ cs ds, ¬ (v = .agg cs ∧ u = .agg ds)) ∧ ¬ (v = .nilIface ∧ u = .nilIface) := by
  have key : (Op.equal t v u).run P w = .ok b w → binOp .eql t v u = (do pure (.bool (← Op.equal t v u)) : Sem Value) → binOp .neq t v u = (do pure (.bool (!(← Op.equal t v u))) : Sem Value) →
      (binOp .eql t v u).run P w = .ok (.bool b) w ∧ (binOp .neq t v u).run P w = .ok (.bool (!b)) w := fun h1 h2 h3 => by
    rw [h2, h3]
    simp [h1]
  unfold eqE at h
  split at h
  all_goals try (cases h; done)
  all_goals
    rename_i hk
    unfold ukOf at hk
    split at hk
    all_goals try (cases hk; done)
    rename_i hund
    cases h
    cases hv
    cases hu
    refine ⟨(key ?_ rfl rfl).1, (key ?_ rfl rfl).2, by simp, by simp⟩
    all_goals
      show Sem.run P (Op.equalIn (9999 + 1) t _ _) w = _
      generalize (9999 : Nat) = d
      simp only [Op.equalIn, Sem.run_bind, run_underlying hund, Result.andThen_ok]
      first | rfl | simp

def binN (op : BinOp) (k : IntKind) (a : Int) (k' : IntKind) (b : Int) : Option Value :=
  match op with
  | .shl => bif decide (0 ≤ b) then some (.int k (k.wrap (a * 2 ^ (min b.toNat k.bits)))) else none
  | .shr => bif decide (0 ≤ b) then some (.int k (a.fdiv (2 ^ (min b.toNat k.bits)))) else none
  | op => bif decide (k = k') then binI op k a b else none

def binE (P : Program) (op : BinOp) (t : TypeId) (x y : D) : Option D :=
  match x, y with
  | .lit (.int k a), .lit (.int k' b) => (binN op k a k' b).map .lit
  | .lit (.string a), .lit (.string b) => (binS op a b).map .lit
  | x, y => (match eqE P t x y with
    | some b => eqRes op b
    | none => none)

theorem binI_lit {op : BinOp} {k : IntKind} {a b : Int} {v : Value} (h : binI op k a b = some v) : litOk v := by
  unfold binI at h
  cases op <;> simp only [Option.some.injEq, reduceCtorEq] at h
  case quo =>
    rw [cond_eq_ite] at h
    split at h
    · cases h
    · cases h; trivial
  case rem =>
    rw [cond_eq_ite] at h
    split at h
    · cases h
    · cases h; trivial
  all_goals subst h; trivial

theorem binN_ok {P : Program} {w : World} {op : BinOp} {t : TypeId} {k k' : IntKind} {a b : Int} {v : Value} (h : binN op k a k' b = some v) : (binOp op t (.int k a) (.int k' b)).run P w = .ok v w ∧ litOk v := by
  have rest : (bif decide (k = k') then binI op k a b else none) = some v → (binOp op t (.int k a) (.int k' b)).run P w = .ok v w ∧ litOk v := fun h1 => by
    obtain ⟨hk, h2⟩ := bif_some h1
    simp only [decide_eq_true_eq] at hk
    subst hk
    exact ⟨binI_ok h2, binI_lit h2⟩
  cases op
  case shl =>
    replace h := bif_some h
    obtain ⟨hb, h⟩ := h
    simp only [decide_eq_true_eq] at hb
    have hnb : ¬ b < 0 := by omega
    cases h
    exact ⟨by simp only [binOp, Op.shift, if_neg hnb, Sem.run_pure], trivial⟩
  case shr =>
    replace h := bif_some h
    obtain ⟨hb, h⟩ := h
    simp only [decide_eq_true_eq] at hb
    have hnb : ¬ b < 0 := by omega
    cases h
    exact ⟨by simp only [binOp, Op.shift, if_neg hnb, Sem.run_pure], trivial⟩
  all_goals exact rest h

theorem bin_ok {P : Program} {M : Mem} {w : World} {op : BinOp} {t : TypeId} {x y p : D} (h : binE P op t x y = some p) {v u : Value} (hv : R M x v) (hu : R M y u) (ox oy : Operand) :
    ∃ q, (do eqGuard op t ox oy v u; binOp op t v u : Sem Value).run P w = .ok q w ∧ R M p q := by
  unfold binE at h
  split at h
  · rename_i k a k' b
    cases hv
    cases hu
    rw [Sem.run_bind, eqGuard_ok op t ox oy _ _ (by simp) (by simp), Result.andThen_ok]
    simp only [Option.map_eq_some_iff] at h
    obtain ⟨q, hq, rfl⟩ := h
    exact ⟨q, (binN_ok hq).1, .lit _ (binN_ok (P := P) (w := w) (t := t) hq).2⟩
  · rename_i a b
    cases hv
    cases hu
    rw [Sem.run_bind, eqGuard_ok op t ox oy _ _ (by simp) (by simp), Result.andThen_ok]
    simp only [Option.map_eq_some_iff] at h
    obtain ⟨q, hq, rfl⟩ := h
    exact ⟨q, (binS_ok hq).1, .lit _ (binS_ok (P := P) (w := w) (t := t) hq).2⟩
  · split at h
    case h_2 => cases h
    rename_i b hb
    obtain ⟨h1, h2, h3, h4⟩ := eqE_ok (w := w) hb hv hu
    rw [Sem.run_bind, eqGuard_ok op t ox oy _ _ h3 h4, Result.andThen_ok]
    unfold eqRes at h
    cases op <;> simp only [Option.some.injEq, reduceCtorEq] at h <;> subst h
    · exact ⟨_, h1, .lit _ trivial⟩
    · exact ⟨_, h2, .lit _ trivial⟩

/-! ### One operand, conversions -/
def unE (op : UnOp) : D → Option D
  | .lit (.bool b) => (match op with | .not => some (.lit (.bool (!b))) | _ => none)
  | .lit (.int k n) => (match op with
    | .neg => some (.lit (.int k (k.wrap (0 - n))))
    | _ => none)
  | _ => none

theorem un_ok {P : Program} {M : Mem} {w : World} {op : UnOp} {x y : D} (h : unE op x = some y) {v : Value} (hv : R M x v) : ∃ q, (Op.unary op v).run P w = .ok q w ∧ R M y q := by
  unfold unE at h
  split at h
  · split at h
    · cases h
      cases hv
      exact ⟨_, rfl, .lit _ trivial⟩
    · cases h
  · split at h
    · cases h
      cases hv
      exact ⟨_, by simp only [Op.unary, Op.intArith, Sem.run_pure], .lit _ trivial⟩
    · cases h
  · cases h

def convE (P : Program) (src dst : TypeId) (x : D) : Option D :=
  match tiOf P src, tiOf P dst with
  | some ts, some td => (match x with
    | .lit (.int _ n) => (match td.k with
      | .int k => some (.lit (.int k (k.wrap n)))
      | .str => bif Nat.ble (Utf8.encode n).size 9223372036854775807 then some (.lit (.string (Utf8.encode n))) else none
      | _ => none)
    | .lit (.string s) => (match td.k with
      | .str => some (.lit (.string s))
      | _ => none)
    | _ => none)
  | _, _ => none

theorem conv_ok {P : Program} {M : Mem} {w : World} {src dst : TypeId} {x y : D} (h : convE P src dst x = some y) {v : Value} (hv : R M x v) : ∃ q, (convert src dst v).run P w = .ok q w ∧ R M y q := by
  unfold convE at h
  split at h
  case h_2 => cases h
  rename_i ts td hts htd
  obtain ⟨is, ds, zs, hs⟩ := tiOf_spec hts
  obtain ⟨id, dd, zd, hd⟩ := tiOf_spec htd
  have hk := hd.k
  have hu := hd.und
  split at h
  · rename_i k n
    cases hv
    split at h
    · rename_i k' hk'
      rw [hk'] at hk
      cases dd <;> simp [kOf] at hk
      subst hk
      cases h
      refine ⟨.int k' (k'.wrap n), ?_, .lit _ trivial⟩
      simp only [convert, Sem.run_bind, run_underlying hs.und, run_underlying hu, Result.andThen_ok]
      cases ds <;> simp [Conv.intToInt]
    · rename_i hk'
      rw [hk'] at hk
      cases dd <;> simp [kOf] at hk
      replace h := bif_some h
      obtain ⟨hb, h⟩ := h
      simp only [Nat.ble_eq] at hb
      cases h
      refine ⟨.string (Utf8.encode n), ?_, .lit _ (by simpa [litOk, maxLen] using hb)⟩
      simp only [convert, Sem.run_bind, run_underlying hs.und, run_underlying hu, Result.andThen_ok]
      cases ds <;> simp [Conv.intToString]
    · cases h
  · rename_i s
    split at h
    case h_2 => cases h
    rename_i hk'
    rw [hk'] at hk
    cases dd <;> simp [kOf] at hk
    cases h
    cases hv with
    | lit _ hl =>
    refine ⟨_, ?_, .lit _ hl⟩
    simp only [convert, Sem.run_bind, run_underlying hs.und, run_underlying hu, Result.andThen_ok]
    cases ds <;> rfl
  · cases h

end Go.Ev
