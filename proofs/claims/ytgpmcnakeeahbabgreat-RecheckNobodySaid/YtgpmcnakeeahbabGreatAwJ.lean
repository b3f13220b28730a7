/-
  What is reckoned of numbers, texts and bools; all operations in one.
-/
import Derived.Test.YtgpmcnakeeahbabGreatAwI
namespace Go.Aw

def binP (P : Program) (op : BinOp) (t : TypeId) (x y : D) (K : D → Prop) : Prop :=
  match x, y with
  | .i (.lit (.int k a)), .i (.lit (.int k' b)) => k = k' ∧ (match op with
    | .add => K (.i (.lit (.int k (k.wrap (a + b)))))
    | .sub => K (.i (.lit (.int k (k.wrap (a - b)))))
    | .mul => K (.i (.lit (.int k (k.wrap (a * b)))))
    | .quo => b ≠ 0 ∧ K (.i (.lit (.int k (k.wrap (a.tdiv b)))))
    | .rem => b ≠ 0 ∧ K (.i (.lit (.int k (a.tmod b))))
    | .eql => K (.bool (a == b))
    | .neq => K (.bool (a != b))
    | .lss => K (.bool (decide (a < b)))
    | .leq => K (.bool (decide (a ≤ b)))
    | .gtr => K (.bool (decide (a > b)))
    | .geq => K (.bool (decide (a ≥ b)))
    | _ => False)
  | .i (.lit (.string a)), .i (.lit (.string b)) => (match op with
    | .add => (sB a).length + (sB b).length ≤ 9223372036854775807 ∧ K (.str (sB a ++ sB b))
    | .eql => K (.bool (sB a == sB b))
    | .neq => K (.bool (!(sB a == sB b)))
    | .lss => K (.bool (Op.bytesLess (sB a) (sB b)))
    | .leq => K (.bool (Op.bytesLess (sB a) (sB b) || sB a == sB b))
    | .gtr => K (.bool (!(Op.bytesLess (sB a) (sB b) || sB a == sB b)))
    | .geq => K (.bool (!Op.bytesLess (sB a) (sB b)))
    | _ => False)
  | .i (.lit (.bool a)), .i (.lit (.bool b)) => (match tiOf P t with
    | some ti => ti.k = .bool ∧ (match op with
      | .eql => K (.bool (a == b))
      | .neq => K (.bool (!(a == b)))
      | _ => False)
    | none => False)
  | _, _ => False

theorem eqGuard_ok {P : Program} {w : World} (op : BinOp) (t : TypeId) (x y : Operand) (a b : Value) (h : ∀ cs ds, ¬ (a = .agg cs ∧ b = .agg ds)) (h2 : ¬ (a = .nilIface ∧ b = .nilIface)) : (eqGuard op t x y a b).run P w = .ok () w := by
  have key : ∀ op : BinOp, (op = .eql ∨ op = .neq) → (eqGuard op t x y a b).run P w = .ok () w := by
    rintro op (rfl | rfl)
    all_goals
      show Sem.run P (match a, b with | .nilIface, .nilIface => _ | .agg _, .agg _ => _ | _, _ => (pure () : Sem Unit)) w = _
      split
      · exact absurd ⟨rfl, rfl⟩ h2
      · exact absurd ⟨rfl, rfl⟩ (h _ _)
      · rfl
  cases op <;> first | rfl | exact key _ (.inl rfl) | exact key _ (.inr rfl)

theorem bin_ok {P : Program} {M : Mem} {w : World} {op : BinOp} {t : TypeId} {x y : D} {K : D → Prop} (h : binP P op t x y K) {v u : Value} (hv : R M w x v) (hu : R M w y u) (ox oy : Operand) :
    ∃ z q, (do eqGuard op t ox oy v u; binOp op t v u : Sem Value).run P w = .ok q w ∧ R M w z q ∧ K z := by
  have lit : ∀ v, litOk v → R M w (.i (.lit v)) v := fun v h => .i _ _ (.lit _ h)
  unfold binP at h
  split at h
  · rename_i k a k' b
    obtain ⟨rfl, h⟩ := h
    cases hv with
    | i _ _ hv =>
    cases hv
    cases hu with
    | i _ _ hu =>
    cases hu
    rw [Sem.run_bind, eqGuard_ok op t ox oy _ _ (by simp) (by simp), Result.andThen_ok]
    cases op <;> simp only at h
    case add => exact ⟨_, .int k (k.wrap (a + b)), by simp [binOp, Op.intArith], lit _ trivial, h⟩
    case sub => exact ⟨_, .int k (k.wrap (a - b)), by simp [binOp, Op.intArith], lit _ trivial, h⟩
    case mul => exact ⟨_, .int k (k.wrap (a * b)), by simp [binOp, Op.intArith], lit _ trivial, h⟩
    case quo => exact ⟨_, .int k (k.wrap (a.tdiv b)), by simp [binOp, Op.intDiv, h.1], lit _ trivial, h.2⟩
    case rem => exact ⟨_, .int k (a.tmod b), by simp [binOp, Op.intDiv, h.1], lit _ trivial, h.2⟩
    case eql => exact ⟨_, .bool (a == b), by simp only [binOp, Op.intCmp, ne_eq, not_true_eq_false, if_false, Sem.run_pure], lit _ trivial, h⟩
    case neq => exact ⟨_, .bool (a != b), by simp only [binOp, Op.intCmp, ne_eq, not_true_eq_false, if_false, Sem.run_pure], lit _ trivial, h⟩
    case lss => exact ⟨_, .bool (decide (a < b)), by simp only [binOp, Op.intCmp, ne_eq, not_true_eq_false, if_false, Sem.run_pure], lit _ trivial, h⟩
    case leq => exact ⟨_, .bool (decide (a ≤ b)), by simp only [binOp, Op.intCmp, ne_eq, not_true_eq_false, if_false, Sem.run_pure], lit _ trivial, h⟩
    case gtr => exact ⟨_, .bool (decide (a > b)), by simp only [binOp, Op.intCmp, ne_eq, not_true_eq_false, if_false, Sem.run_pure], lit _ trivial, h⟩
    case geq => exact ⟨_, .bool (decide (a ≥ b)), by simp only [binOp, Op.intCmp, ne_eq, not_true_eq_false, if_false, Sem.run_pure], lit _ trivial, h⟩
  · rename_i a b
    cases hv with
    | i _ _ hv =>
    cases hv
    cases hu with
    | i _ _ hu =>
    cases hu
    rw [Sem.run_bind, eqGuard_ok op t ox oy _ _ (by simp) (by simp), Result.andThen_ok]
    have e : ∀ c : ByteArray, c.toList = sB c := fun c => Lib.toList_data c
    cases op <;> simp only at h
    case add =>
      obtain ⟨h1, h2⟩ := h
      rw [sB_length, sB_length] at h1
      refine ⟨_, .string (a ++ b), ?_, ?_, h2⟩
      · simp only [binOp, Op.stringOp]
        rw [if_neg (by simp only [IntKind.max]; show ¬ (((a.size + b.size : Nat) : Int) > 9223372036854775807); omega)]
        rfl
      · have : a ++ b = ⟨(sB a ++ sB b).toArray⟩ := by
          apply ByteArray.ext
          apply Array.ext'
          simp [sB]
        rw [this]
        refine lit _ ?_
        show (ByteArray.mk (List.toArray _)).size ≤ maxLen
        simp only [ByteArray.size, List.size_toArray, List.length_append, sB_length, maxLen]
        exact h1
    case eql => exact ⟨_, .bool (sB a == sB b), by simp only [binOp, Op.stringOp, Sem.run_pure, e], lit _ trivial, h⟩
    case neq => exact ⟨_, .bool (!(sB a == sB b)), by simp only [binOp, Op.stringOp, Sem.run_pure, e], lit _ trivial, h⟩
    case lss => exact ⟨_, .bool (Op.bytesLess (sB a) (sB b)), by simp only [binOp, Op.stringOp, Sem.run_pure, e], lit _ trivial, h⟩
    case leq => exact ⟨_, .bool (Op.bytesLess (sB a) (sB b) || sB a == sB b), by simp only [binOp, Op.stringOp, Sem.run_pure, e], lit _ trivial, h⟩
    case gtr => exact ⟨_, .bool (!(Op.bytesLess (sB a) (sB b) || sB a == sB b)), by simp only [binOp, Op.stringOp, Sem.run_pure, e], lit _ trivial, h⟩
    case geq => exact ⟨_, .bool (!Op.bytesLess (sB a) (sB b)), by simp only [binOp, Op.stringOp, Sem.run_pure, e], lit _ trivial, h⟩
  · rename_i a b
    cases hv with
    | i _ _ hv =>
    cases hv
    cases hu with
    | i _ _ hu =>
    cases hu
    rw [Sem.run_bind, eqGuard_ok op t ox oy _ _ (by simp) (by simp), Result.andThen_ok]
    split at h
    case h_2 => exact h.elim
    rename_i ti hti
    obtain ⟨it, dt, zt, ht⟩ := tiOf_spec hti
    obtain ⟨hk, h⟩ := h
    have hb : P.underlying t = some .bool := by
      rw [ht.und]
      have := ht.k
      rw [hk] at this
      cases dt <;> simp [kOf] at this
      rfl
    cases op <;> simp only at h
    case eql => exact ⟨_, _, run_eql_bool w t a b hb, lit _ trivial, h⟩
    case neq => exact ⟨_, _, run_neq_bool w t a b hb, lit _ trivial, h⟩
  · exact h.elim

def unP (op : UnOp) (x : D) (K : D → Prop) : Prop :=
  match op, x with
  | .not, .i (.lit (.bool b)) => K (.bool (!b))
  | .neg, .i (.lit (.int k n)) => K (.i (.lit (.int k (k.wrap (0 - n)))))
  | _, _ => False

theorem un_ok {P : Program} {M : Mem} {w : World} {op : UnOp} {x : D} {K : D → Prop} (h : unP op x K) {v : Value} (hv : R M w x v) : ∃ z q, (Op.unary op v).run P w = .ok q w ∧ R M w z q ∧ K z := by
  unfold unP at h
  split at h
  · cases hv with
    | i _ _ hv =>
    cases hv
    exact ⟨_, _, rfl, .i _ _ (.lit _ trivial), h⟩
  · cases hv with
    | i _ _ hv =>
    cases hv
    rename_i _ _ k n _
    exact ⟨_, .int k (k.wrap (0 - n)), by simp only [Op.unary, Op.intArith, Sem.run_pure], .i _ _ (.lit _ trivial), h⟩
  · exact h.elim

def convP (P : Program) (src dst : TypeId) (x : D) (K : D → Prop) : Prop :=
  match tiOf P src, tiOf P dst, x with
  | some _, some td, .i (.lit (.int _ n)) => (match td.k with
    | .int k => K (.i (.lit (.int k (k.wrap n))))
    | .str => (Utf8.encode n).size ≤ 9223372036854775807 ∧ K (.str (sB (Utf8.encode n)))
    | _ => False)
  | some _, some td, .i (.lit (.string s)) => td.k = .str ∧ K (.i (.lit (.string s)))
  | _, _, _ => False

theorem conv_ok {P : Program} {M : Mem} {w : World} {src dst : TypeId} {x : D} {K : D → Prop} (h : convP P src dst x K) {v : Value} (hv : R M w x v) : ∃ z q, (convert src dst v).run P w = .ok q w ∧ R M w z q ∧ K z := by
  unfold convP at h
  split at h
  · rename_i ts td k n hts htd
    obtain ⟨is, ds, zs, hs⟩ := tiOf_spec hts
    obtain ⟨id, dd, zd, hd⟩ := tiOf_spec htd
    cases hv with
    | i _ _ hv =>
    cases hv
    have hk := hd.k
    split at h
    · rename_i k' hk'
      rw [hk'] at hk
      cases dd <;> simp [kOf] at hk
      subst hk
      have hu := hd.und
      refine ⟨_, .int k' (k'.wrap n), ?_, .i _ _ (.lit _ trivial), h⟩
      simp only [convert, Sem.run_bind, run_underlying hs.und, run_underlying hu, Result.andThen_ok]
      cases ds <;> simp [Conv.intToInt]
    · rename_i hk'
      rw [hk'] at hk
      cases dd <;> simp [kOf] at hk
      have hu := hd.und
      refine ⟨_, .string (Utf8.encode n), ?_, ?_, h.2⟩
      · simp only [convert, Sem.run_bind, run_underlying hs.und, run_underlying hu, Result.andThen_ok]
        cases ds <;> simp [Conv.intToString]
      · show R M w (.i (.lit (.string ⟨(sB (Utf8.encode n)).toArray⟩))) _
        rw [mk_sB]; exact .i _ _ (.lit _ (by simpa [litOk, maxLen] using h.1))
    · exact h.elim
  · rename_i ts td s hts htd
    obtain ⟨is, ds, zs, hs⟩ := tiOf_spec hts
    obtain ⟨id, dd, zd, hd⟩ := tiOf_spec htd
    obtain ⟨hk', h⟩ := h
    cases hv with
    | i _ _ hv =>
    have hk := hd.k
    rw [hk'] at hk
    cases dd <;> simp [kOf] at hk
    have hu := hd.und
    have hvv := hv
    cases hv
    refine ⟨_, _, ?_, .i _ _ hvv, h⟩
    simp only [convert, Sem.run_bind, run_underlying hs.und, run_underlying hu, Result.andThen_ok]
    cases ds <;> rfl
  · exact h.elim

def pickD (t : Bool) (x y : D) : D :=
  match x, y with
  | .i (.lit (.bool a)), .i (.lit (.bool b)) => .bool (cond t a b)
  | x, y => cond t x y

theorem pickD_R {M : Mem} {w : World} (t : Bool) {x y : D} {v u : Value} (hv : R M w x v) (hu : R M w y u) : R M w (pickD t x y) (if t then v else u) := by
  unfold pickD
  split
  · cases hv with
    | i _ _ hv =>
    cases hv
    cases hu with
    | i _ _ hu =>
    cases hu
    cases t <;> exact .i _ _ (.lit _ trivial)
  · cases t
    · exact hu
    · exact hv

def mkIfc (t : TypeId) : D → D
  | .i x => .i (.ifc t x)
  | d => .ifc t d

theorem mkIfc_R {M : Mem} {w : World} (t : TypeId) {x : D} {v : Value} (hv : R M w x v) : R M w (mkIfc t x) (.iface t v) := by
  cases hv with
  | i x v h => exact .i _ _ (.ifc t x v h)
  | agg l cs h1 h2 h3 => exact .ifc t _ _ (.agg l cs h1 h2 h3)
  | pt l b o h => exact .ifc t _ _ (.pt l b o h)
  | el row o b off V h1 h2 h3 => exact .ifc t _ _ (.el row o b off V h1 h2 h3)
  | ea l sz i o v b h1 h2 => exact .ifc t _ _ (.ea l sz i o v b h1 h2)
  | os l v h1 h2 => exact .ifc t _ _ (.os l v h1 h2)
  | fn f a b c d h1 h2 h3 h4 => exact .ifc t _ _ (.fn f a b c d h1 h2 h3 h4)
  | yl l b F h1 h2 => exact .ifc t _ _ (.yl l b F h1 h2)
  | ifc t' d v h => exact .ifc t _ _ (.ifc t' d v h)
  | tup l vs h1 h2 => exact .ifc t _ _ (.tup l vs h1 h2)
  | un => exact .ifc t _ _ .un
  | any v => exact .ifc t _ _ (.any v)

/-- Does the program have a body for this function, of the usual kind? -/
def enters (P : Program) (g : FuncId) : Bool :=
  match P.funcs[g]? with
  | some fn => fn.body.isSome && !(fn.name == "runtime.NumGoroutine")
  | none => false

/-- The call of function g comes to a result, and a state, of which K holds; or to a panic of which Kp holds. -/
def CallD (P : Program) (g : FuncId) (args : List D) (s : St) (K Kp : D → St → Prop) : Prop :=
  enters P g = true ∧ ∀ M w a, Rep M s w a → ∀ vs : Array Value, vs.size = args.length → (∀ i d, args[i]? = some d → R M w d (vs.getD i undef)) →
    Calls P g vs w fun e w' => ∃ M' s' d v, Rep M' s' w' a ∧ Ext M w M' w' ∧ R M' w' d v ∧ ((e = .returned v ∧ K d s') ∨ (e = .panicked [{ v := v, recovered := false }] ∧ Kp d s'))

def callP (P : Program) (f : D) (args : List D) (s : St) (K Kp : D → St → Prop) : Prop :=
  match f with
  | .fn (.func g) first caps => CallD P g (first ++ args ++ caps) s K Kp
  | _ => False

def opP (P : Program) (s : St) (k : Nat) (op : Op) (K Kp : D → St → Prop) : Prop :=
  match op with
  | .move x => K (valD s x) s
  | .assign x => K (valD s x) s
  | .pick c x y => (match valD s c with
    | .i (.lit (.bool t)) => K (pickD t (valD s x) (valD s y)) s
    | _ => False)
  | .alloc t => (match tiOf P t with
    | some ti => K (.pt (.l k) 0) { s with hp := hupd s.hp (.l k) (.cells t (ti.z.map zD)), nx := k + 1 }
    | none => False)
  | .box t x => okX (valD s x) = true ∧ K (.pt (.l k) 0) { s with hp := hupd s.hp (.l k) (.cells t (cellsD (valD s x))), nx := k + 1 }
  | .build t ps => ps.toList ≠ [] ∧ buildP P t (ps.toList.map fun p => (p.1, valD s p.2)) fun d => K d s
  | .buildSlice t n ps => buildSliceP P s k t n (ps.toList.map fun p => (p.1, valD s p.2)) K
  | .load t x => (match tiOf P t with
    | some ti => loadP s ti (valD s x) fun d => K d s
    | none => False)
  | .store t x y => (match tiOf P t with
    | some ti => storeP s ti (valD s x) (valD s y) (K .any)
    | none => False)
  | .nilCheck x => (match valD s x with
    | .pt l o => K (.pt l o) s
    | .el r o => K (.el r o) s
    | .ea l sz i o => K (.ea l sz i o) s
    | .fn (.func g) a b => K (.fn (.func g) a b) s
    | .yl l => K (.yl l) s
    | _ => False)
  | .binOp op t x y _ => binP P op t (valD s x) (valD s y) fun d => K d s
  | .unOp op _ x => unP op (valD s x) fun d => K d s
  | .convert src dst x => convP P src dst (valD s x) fun d => K d s
  | .makeInterface t x => (match tiOf P t with
    | some ti => ti.k ≠ .ifc ∧ K (mkIfc t (valD s x)) s
    | none => False)
  | .makeFunc fn first caps => K (.fn fn (first.toList.map (valD s)) (caps.toList.map (valD s))) s
  | .makeSlice t l c => makeP P s k t (valD s l) (valD s c) K
  | .slice t x lo hi mx => sliceP P t (valD s x) (lo.map (valD s)) (hi.map (valD s)) (mx.map (valD s)) fun d => K d s
  | .fieldAddr t x f => fieldAddrP P t (valD s x) f fun d => K d s
  | .field t x f => fieldP P t (valD s x) f fun d => K d s
  | .indexAddr t x ix => indexAddrP P s t (valD s x) (valD s ix) fun d => K d s
  | .index t x ix => indexP P t (valD s x) (valD s ix) fun d => K d s
  | .extract x i => (match valD s x with
    | .tup l => (match l[i]? with
      | some d => K d s
      | none => False)
    | _ => False)
  | .call c => (match c.callee with
    | .builtin .len => (match c.argTypes.toList, c.args.toList with
      | [t], [x] => lenP P s t (valD s x) fun d => K d s
      | _, _ => False)
    | .builtin .append => (match c.argTypes.toList, c.args.toList with
      | [t, t'], [x, y] => t = t' ∧ appendP P s k t (valD s x) (valD s y) K
      | _, _ => False)
    | .builtin .max => (match c.args.toList with
      | [x, y] => (match valD s x, valD s y with
        | .i (.lit (.int k a)), .i (.lit (.int _ b)) => K (.i (.lit (.int k (if b > a then b else a)))) s
        | _, _ => False)
      | _ => False)
    | .builtin .min => (match c.args.toList with
      | [x, y] => (match valD s x, valD s y with
        | .i (.lit (.int k a)), .i (.lit (.int _ b)) => K (.i (.lit (.int k (if b < a then b else a)))) s
        | _, _ => False)
      | _ => False)
    | .value f => callP P (valD s f) (c.args.toList.map (valD s)) s K Kp
    | _ => False)
  | _ => False

theorem args_R {M : Mem} {s : St} {w : World} {a : Act} (hr : Rep M s w a) (xs : List Operand) (i : Nat) (d : D) (h : (xs.map (valD s))[i]? = some d) : R M w d ((xs.map a.eval).toArray.getD i undef) := by
  simp only [List.getElem?_map, Option.map_eq_some_iff] at h
  obtain ⟨x, hx, rfl⟩ := h
  rw [toArray_getD _ i (a.eval x) (by simp [hx])]
  exact hr.val x

end Go.Aw
