/-
  Trees as data; what types are.
-/
import Derived.Test.YtebjcocmnigjeaaSyQ
import Derived.Test.YtebjcocmnigjeaaProg
import Derived.KernelRfl
namespace Go.Proofs.Ytebjcocmnigjeaa
open Go.Ev
open Go.Aw (tiOf fieldsOf)
@[simp] theorem ti3 : tiOf Try.prog 3 = some ⟨1, 8, (.int .i64), [(.zn .i64)]⟩ := by kernel_rfl
@[simp] theorem ti4 : tiOf Try.prog 4 = some ⟨1, 1, .bool, [.zb]⟩ := by kernel_rfl
@[simp] theorem ti5 : tiOf Try.prog 5 = some ⟨1, 1, (.int .u8), [(.zn .u8)]⟩ := by kernel_rfl
@[simp] theorem ti6 : tiOf Try.prog 6 = some ⟨1, 1, (.int .u8), [(.zn .u8)]⟩ := by kernel_rfl
@[simp] theorem ti9 : tiOf Try.prog 9 = some ⟨1, 16, .str, [.zs]⟩ := by kernel_rfl
@[simp] theorem ti23 : tiOf Try.prog 23 = some ⟨2, 16, (.st [(0, 3), (1, 3)]), [(.zn .i64), (.zn .i64)]⟩ := by kernel_rfl
@[simp] theorem fo23_0 : fieldsOf Try.prog 23 0 = some ((0, ⟨1, 8, (.int .i64), [(.zn .i64)]⟩)) := by kernel_rfl
@[simp] theorem fo23_1 : fieldsOf Try.prog 23 1 = some ((1, ⟨1, 8, (.int .i64), [(.zn .i64)]⟩)) := by kernel_rfl
@[simp] theorem pl23 : Go.Aw.plOf Try.prog 23 = some ([(0, 1), (1, 1)]) := by kernel_rfl
@[simp] theorem ti24 : tiOf Try.prog 24 = some ⟨1, 24, (.sl 26), [.zl]⟩ := by kernel_rfl
@[simp] theorem ti26 : tiOf Try.prog 26 = some ⟨5, 64, (.st [(0, 3), (1, 23), (3, 9), (4, 24)]), [(.zn .i64), (.zn .i64), (.zn .i64), .zs, .zl]⟩ := by kernel_rfl
@[simp] theorem fo26_0 : fieldsOf Try.prog 26 0 = some ((0, ⟨1, 8, (.int .i64), [(.zn .i64)]⟩)) := by kernel_rfl
@[simp] theorem fo26_1 : fieldsOf Try.prog 26 1 = some ((1, ⟨2, 16, (.st [(0, 3), (1, 3)]), [(.zn .i64), (.zn .i64)]⟩)) := by kernel_rfl
@[simp] theorem fo26_2 : fieldsOf Try.prog 26 2 = some ((3, ⟨1, 16, .str, [.zs]⟩)) := by kernel_rfl
@[simp] theorem fo26_3 : fieldsOf Try.prog 26 3 = some ((4, ⟨1, 24, (.sl 26), [.zl]⟩)) := by kernel_rfl
@[simp] theorem pl26 : Go.Aw.plOf Try.prog 26 = some ([(0, 1), (1, 2), (3, 1), (4, 1)]) := by kernel_rfl
@[simp] theorem ti30 : tiOf Try.prog 30 = some ⟨1, 8, .oth, [.zf]⟩ := by kernel_rfl
@[simp] theorem ti69 : tiOf Try.prog 69 = some ⟨1, 8, .oth, [.zf]⟩ := by kernel_rfl
@[simp] theorem ti75 : tiOf Try.prog 75 = some ⟨1, 8, .oth, [.zf]⟩ := by kernel_rfl

theorem fol : Try.prog.follows .mixedOrders = true := by kernel_rfl

inductive Nd where
  | mk (kind a b : Int) (text : ByteArray) (kids : List Nd)

mutual
def rowN : Nd → List D
  | .mk k a b t l => [.lit (.int .i64 k), .lit (.int .i64 a), .lit (.int .i64 b), .lit (.string t), .sq false 5 (rowsN l)]
def rowsN : List Nd → List (List D)
  | [] => []
  | n :: r => rowN n :: rowsN r
end

mutual
theorem rowN_inj : ∀ (a b : Nd), rowN a = rowN b → a = b
  | .mk k a b t l, .mk k' a' b' t' l', h => by
    simp only [rowN, List.cons.injEq, D.lit.injEq, Value.int.injEq, Value.string.injEq, D.sq.injEq, true_and, and_true] at h
    obtain ⟨rfl, rfl, rfl, rfl, h⟩ := h
    rw [rowsN_inj l l' h]
theorem rowsN_inj : ∀ (a b : List Nd), rowsN a = rowsN b → a = b
  | [], [], _ => rfl
  | [], _ :: _, h => by simp [rowsN] at h
  | _ :: _, [], h => by simp [rowsN] at h
  | x :: r, y :: q, h => by
    simp only [rowsN, List.cons.injEq] at h
    rw [rowN_inj x y h.1, rowsN_inj r q h.2]
end

mutual
theorem rowN_bel : ∀ n : Nd, D.belL 0 (rowN n) = true
  | .mk k a b t l => by simp [rowN, rowsN_bel l]
theorem rowsN_bel : ∀ l : List Nd, D.belLL 0 (rowsN l) = true
  | [] => by simp [rowsN]
  | n :: r => by simp [rowsN, rowN_bel n, rowsN_bel r]
end
attribute [simp] rowN_bel rowsN_bel
@[simp] theorem rowN_belU (n : Nat) (x : Nd) : D.belL n (rowN x) = true := belL_up n _ (rowN_bel x)
@[simp] theorem rowN_ren (f : Nat → Nat) (n : Nd) : D.renL f (rowN n) = rowN n := renL_free f _ (rowN_bel n)
@[simp] theorem rowN_sub (l : Nat) (X : Nat → D) : ∀ n : Nd, D.subL l X (rowN n) = rowN n
  | .mk k a b t l => by simp [rowN]
@[simp] theorem rowN_length : ∀ n : Nd, (rowN n).length = 5
  | .mk k a b t l => by simp [rowN]
@[simp] theorem rowsN_length : ∀ l : List Nd, (rowsN l).length = l.length
  | [] => rfl
  | n :: r => by simp [rowsN, rowsN_length r]
theorem rowsN_get : ∀ (l : List Nd) (i : Nat), (rowsN l)[i]? = (l[i]?).map rowN
  | [], i => by simp [rowsN]
  | n :: r, 0 => by simp [rowsN]
  | n :: r, i + 1 => by simp [rowsN, rowsN_get r i]
theorem rowsN_map : ∀ l : List Nd, rowsN l = l.map rowN
  | [] => rfl
  | n :: r => by simp [rowsN, rowsN_map r]
@[simp] theorem rowsN_getElem (l : List Nd) (i : Nat) (h : i < (rowsN l).length) : (rowsN l)[i] = rowN (l[i]'(by simpa using h)) := by
  have := rowsN_get l i
  rw [List.getElem?_eq_getElem h, List.getElem?_eq_getElem (by simpa using h)] at this
  simpa using this
@[simp] theorem rowN_take (n : Nd) : (rowN n).take 5 = rowN n := List.take_of_length_le (by simp)
theorem rowsN_rows (l : List Nd) : ∀ r ∈ rowsN l, r.length = 5 := by
  intro r hr
  rw [rowsN_map, List.mem_map] at hr
  obtain ⟨n, _, rfl⟩ := hr
  simp
theorem rowsN_append (a b : List Nd) : rowsN (a ++ b) = rowsN a ++ rowsN b := by simp [rowsN_map]

def Nd.kind : Nd → Int | .mk k _ _ _ _ => k
def Nd.from : Nd → Int | .mk _ a _ _ _ => a
def Nd.to : Nd → Int | .mk _ _ b _ _ => b
def Nd.text : Nd → ByteArray | .mk _ _ _ t _ => t
def Nd.kids : Nd → List Nd | .mk _ _ _ _ l => l
@[simp] theorem rowN_0 : ∀ n : Nd, (rowN n)[0]'(by simp) = .lit (.int .i64 n.kind) | .mk k a b t l => rfl
@[simp] theorem rowN_1 : ∀ n : Nd, (rowN n)[1]'(by simp) = .lit (.int .i64 n.from) | .mk k a b t l => rfl
@[simp] theorem rowN_2 : ∀ n : Nd, (rowN n)[2]'(by simp) = .lit (.int .i64 n.to) | .mk k a b t l => rfl
@[simp] theorem rowN_3 : ∀ n : Nd, (rowN n)[3]'(by simp) = .lit (.string n.text) | .mk k a b t l => rfl
@[simp] theorem rowN_4 : ∀ n : Nd, (rowN n)[4]'(by simp) = .sq false 5 (rowsN n.kids) | .mk k a b t l => rfl
@[simp] theorem rowN_12 : ∀ n : Nd, ((rowN n).drop 1).take 2 = [.lit (.int .i64 n.from), .lit (.int .i64 n.to)] | .mk k a b t l => rfl
@[simp] theorem rowN_12' : ∀ n : Nd, (rowN n).extract 1 3 = [.lit (.int .i64 n.from), .lit (.int .i64 n.to)] | .mk k a b t l => rfl

/-! ### Spans turned -/
def chg (sp : Int → Int → Int × Int) : Nat → Nd → Nd
  | 0, .mk k a b t _ => .mk k (sp a b).1 (sp a b).2 t []
  | m + 1, .mk k a b t l => .mk k (sp a b).1 (sp a b).2 t (l.map (chg sp m))

def spMove (by_ : Int) (a b : Int) : Int × Int := (IntKind.i64.wrap (a + by_), IntKind.i64.wrap (b + by_))
def spBare (_ _ : Int) : Int × Int := (0, 0)

def encSp (caps : List D) (p : Int × Int) : List D := .agg [.lit (.int .i64 p.1), .lit (.int .i64 p.2)] :: caps
theorem encSp_inj (caps : List D) (p q : Int × Int) (h : encSp caps p = encSp caps q) : p = q := by
  obtain ⟨a, b⟩ := p
  obtain ⟨c, d⟩ := q
  simp [encSp] at h
  rw [h.1, h.2]

/-- What a function tells of spans. -/
def SpOk (gs : FuncId) (caps : List D) (sp : Int → Int → Int × Int) : Prop :=
  D.belL 0 caps = true ∧ ∀ a b, FnO Try.prog gs (encSp caps (a, b)) (.ret (.agg [.lit (.int .i64 (sp a b).1), .lit (.int .i64 (sp a b).2)]))

set_option maxRecDepth 10000 in
theorem move1_ok (q : Option Nat) (by_ : Int) : SpOk 51 [.ps q [.lit (.int .i64 by_)] 0] (spMove by_) := by
  refine ⟨by simp, fun a b => ?_⟩
  refine fnO_wp (tb0_ok _) fol Try.func51 rfl (by kernel_rfl) (by simp [Try.ntmps51, encSp]) (by kernel_rfl) fun I => ?_
  simp -implicitDefEqProofs [Try.ntmps51, encSp]
  exact .same _ (by simp)

set_option maxRecDepth 10000 in
theorem bare1_ok : SpOk 54 [] spBare := by
  refine ⟨by simp, fun a b => ?_⟩
  refine fnO_wp (tb0_ok _) fol Try.func54 rfl (by kernel_rfl) (by simp [Try.ntmps54, encSp]) (by kernel_rfl) fun I => ?_
  simp -implicitDefEqProofs [Try.ntmps54, encSp]
  exact .same _ (by simp)
end Go.Proofs.Ytebjcocmnigjeaa

/-
  Trees changed: by the program, and by the document.
-/
namespace Go.Proofs.Ytebjcocmnigjeaa
open Go.Ev
open Go.Aw (tiOf fieldsOf)

mutual
def fewN : Nd → Bool
  | .mk _ _ _ t l => decide (t.size ≤ 1000) && (decide (l.length ≤ 1000) && fewL l)
def fewL : List Nd → Bool
  | [] => true
  | n :: r => fewN n && fewL r
end
theorem fewL_get : ∀ (l : List Nd) (i : Nat) (h : i < l.length), fewL l = true → fewN l[i] = true
  | [], i, h, _ => by simp at h
  | n :: r, 0, h, hf => by simp only [fewL, Bool.and_eq_true] at hf; exact hf.1
  | n :: r, i + 1, h, hf => by simp only [fewL, Bool.and_eq_true] at hf; exact fewL_get r i (by simpa using h) hf.2

/-- The cells of some. -/
def flatN (l : List Nd) : List D := (rowsN l).flatten
@[simp] theorem flatN_length (l : List Nd) : (flatN l).length = l.length * 5 := by
  unfold flatN
  rw [flatten_length (sz := 5) _ (rowsN_rows _), rowsN_length]
@[simp] theorem flatN_bel (l : List Nd) : D.belL 0 (flatN l) = true := belL_flatten _ fun r hr => by
  rw [rowsN_map, List.mem_map] at hr
  obtain ⟨n, _, rfl⟩ := hr
  simp
@[simp] theorem flatN_belU (n : Nat) (l : List Nd) : D.belL n (flatN l) = true := belL_up n _ (flatN_bel l)
@[simp] theorem flatN_ren (f : Nat → Nat) (l : List Nd) : D.renL f (flatN l) = flatN l := renL_free f _ (flatN_bel l)
theorem flatN_append (a b : List Nd) : flatN (a ++ b) = flatN a ++ flatN b := by simp [flatN, rowsN_append]
theorem flatN_one (x : Nd) : flatN [x] = rowN x := by simp [flatN, rowsN]
theorem flatN_take (l : List Nd) (i : Nat) (h : i < l.length) : flatN (l.take (i + 1)) = flatN (l.take i) ++ rowN l[i] := by
  rw [List.take_succ_eq_append_getElem h, flatN_append, flatN_one]
theorem flatN_take0 (l : List Nd) (h : 0 < l.length) : flatN (l.take 1) = rowN l[0] := by
  rw [show (1 : Nat) = 0 + 1 from rfl, flatN_take l 0 h]
  simp [flatN, rowsN]

theorem wrap1 : IntKind.i64.wrap 1 = 1 := rfl
attribute [simp] wrap1

/-! ### tree.changed -/
def encC (gs : FuncId) (caps : List D) (m : Nat) (n : Nd) : List D := [.agg (rowN n), .lit (.int .i64 ((m : Int) + 1)), .fn (.func gs) [] caps]
theorem encC_inj (gs : FuncId) (caps : List D) (m : Nat) (a b : Nd) (h : encC gs caps m a = encC gs caps m b) : a = b := by
  simp [encC] at h
  exact rowN_inj _ _ h

noncomputable def spT (gs : FuncId) (caps : List D) (sp : Int → Int → Int × Int) : List D → Option (Prop × D) := ctr (encSp caps) (fun _ => True) (fun p => .agg [.lit (.int .i64 (sp p.1 p.2).1), .lit (.int .i64 (sp p.1 p.2).2)])
theorem spT_eq (gs : FuncId) (caps : List D) (sp : Int → Int → Int × Int) (a b : Int) : spT gs caps sp (.agg [.lit (.int .i64 a), .lit (.int .i64 b)] :: caps) = some (True, .agg [.lit (.int .i64 (sp a b).1), .lit (.int .i64 (sp a b).2)]) :=
  ctr_enc (encSp_inj caps) (a, b)
theorem spT_ok {gs : FuncId} {caps : List D} {sp : Int → Int → Int × Int} (h : SpOk gs caps sp) : ∀ xs p d, spT gs caps sp xs = some (p, d) → p → FnO Try.prog gs xs (.ret d) ∧ D.belL 0 xs = true ∧ D.bel 0 d = true :=
  ctr_ok fun q _ => ⟨h.2 q.1 q.2, by simp [encSp, h.1], by simp⟩

noncomputable def chT (gs : FuncId) (caps : List D) (sp : Int → Int → Int × Int) (m : Nat) : List D → Option (Prop × D) := ctr (encC gs caps m) (fun n => fewN n = true) (fun n => .agg (rowN (chg sp m n)))
theorem chT_eq (gs : FuncId) (caps : List D) (sp : Int → Int → Int × Int) (m : Nat) (n : Nd) : chT gs caps sp m [.agg (rowN n), .lit (.int .i64 ((m : Int) + 1)), .fn (.func gs) [] caps] = some (fewN n = true, .agg (rowN (chg sp m n))) :=
  ctr_enc (encC_inj gs caps m) n

def chF (most : Int) (gs : FuncId) (caps : List D) (k a b : Int) (t : ByteArray) (rows : List (List D)) (outs : List Nd) : Nat → S
  | 0 => S.mk 41 [(1, .lit (.int .i64 most)), (2, .fn (.func gs) [] caps), (6, .pt 0 0), (7, .pt 1 0), (23, .sq false 5 rows), (24, .lit (.int .i64 rows.length)), (25, .lit (.int .i64 0))]
    [(0, .cells 26 none [.lit (.int .i64 0), .lit (.int .i64 0), .lit (.int .i64 0), .lit (.string ⟨#[]⟩), .lit (.slice none 0 0)]), (1, .cells 26 none [.lit (.int .i64 k), .lit (.int .i64 a), .lit (.int .i64 b), .lit (.string t), .lit (.slice none 0 0)])] 2 [] none []
  | i + 1 => S.mk 41 [(1, .lit (.int .i64 most)), (2, .fn (.func gs) [] caps), (6, .pt 0 0), (7, .pt 1 0), (23, .sq false 5 rows), (24, .lit (.int .i64 rows.length)), (25, .lit (.int .i64 (i + 1 : Nat)))]
    [(0, .cells 26 none [.lit (.int .i64 0), .lit (.int .i64 0), .lit (.int .i64 0), .lit (.string ⟨#[]⟩), .lit (.slice none 0 0)]), (1, .cells 26 none [.lit (.int .i64 k), .lit (.int .i64 a), .lit (.int .i64 b), .lit (.string t), .ow 2 (i + 1)]), (2, .cells 26 (some 5) (flatN (outs.take (i + 1))))] 3 [] none []

set_option maxRecDepth 10000 in
theorem changed_ok {gs : FuncId} {caps : List D} {sp : Int → Int → Int × Int} (h : SpOk gs caps sp) (hgs : gs ≠ 50) : ∀ (m : Nat), m ≤ 1000 → ∀ n : Nd, fewN n = true → FnO Try.prog 50 (encC gs caps m n) (.ret (.agg (rowN (chg sp m n)))) := by
  intro m
  induction m with
  | zero =>
    intro _ n hn
    have ht := tbC_ok (P := Try.prog) (spT_ok h) (tb0_ok _)
    refine fnO_wp ht fol Try.func50 rfl (by kernel_rfl) (by simp [Try.ntmps50, encC]) (by kernel_rfl) fun I => ?_
    obtain ⟨k, a, b, t, l⟩ := n
    simp -implicitDefEqProofs [Try.ntmps50, encC, spT_eq, rowN]
    simp only [chg, rowN, rowsN]
    refine seals_agg ?_
    repeat' first | exact .same _ (by simp) | exact .nil _ _ | exact sealsL_nil | refine sealsL_cons ?_ ?_
  | succ m ih =>
    intro hm n hn
    have ht := tbC_ok (P := Try.prog) (spT_ok h) (tbC_ok (g := 50) (f := chT gs caps sp m) (ctr_ok fun n hn => ⟨ih (by omega) n hn, by simp [encC, h.1], by simp⟩) (tb0_ok _))
    refine fnO_wp ht fol Try.func50 rfl (by kernel_rfl) (by simp [Try.ntmps50, encC]) (by kernel_rfl) fun I => ?_
    obtain ⟨k, a, b, t, l⟩ := n
    simp only [fewN, Bool.and_eq_true, decide_eq_true_eq] at hn
    obtain ⟨_, hlen, hfew⟩ := hn
    have e1 : ¬ ((m : Int) + 1 + 1 = 1) := by omega
    simp -implicitDefEqProofs [Try.ntmps50, encC, spT_eq, rowN, e1]
    refine w_loop (fun i : { i : Nat // i ≤ l.length } => chF ((m : Int) + 1 + 1) gs caps k (sp a b).1 (sp a b).2 t (rowsN l) (l.map (chg sp m)) i.1) (fun i => l.length - i.1) ⟨0, Nat.zero_le _⟩ (le_of [1, 2] (by simp [chF, h.1, belL_up, renL_free])) fun ⟨i, hi⟩ => wp_ok ht fol _ _ _ (by kernel_rfl) ?_
    have hw : IntKind.i64.wrap ((m : Int) + 1) = (m : Int) + 1 := wrap64 (by omega) (by omega)
    by_cases hil : i < l.length
    · have hf := fewL_get l i hil hfew
      cases i with
      | zero =>
        simp -implicitDefEqProofs [chF, hil, hw, Ne.symm hgs, chT_eq, hf]
        refine ⟨1, le_of [0, 1, 5] ?_, by omega, by omega⟩
        have := flatN_take0 (l.map (chg sp m)) (by simpa using hil)
        simp [this, h.1, belL_up, renL_free]
      | succ i =>
        have hic : (i : Int) + 1 < (l.length : Int) := by omega
        have hw2 : IntKind.i64.wrap ((i : Int) + 1 + 1) = (i : Int) + 1 + 1 := wrap64 (by omega) (by omega)
        have hmin : min (i + 1) l.length = i + 1 := by omega
        simp -implicitDefEqProofs [chF, hil, hic, hw, hw2, hmin, Ne.symm hgs, chT_eq, hf]
        refine ⟨by omega, ⟨by omega, by omega⟩, i + 1 + 1, le_of [0, 1, 5] ?_, by omega, by omega⟩
        have := flatN_take (l.map (chg sp m)) (i + 1) (by simpa using hil)
        simp [this, h.1, belL_up, renL_free]
    · cases i with
      | zero =>
        have h0 : l.length = 0 := by omega
        simp -implicitDefEqProofs [chF, h0]
        have : l = [] := List.eq_nil_of_length_eq_zero h0
        subst this
        simp only [chg, rowN, rowsN, List.map_nil]
        refine seals_agg ?_
        repeat' first | exact .same _ (by simp) | exact .nil _ _ | exact sealsL_nil | refine sealsL_cons ?_ ?_
      | succ i =>
        have h0 : l.length = i + 1 := by omega
        simp -implicitDefEqProofs [chF, h0]
        simp only [chg, rowN]
        refine seals_agg ?_
        have e2 : (l.map (chg sp m)).take (i + 1) = l.map (chg sp m) := List.take_of_length_le (by simp; omega)
        rw [e2]
        repeat' first | exact .same _ (by simp) | exact sealsL_nil | exact seals_ow (rows := rowsN (l.map (chg sp m))) rfl (by simp [h0]) (rowsN_rows _) (by simp) | refine sealsL_cons ?_ ?_
end Go.Proofs.Ytebjcocmnigjeaa

/-
  Trees changed by the document; moved, bared.
-/
namespace Go.Proofs.Ytebjcocmnigjeaa
open Go.Ev
open Go.Aw (tiOf fieldsOf)

theorem chT_200 (gs : FuncId) (caps : List D) (sp : Int → Int → Int × Int) (n : Nd) : chT gs caps sp 199 [.agg (rowN n), .lit (.int .i64 200), .fn (.func gs) [] caps] = some (fewN n = true, .agg (rowN (chg sp 199 n))) := chT_eq gs caps sp 199 n

set_option maxRecDepth 10000 in
theorem move_ok (n : Nd) (hn : fewN n = true) (by_ : Int) : FnO Try.prog 12 [.agg (rowN n), .lit (.int .i64 by_)] (.ret (.agg (rowN (chg (spMove by_) 199 n)))) := by
  refine fnO_of Try.func12 rfl (by kernel_rfl) (by simp [Try.ntmps12]) fun I => ?_
  refine w_seq (wp_ok (tb0_ok _) fol _ _ _ (by kernel_rfl) ?_)
  simp -implicitDefEqProofs [Try.ntmps12]
  refine w_frz 3 1 rfl rfl fun b => ?_
  have hs := move1_ok (some b) by_
  have ht := tbC_ok (P := Try.prog) (g := 50) (f := chT 51 [.ps (some b) [.lit (.int .i64 by_)] 0] (spMove by_) 199) (ctr_ok fun n hn => ⟨changed_ok hs (by decide) 199 (by omega) n hn, by simp [encC], by simp⟩) (tb0_ok _)
  refine wp_ok ht fol _ _ _ (by kernel_rfl) ?_
  simp -implicitDefEqProofs [chT_200, hn]
  exact .same _ (by simp)

set_option maxRecDepth 10000 in
theorem bare_ok (n : Nd) (hn : fewN n = true) : FnO Try.prog 15 [.agg (rowN n)] (.ret (.agg (rowN (chg spBare 199 n)))) := by
  have ht := tbC_ok (P := Try.prog) (g := 50) (f := chT 54 [] spBare 199) (ctr_ok fun n hn => ⟨changed_ok bare1_ok (by decide) 199 (by omega) n hn, by simp [encC], by simp⟩) (tb0_ok _)
  refine fnO_wp ht fol Try.func15 rfl (by kernel_rfl) (by simp [Try.ntmps15]) (by kernel_rfl) fun I => ?_
  simp -implicitDefEqProofs [Try.ntmps15, chT_200, hn]
  exact .same _ (by simp)

/-! ### The document's change -/
def spOf (bare : Bool) (by_ : Int) : Int → Int → Int × Int := if bare then spBare else spMove by_

def encG (by_ : Int) (bare : Bool) (m : Nat) (n : Nd) : List D := [.agg (rowN n), .lit (.int .i64 by_), .lit (.bool bare), .lit (.int .i64 ((m : Int) + 1))]
theorem encG_inj (by_ : Int) (bare : Bool) (m : Nat) (a b : Nd) (h : encG by_ bare m a = encG by_ bare m b) : a = b := by
  simp [encG] at h
  exact rowN_inj _ _ h
noncomputable def cgT (by_ : Int) (bare : Bool) (m : Nat) : List D → Option (Prop × D) := ctr (encG by_ bare m) (fun n => fewN n = true) (fun n => .agg (rowN (chg (spOf bare by_) m n)))
theorem cgT_eq (by_ : Int) (bare : Bool) (m : Nat) (n : Nd) : cgT by_ bare m [.agg (rowN n), .lit (.int .i64 by_), .lit (.bool bare), .lit (.int .i64 ((m : Int) + 1))] = some (fewN n = true, .agg (rowN (chg (spOf bare by_) m n))) :=
  ctr_enc (encG_inj by_ bare m) n
theorem cgT_200 (by_ : Int) (bare : Bool) (n : Nd) : cgT by_ bare 199 [.agg (rowN n), .lit (.int .i64 by_), .lit (.bool bare), .lit (.int .i64 200)] = some (fewN n = true, .agg (rowN (chg (spOf bare by_) 199 n))) := cgT_eq by_ bare 199 n

def cgF (n : Nd) (by_ : Int) (bare : Bool) (most : Int) (out : List D) (outs : List Nd) : Nat → S
  | 0 => S.mk 57 [(1, .lit (.int .i64 by_)), (2, .lit (.bool bare)), (3, .lit (.int .i64 most)), (4, .pt 0 0), (8, .pt 1 0), (9, .pt 2 0), (10, .lit (.int .i64 0))]
    [(0, .cells 26 none (rowN n)), (1, .cells 26 none [.lit (.int .i64 0), .lit (.int .i64 0), .lit (.int .i64 0), .lit (.string ⟨#[]⟩), .lit (.slice none 0 0)]), (2, .cells 26 none (out ++ [.lit (.slice none 0 0)]))] 3 [] none []
  | i + 1 => S.mk 57 [(1, .lit (.int .i64 by_)), (2, .lit (.bool bare)), (3, .lit (.int .i64 most)), (4, .pt 0 0), (8, .pt 1 0), (9, .pt 2 0), (10, .lit (.int .i64 (i + 1 : Nat)))]
    [(0, .cells 26 none (rowN n)), (1, .cells 26 none [.lit (.int .i64 0), .lit (.int .i64 0), .lit (.int .i64 0), .lit (.string ⟨#[]⟩), .lit (.slice none 0 0)]), (2, .cells 26 none (out ++ [.ow 3 (i + 1)])), (3, .cells 26 (some 5) (flatN (outs.take (i + 1))))] 4 [] none []

set_option maxHeartbeats 1000000 in
set_option maxRecDepth 10000 in
theorem change_ok (by_ : Int) (bare : Bool) : ∀ (m : Nat), m ≤ 1000 → ∀ n : Nd, fewN n = true → FnO Try.prog 53 (encG by_ bare m n) (.ret (.agg (rowN (chg (spOf bare by_) m n)))) := by
  intro m
  induction m with
  | zero =>
    intro _ n hn
    have ht := tb0_ok Try.prog
    cases bare
    · refine fnO_wp ht fol Try.func53 rfl (by kernel_rfl) (by simp [Try.ntmps53, encG]) (by kernel_rfl) fun I => ?_
      obtain ⟨k, a, b, t, l⟩ := n
      simp -implicitDefEqProofs [Try.ntmps53, encG, rowN]
      refine w_loop (fun _ : Unit => cgF (.mk k a b t l) by_ false 1 [.lit (.int .i64 k), .lit (.int .i64 (spMove by_ a b).1), .lit (.int .i64 (spMove by_ a b).2), .lit (.string t)] [] 0) (fun _ => 0) () (le_of [0, 1, 2] (by simp [cgF, rowN, spMove])) fun _ => wp_ok ht fol _ _ _ (by kernel_rfl) ?_
      simp -implicitDefEqProofs [cgF, rowN]
      simp only [chg, rowN, rowsN, spOf]
      refine seals_agg ?_
      repeat' first | exact .same _ (by simp) | exact .nil _ _ | exact sealsL_nil | refine sealsL_cons ?_ ?_
    · refine fnO_wp ht fol Try.func53 rfl (by kernel_rfl) (by simp [Try.ntmps53, encG]) (by kernel_rfl) fun I => ?_
      obtain ⟨k, a, b, t, l⟩ := n
      simp -implicitDefEqProofs [Try.ntmps53, encG, rowN]
      refine w_loop (fun _ : Unit => cgF (.mk k a b t l) by_ true 1 [.lit (.int .i64 k), .lit (.int .i64 0), .lit (.int .i64 0), .lit (.string t)] [] 0) (fun _ => 0) () (le_of [0, 1, 2] (by simp [cgF, rowN, spMove])) fun _ => wp_ok ht fol _ _ _ (by kernel_rfl) ?_
      simp -implicitDefEqProofs [cgF, rowN]
      simp only [chg, rowN, rowsN, spOf]
      refine seals_agg ?_
      repeat' first | exact .same _ (by simp) | exact .nil _ _ | exact sealsL_nil | refine sealsL_cons ?_ ?_
  | succ m ih =>
    intro hm n hn
    have ht := (tbC_ok (P := Try.prog) (g := 53) (f := cgT by_ bare m) (ctr_ok fun n hn => ⟨ih (by omega) n hn, by simp [encG], by simp⟩) (tb0_ok _))
    obtain ⟨k, a, b, t, l⟩ := n
    simp only [fewN, Bool.and_eq_true, decide_eq_true_eq] at hn
    obtain ⟨_, hlen, hfew⟩ := hn
    have hw : IntKind.i64.wrap ((m : Int) + 1) = (m : Int) + 1 := wrap64 (by omega) (by omega)
    have e1 : (1 : Int) < (m : Int) + 1 + 1 := by omega
    cases bare
    · refine fnO_wp ht fol Try.func53 rfl (by kernel_rfl) (by simp [Try.ntmps53, encG]) (by kernel_rfl) fun I => ?_
      simp -implicitDefEqProofs [Try.ntmps53, encG, rowN]
      generalize hsp : spOf false by_ = sp at *
      refine w_loop (fun i : { i : Nat // i ≤ l.length } => cgF (.mk k a b t l) by_ false ((m : Int) + 1 + 1) [.lit (.int .i64 k), .lit (.int .i64 (sp a b).1), .lit (.int .i64 (sp a b).2), .lit (.string t)] (l.map (chg sp m)) i.1) (fun i => l.length - i.1) ⟨0, Nat.zero_le _⟩ (le_of [0, 1, 2] (by simp [cgF, rowN, ← hsp, spOf, spMove, spBare])) fun ⟨i, hi⟩ => wp_ok ht fol _ _ _ (by kernel_rfl) ?_
      by_cases hil : i < l.length
      · have hf := fewL_get l i hil hfew
        cases i with
        | zero =>
          simp -implicitDefEqProofs [cgF, rowN, hil, hw, e1, cgT_eq, hf]
          rw [hsp]
          refine ⟨1, le_of [0, 1, 2, 5] ?_, by omega, by omega⟩
          have := flatN_take0 (l.map (chg sp m)) (by simpa using hil)
          simp [this, rowN]
        | succ i =>
          have hic : (i : Int) + 1 < (l.length : Int) := by omega
          have hw2 : IntKind.i64.wrap ((i : Int) + 1 + 1) = (i : Int) + 1 + 1 := wrap64 (by omega) (by omega)
          have hmin : min (i + 1) l.length = i + 1 := by omega
          simp -implicitDefEqProofs [cgF, rowN, hil, hic, hw, hw2, e1, hmin, cgT_eq, hf]
          rw [hsp]
          refine ⟨by omega, ⟨by omega, by omega⟩, i + 1 + 1, le_of [0, 1, 2, 5] ?_, by omega, by omega⟩
          have := flatN_take (l.map (chg sp m)) (i + 1) (by simpa using hil)
          simp [this, rowN]
      · cases i with
        | zero =>
          have h0 : l.length = 0 := by omega
          simp -implicitDefEqProofs [cgF, rowN, h0]
          have : l = [] := List.eq_nil_of_length_eq_zero h0
          subst this
          simp only [chg, rowN, rowsN, List.map_nil]
          refine seals_agg ?_
          repeat' first | exact .same _ (by simp) | exact .nil _ _ | exact sealsL_nil | refine sealsL_cons ?_ ?_
        | succ i =>
          have h0 : l.length = i + 1 := by omega
          simp -implicitDefEqProofs [cgF, rowN, h0]
          simp only [chg, rowN]
          refine seals_agg ?_
          have e2 : (l.map (chg sp m)).take (i + 1) = l.map (chg sp m) := List.take_of_length_le (by simp; omega)
          rw [e2]
          repeat' first | exact .same _ (by simp) | exact sealsL_nil | exact seals_ow (rows := rowsN (l.map (chg sp m))) rfl (by simp [h0]) (rowsN_rows _) (by simp) | refine sealsL_cons ?_ ?_
    · refine fnO_wp ht fol Try.func53 rfl (by kernel_rfl) (by simp [Try.ntmps53, encG]) (by kernel_rfl) fun I => ?_
      simp -implicitDefEqProofs [Try.ntmps53, encG, rowN]
      generalize hsp : spOf true by_ = sp at *
      refine w_loop (fun i : { i : Nat // i ≤ l.length } => cgF (.mk k a b t l) by_ true ((m : Int) + 1 + 1) [.lit (.int .i64 k), .lit (.int .i64 (sp a b).1), .lit (.int .i64 (sp a b).2), .lit (.string t)] (l.map (chg sp m)) i.1) (fun i => l.length - i.1) ⟨0, Nat.zero_le _⟩ (le_of [0, 1, 2] (by simp [cgF, rowN, ← hsp, spOf, spMove, spBare])) fun ⟨i, hi⟩ => wp_ok ht fol _ _ _ (by kernel_rfl) ?_
      by_cases hil : i < l.length
      · have hf := fewL_get l i hil hfew
        cases i with
        | zero =>
          simp -implicitDefEqProofs [cgF, rowN, hil, hw, e1, cgT_eq, hf]
          rw [hsp]
          refine ⟨1, le_of [0, 1, 2, 5] ?_, by omega, by omega⟩
          have := flatN_take0 (l.map (chg sp m)) (by simpa using hil)
          simp [this, rowN]
        | succ i =>
          have hic : (i : Int) + 1 < (l.length : Int) := by omega
          have hw2 : IntKind.i64.wrap ((i : Int) + 1 + 1) = (i : Int) + 1 + 1 := wrap64 (by omega) (by omega)
          have hmin : min (i + 1) l.length = i + 1 := by omega
          simp -implicitDefEqProofs [cgF, rowN, hil, hic, hw, hw2, e1, hmin, cgT_eq, hf]
          rw [hsp]
          refine ⟨by omega, ⟨by omega, by omega⟩, i + 1 + 1, le_of [0, 1, 2, 5] ?_, by omega, by omega⟩
          have := flatN_take (l.map (chg sp m)) (i + 1) (by simpa using hil)
          simp [this, rowN]
      · cases i with
        | zero =>
          have h0 : l.length = 0 := by omega
          simp -implicitDefEqProofs [cgF, rowN, h0]
          have : l = [] := List.eq_nil_of_length_eq_zero h0
          subst this
          simp only [chg, rowN, rowsN, List.map_nil]
          refine seals_agg ?_
          repeat' first | exact .same _ (by simp) | exact .nil _ _ | exact sealsL_nil | refine sealsL_cons ?_ ?_
        | succ i =>
          have h0 : l.length = i + 1 := by omega
          simp -implicitDefEqProofs [cgF, rowN, h0]
          simp only [chg, rowN]
          refine seals_agg ?_
          have e2 : (l.map (chg sp m)).take (i + 1) = l.map (chg sp m) := List.take_of_length_le (by simp; omega)
          rw [e2]
          repeat' first | exact .same _ (by simp) | exact sealsL_nil | exact seals_ow (rows := rowsN (l.map (chg sp m))) rfl (by simp [h0]) (rowsN_rows _) (by simp) | refine sealsL_cons ?_ ?_
end Go.Proofs.Ytebjcocmnigjeaa
