/-
  An evaluator of Go's code over memory of its own: what it works on, and how that lies in a machine's world.
-/
import Derived.Test.YtgpmcnakeeahbabGreatAwB
namespace Go.Ev
open Go.Aw (litOk Z TK TI kOf isAggV tiOf TIs tiOf_spec WF)

/-! ### Maps from numbers -/
inductive T (α : Type) where
  | e
  | n (l : T α) (x : Option α) (r : T α)

namespace T
variable {α β : Type}
def get : T α → Nat → Option α
  | .e, _ => none
  | .n l x r, i => bif Nat.beq i 0 then x else bif Nat.beq (i % 2) 1 then l.get (i / 2) else r.get (i / 2 - 1)

def mk (x : α) : Nat → Nat → T α
  | 0, _ => .e
  | f + 1, i => bif Nat.beq i 0 then .n .e (some x) .e else bif Nat.beq (i % 2) 1 then .n (mk x f (i / 2)) none .e else .n .e none (mk x f (i / 2 - 1))

def set : T α → Nat → α → T α
  | .e, i, x => mk x (i + 1) i
  | .n l o r, i, x => bif Nat.beq i 0 then .n l (some x) r else bif Nat.beq (i % 2) 1 then .n (l.set (i / 2) x) o r else .n l o (r.set (i / 2 - 1) x)

def del : T α → Nat → T α
  | .e, _ => .e
  | .n l o r, i => bif Nat.beq i 0 then .n l none r else bif Nat.beq (i % 2) 1 then .n (l.del (i / 2)) o r else .n l o (r.del (i / 2 - 1))

theorem beq0 (i : Nat) : Nat.beq i 0 = decide (i = 0) := by
  cases i <;> rfl
theorem beq1 (i : Nat) : Nat.beq i 1 = decide (i = 1) := by
  by_cases h : i = 1
  · subst h; rfl
  · cases hb : Nat.beq i 1 with
    | true => exact absurd (Nat.eq_of_beq_eq_true hb) h
    | false => simp [h]

theorem get_n (l r : T α) (x : Option α) (i : Nat) : (T.n l x r).get i = if i = 0 then x else if i % 2 = 1 then l.get (i / 2) else r.get (i / 2 - 1) := by
  simp only [get, beq0, beq1, cond_eq_ite, decide_eq_true_eq]

theorem get_mk (x : α) : ∀ (f i : Nat), i < f → ∀ j, (mk x f i).get j = if i = j then some x else none := by
  intro f
  induction f with
  | zero => intro i h; omega
  | succ f ih =>
    intro i hi j
    simp only [mk, beq0, beq1, cond_eq_ite, decide_eq_true_eq]
    by_cases h0 : i = 0
    · subst h0
      rw [if_pos rfl, get_n]
      by_cases hj : j = 0
      · subst hj; simp
      · have hj' : ¬ 0 = j := fun e => hj e.symm
        simp [hj, hj', get]
    · rw [if_neg h0]
      by_cases h1 : i % 2 = 1
      · rw [if_pos h1, get_n, ih (i / 2) (by omega)]
        by_cases hj : j = 0
        · subst hj; rw [if_pos rfl, if_neg h0]
        · rw [if_neg hj]
          by_cases h2 : j % 2 = 1
          · rw [if_pos h2]
            by_cases h3 : i = j
            · subst h3; simp
            · rw [if_neg h3, if_neg (by omega)]
          · rw [if_neg h2, if_neg (by intro e; subst e; exact h2 h1)]; rfl
      · rw [if_neg h1, get_n, ih (i / 2 - 1) (by omega)]
        by_cases hj : j = 0
        · subst hj; rw [if_pos rfl, if_neg h0]
        · rw [if_neg hj]
          by_cases h2 : j % 2 = 1
          · rw [if_pos h2, if_neg (by intro e; subst e; exact h1 h2)]; rfl
          · rw [if_neg h2]
            by_cases h3 : i = j
            · subst h3; simp
            · rw [if_neg h3, if_neg (by omega)]

theorem get_set : ∀ (t : T α) (i : Nat) (x : α) (j : Nat), (t.set i x).get j = if i = j then some x else t.get j
  | .e, i, x, j => by simp only [set, get_mk x (i + 1) i (by omega) j, get]
  | .n l o r, i, x, j => by
    have ihl := get_set l (i / 2) x
    have ihr := get_set r (i / 2 - 1) x
    simp only [set, beq0, beq1, cond_eq_ite, decide_eq_true_eq]
    by_cases h0 : i = 0
    · subst h0
      rw [if_pos rfl, get_n, get_n]
      by_cases hj : j = 0
      · subst hj; simp
      · have hj' : ¬ 0 = j := fun e => hj e.symm
        simp [hj, hj']
    · rw [if_neg h0]
      by_cases h1 : i % 2 = 1
      · rw [if_pos h1, get_n, get_n, ihl]
        by_cases hj : j = 0
        · subst hj; rw [if_pos rfl, if_pos rfl, if_neg h0]
        · rw [if_neg hj, if_neg hj]
          by_cases h2 : j % 2 = 1
          · rw [if_pos h2, if_pos h2]
            by_cases h3 : i = j
            · subst h3; simp
            · rw [if_neg h3, if_neg (by omega)]
          · rw [if_neg h2, if_neg h2, if_neg (by intro e; subst e; exact h2 h1)]
      · rw [if_neg h1, get_n, get_n, ihr]
        by_cases hj : j = 0
        · subst hj; rw [if_pos rfl, if_pos rfl, if_neg h0]
        · rw [if_neg hj, if_neg hj]
          by_cases h2 : j % 2 = 1
          · rw [if_pos h2, if_pos h2, if_neg (by intro e; subst e; exact h1 h2)]
          · rw [if_neg h2, if_neg h2]
            by_cases h3 : i = j
            · subst h3; simp
            · rw [if_neg h3, if_neg (by omega)]

theorem get_del : ∀ (t : T α) (i j : Nat), (t.del i).get j = if i = j then none else t.get j
  | .e, i, j => by simp [del, get]
  | .n l o r, i, j => by
    have ihl := get_del l (i / 2)
    have ihr := get_del r (i / 2 - 1)
    simp only [del, beq0, beq1, cond_eq_ite, decide_eq_true_eq]
    by_cases h0 : i = 0
    · subst h0
      rw [if_pos rfl, get_n, get_n]
      by_cases hj : j = 0
      · subst hj; simp
      · have hj' : ¬ 0 = j := fun e => hj e.symm
        simp [hj, hj']
    · rw [if_neg h0]
      by_cases h1 : i % 2 = 1
      · rw [if_pos h1, get_n, get_n, ihl]
        by_cases hj : j = 0
        · subst hj; rw [if_pos rfl, if_pos rfl, if_neg h0]
        · rw [if_neg hj, if_neg hj]
          by_cases h2 : j % 2 = 1
          · rw [if_pos h2, if_pos h2]
            by_cases h3 : i = j
            · subst h3; simp
            · rw [if_neg h3, if_neg (by omega)]
          · rw [if_neg h2, if_neg h2, if_neg (by intro e; subst e; exact h2 h1)]
      · rw [if_neg h1, get_n, get_n, ihr]
        by_cases hj : j = 0
        · subst hj; rw [if_pos rfl, if_pos rfl, if_neg h0]
        · rw [if_neg hj, if_neg hj]
          by_cases h2 : j % 2 = 1
          · rw [if_pos h2, if_pos h2, if_neg (by intro e; subst e; exact h1 h2)]
          · rw [if_neg h2, if_neg h2]
            by_cases h3 : i = j
            · subst h3; simp
            · rw [if_neg h3, if_neg (by omega)]
end T

/-! ### Data, parts of memory -/
inductive D where
  | lit (v : Value)
  | agg (l : List D)
  | pt (l o : Nat)
  | sl (l off len : Nat) (cap : Option Nat)
  | fn (f : Fn) (first caps : List D)
  | yl (l : Nat)
  | ifc (t : TypeId) (d : D)
  | tup (l : List D)
  | em
  | un
  | one
  | any
  | sq (full : Bool) (sz : Nat) (rows : List (List D))
  | ps (q : Option Nat) (row : List D) (o : Nat)
  | con (v : Value)
  | gd (c : Bool) (d : D)
  | ow (l n : Nat)
  | mp (l : Nat)

structure Lp where
  n : Nat
  tm : T D
  ps : Array Tmp
  assign : Code
  body : Code
  st : LoopState
  pend : Option Code
  df : Nat

inductive Blk where
  | cells (ty : TypeId) (op : Option Nat) (ds : List D)
  | dfr
  | loop (l : Lp)
  | map (es : List (Value × D))
  | mit (ol : Option Nat) (since : Nat) (seen : List Nat) (last : Nat)

/-- A deferred call: what a range over a function collects, or a call of a function. -/
inductive DF where
  | mark (l : Nat)
  | fn (g : FuncId) (caps args : List D)

inductive Place where
  | dead
  | blk (b c : Nat)
  | nil
  | res

/-- Where the parts of memory lie; the first name that is free; the blocks that do not change any more. -/
structure Mem where
  μ : Nat → Place
  nx : Nat
  fz : Nat → Option (Array Value)

/-- A name that is dead tells nothing. -/
def Mem.at (M : Mem) (l b : Nat) : Prop := l < M.nx ∧ (∀ b' c', M.μ l = .blk b' c' → b' = b) ∧ M.μ l ≠ .nil ∧ M.μ l ≠ .res

/-- An own slice, or one that holds nothing. -/
structure Mem.own (M : Mem) (l n : Nat) (v : Value) : Prop where
  lt : l < M.nx
  val : ∃ (a : Option Addr) (k : Nat), v = .slice a n k ∧ n ≤ k ∧ k ≤ maxLen ∧ (0 < n → ∃ b, a = some ⟨b, 0, none⟩) ∧ (∀ b c, M.μ l = .blk b c → a = some ⟨b, 0, none⟩ ∧ k = c) ∧ (M.μ l = .nil → n = 0 ∧ k = 0)
  nres : M.μ l ≠ .res

theorem Mem.own.one {M : Mem} {l n : Nat} {v : Value} (h : M.own l n v) : v.oneCell' = true := by
  obtain ⟨a, k, rfl, _⟩ := h.val
  rfl

/-- A key: a letter, or a struct of letters. -/
def keyOk : Value → Prop
  | .agg cs => ∀ c ∈ cs.toList, litOk c
  | v => litOk v

inductive R (M : Mem) : D → Value → Prop
  | lit (v : Value) (h : litOk v) : R M (.lit v) v
  | agg (l : List D) (cs : Array Value) (hs : cs.size = l.length) (h1 : ∀ (i : Nat) d, l[i]? = some d → (cs.getD i undef).oneCell' = true)
      (h : ∀ (i : Nat) d, l[i]? = some d → R M d (cs.getD i undef)) : R M (.agg l) (.agg cs)
  | pt (l o b : Nat) (h : M.at l b) : R M (.pt l o) (.pointer (some ⟨b, o, none⟩))
  | sl (l off len : Nat) (cap : Option Nat) (b k : Nat) (h : M.at l b) (hk : ∀ q, cap = some q → k = q) (h0 : cap = none → off = 0 → ∀ b' c', M.μ l = .blk b' c' → k = c')
      (hn : len ≤ k) (hm : k ≤ maxLen) : R M (.sl l off len cap) (.slice (some ⟨b, off, none⟩) len k)
  | fn (f : Fn) (first caps : List D) (v1 v2 : Array Value) (h1 : v1.size = first.length) (h2 : v2.size = caps.length)
      (r1 : ∀ (i : Nat) d, first[i]? = some d → R M d (v1.getD i undef)) (r2 : ∀ (i : Nat) d, caps[i]? = some d → R M d (v2.getD i undef)) : R M (.fn f first caps) (.func f v1 v2)
  | yl (l b : Nat) (h : M.at l b) : R M (.yl l) (.func (.yield b) #[] #[])
  | ifc (t : TypeId) (d : D) (v : Value) (h : R M d v) : R M (.ifc t d) (.iface t v)
  | tup (l : List D) (vs : Array Value) (hs : vs.size = l.length) (h : ∀ (i : Nat) d, l[i]? = some d → R M d (vs.getD i undef)) : R M (.tup l) (.tuple vs)
  | em (a : Option Addr) (k : Nat) (h : k ≤ maxLen) : R M .em (.slice a 0 k)
  | un : R M .un undef
  | one (v : Value) (h : v.oneCell' = true) : R M .one v
  | any (v : Value) : R M .any v
  | ow (l n : Nat) (v : Value) (h : M.own l n v) : R M (.ow l n) v
  | sqn (f : Bool) (sz : Nat) (a : Option Addr) : R M (.sq f sz []) (.slice a 0 0)
  | sq (f : Bool) (sz : Nat) (rows : List (List D)) (b off k : Nat) (c : Array Value) (V : Nat → Nat → Value) (hb : M.fz b = some c) (hn : rows.length ≤ k) (hm : k ≤ maxLen)
      (hf : f = true → k = rows.length) (hz : ∀ r, r ∈ rows → r.length = sz)
      (h1 : ∀ (i : Nat) r (j : Nat) x, rows[i]? = some r → r[j]? = some x → c[off + i * sz + j]? = some (V i j) ∧ (V i j).oneCell' = true)
      (h2 : ∀ (i : Nat) r (j : Nat) x, rows[i]? = some r → r[j]? = some x → R M x (V i j)) : R M (.sq f sz rows) (.slice (some ⟨b, off, none⟩) rows.length k)
  | ps (q : Option Nat) (row : List D) (o b off : Nat) (c : Array Value) (V : Nat → Value) (hb : M.fz b = some c) (hq : ∀ b', q = some b' → b = b' ∧ off = 0)
      (h1 : ∀ (j : Nat) x, row[j]? = some x → c[off + j]? = some (V j) ∧ (V j).oneCell' = true) (h2 : ∀ (j : Nat) x, row[j]? = some x → R M x (V j)) : R M (.ps q row o) (.pointer (some ⟨b, off + o, none⟩))
  | con (v : Value) (h : v.oneCell' = true) : R M (.con v) v
  | gd (c : Bool) (d : D) (v : Value) (h1 : c = true → R M d v) (h2 : c = false → v = undef) : R M (.gd c d) v
  | mp (l b : Nat) (h : M.at l b) : R M (.mp l) (.map (some b))

def RT (M : Mem) (n : Nat) (tm : T D) (ts : Array Value) : Prop := ts.size = n ∧ ∀ t d, tm.get t = some d → R M d (ts.getD t undef)

def RB (M : Mem) (w : World) : Blk → Nat → Nat → Prop
  | .cells ty op ds, b, c => ∃ cur : Array Value, w.heap[b]? = some (.cells cur ty (0, 0)) ∧ (match op with | none => cur.size = ds.length | some sz => ds.length ≤ cur.size ∧ cur.size = c * sz ∧ c ≤ maxLen) ∧
      ∀ (i : Nat) d, ds[i]? = some d → (cur.getD i undef).oneCell' = true ∧ R M d (cur.getD i undef)
  | .dfr, b, _ => w.heap[b]? = some (.deferred (some []))
  | .loop l, b, _ => ∃ fn ts dv, w.heap[b]? = some (.loop { state := l.st, pending := l.pend, fn := fn, tmps := ts, params := l.ps, assign := l.assign, body := l.body, defers := dv }) ∧ RT M l.n l.tm ts ∧ M.at l.df dv
  | .map es, b, _ => ∃ arr : Array MapEntry, w.heap[b]? = some (.map arr es.length) ∧ arr.size = es.length ∧ ∀ (i : Nat) p, es[i]? = some p → ∃ e, arr[i]? = some e ∧ e.key = p.1 ∧ R M p.2 e.val ∧ e.born = i ∧ keyOk p.1
  | .mit ol since seen last, b, _ => ∃ ob : Option Nat, w.heap[b]? = some (.mapIter ob since seen.toArray last) ∧ (match ol, ob with
    | none, none => True
    | some l, some bm => M.at l bm
    | _, _ => False)

structure Inv (M : Mem) (w : World) : Prop where
  inj : ∀ l l' b c c', M.μ l = .blk b c → M.μ l' = .blk b c' → l = l'
  lt : ∀ l b c, M.μ l = .blk b c → b < w.heap.size
  nx : ∀ l b c, M.μ l = .blk b c → l < M.nx
  fz : ∀ b c, M.fz b = some c → ∃ ty fr, w.heap[b]? = some (.cells c ty fr)
  sep : ∀ b c, M.fz b = some c → ∀ l k, M.μ l ≠ .blk b k

/-- What a step may have changed. -/
structure Ext (M : Mem) (w : World) (M' : Mem) (w' : World) : Prop where
  os : w'.os = w.os
  tape : w'.tape = w.tape
  output : w'.output = w.output
  size : w.heap.size ≤ w'.heap.size
  keep : ∀ b, b < w.heap.size → (∀ l c, M.μ l ≠ .blk b c) → w'.heap[b]? = w.heap[b]?
  new : ∀ l b c, M'.μ l = .blk b c → (∃ l' c', M.μ l' = .blk b c') ∨ w.heap.size ≤ b
  nx : M.nx ≤ M'.nx
  mono : ∀ l, l < M.nx → M'.μ l = M.μ l ∨ M'.μ l = .dead
  fz : ∀ b c, M.fz b = some c → M'.fz b = some c
  fznew : ∀ b c, M'.fz b = some c → M.fz b = some c ∨ (∃ l' c', M.μ l' = .blk b c') ∨ w.heap.size ≤ b
  res : ∀ l, l < M.nx → M.μ l = .res → M'.μ l = .res

theorem Ext.refl (M : Mem) (w : World) : Ext M w M w :=
  ⟨rfl, rfl, rfl, Nat.le_refl _, fun _ _ _ => rfl, fun l _ c h => .inl ⟨l, c, h⟩, Nat.le_refl _, fun _ _ => .inl rfl, fun _ _ h => h, fun _ _ h => .inl h, fun _ _ h => h⟩

theorem Ext.trans {M M1 M2 : Mem} {w w1 w2 : World} (h : Ext M w M1 w1) (k : Ext M1 w1 M2 w2) : Ext M w M2 w2 where
  os := k.os.trans h.os
  tape := k.tape.trans h.tape
  output := k.output.trans h.output
  size := Nat.le_trans h.size k.size
  keep b hb hn := (k.keep b (Nat.lt_of_lt_of_le hb h.size) (fun l c hl => by
    rcases h.new l b c hl with ⟨l', c', h'⟩ | h'
    · exact hn l' c' h'
    · omega)).trans (h.keep b hb hn)
  new l b c hl := by
    rcases k.new l b c hl with ⟨l', c', h'⟩ | h'
    · exact h.new l' b c' h'
    · exact .inr (Nat.le_trans h.size h')
  nx := Nat.le_trans h.nx k.nx
  mono l hl := by
    rcases h.mono l hl with e | e
    · rcases k.mono l (Nat.lt_of_lt_of_le hl h.nx) with e2 | e2
      · exact .inl (e2.trans e)
      · exact .inr e2
    · rcases k.mono l (Nat.lt_of_lt_of_le hl h.nx) with e2 | e2
      · exact .inr (e2.trans e)
      · exact .inr e2
  fz b c hb := k.fz b c (h.fz b c hb)
  fznew b c hb := by
    rcases k.fznew b c hb with e | ⟨l', c', e⟩ | e
    · exact h.fznew b c e
    · rcases h.new l' b c' e with e2 | e2
      · exact .inr (.inl e2)
      · exact .inr (.inr e2)
    · exact .inr (.inr (Nat.le_trans h.size e))
  res l hl e := k.res l (Nat.lt_of_lt_of_le hl h.nx) (h.res l hl e)

/-- Later memory. -/
structure Mem.le (M M' : Mem) : Prop where
  nx : M.nx ≤ M'.nx
  mono : ∀ l, l < M.nx → M'.μ l = M.μ l ∨ M'.μ l = .dead ∨ M.μ l = .res
  fz : ∀ b c, M.fz b = some c → M'.fz b = some c

theorem Mem.le.refl (M : Mem) : M.le M := ⟨Nat.le_refl _, fun _ _ => .inl rfl, fun _ _ h => h⟩
theorem Ext.le {M M' : Mem} {w w' : World} (h : Ext M w M' w') : M.le M' := ⟨h.nx, fun l hl => (h.mono l hl).imp id .inl, h.fz⟩

theorem Mem.at.mono {M M' : Mem} (h : M.le M') {l b : Nat} (ha : M.at l b) : M'.at l b :=
  ⟨Nat.lt_of_lt_of_le ha.1 h.nx, fun b' c' e => (by
    rcases h.mono l ha.1 with q | q | q
    · exact ha.2.1 b' c' (q ▸ e)
    · rw [q] at e; cases e
    · exact absurd q ha.2.2.2), fun e => (by
    rcases h.mono l ha.1 with q | q | q
    · exact ha.2.2.1 (q ▸ e)
    · rw [q] at e; cases e
    · exact absurd q ha.2.2.2), fun e => by
    rcases h.mono l ha.1 with q | q | q
    · exact ha.2.2.2 (q ▸ e)
    · rw [q] at e; cases e
    · exact absurd q ha.2.2.2⟩

theorem Mem.own.mono {M M' : Mem} (h : M.le M') {l n : Nat} {v : Value} (ha : M.own l n v) : M'.own l n v := by
  refine ⟨Nat.lt_of_lt_of_le ha.lt h.nx, ?_, fun e => by
    rcases h.mono l ha.lt with q | q | q
    · exact ha.nres (q ▸ e)
    · rw [q] at e; cases e
    · exact absurd q ha.nres⟩
  obtain ⟨a, k, h1, h2, h3, h4, h5, h6⟩ := ha.val
  refine ⟨a, k, h1, h2, h3, h4, fun b c e => ?_, fun e => ?_⟩
  · rcases h.mono l ha.lt with q | q | q
    · exact h5 b c (q ▸ e)
    · rw [q] at e; cases e
    · exact absurd q ha.nres
  · rcases h.mono l ha.lt with q | q | q
    · exact h6 (q ▸ e)
    · rw [q] at e; cases e
    · exact absurd q ha.nres

theorem R.mono {M M' : Mem} (h : M.le M') {d : D} {v : Value} (hr : R M d v) : R M' d v := by
  induction hr with
  | lit v h => exact .lit v h
  | agg l cs hs h1 _ ih => exact .agg l cs hs h1 ih
  | pt l o b ha => exact .pt l o b (ha.mono h)
  | sl l off len cap b k ha hk h0 hn hm =>
    exact .sl l off len cap b k (ha.mono h) hk (fun hc ho b' c' e => by
      rcases h.mono l ha.1 with q | q | q
      · exact h0 hc ho b' c' (q ▸ e)
      · rw [q] at e; cases e
      · exact absurd q ha.2.2.2) hn hm
  | fn f first caps v1 v2 h1 h2 _ _ ih1 ih2 => exact .fn f first caps v1 v2 h1 h2 ih1 ih2
  | yl l b ha => exact .yl l b (ha.mono h)
  | ifc t d v _ ih => exact .ifc t d v ih
  | tup l vs hs _ ih => exact .tup l vs hs ih
  | em a k h => exact .em a k h
  | un => exact .un
  | one v h => exact .one v h
  | any v => exact .any v
  | ow l n v ho => exact .ow l n v (ho.mono h)
  | sqn f sz a => exact .sqn f sz a
  | sq f sz rows b off k c V hb hn hm hf hz h1 _ ih => exact .sq f sz rows b off k c V (h.fz b c hb) hn hm hf hz h1 ih
  | ps q row o b off c V hb hq h1 _ ih => exact .ps q row o b off c V (h.fz b c hb) hq h1 ih
  | con v h => exact .con v h
  | gd c d v _ h2 ih => exact .gd c d v ih h2
  | mp l b ha => exact .mp l b (ha.mono h)

theorem RT.mono {M M' : Mem} (h : M.le M') {n : Nat} {tm : T D} {ts : Array Value} (hr : RT M n tm ts) : RT M' n tm ts := ⟨hr.1, fun t d e => (hr.2 t d e).mono h⟩

theorem RB.mono {M M' : Mem} {w w' : World} (h : M.le M') {k : Blk} {b c : Nat} (hw : w'.heap[b]? = w.heap[b]?) (hr : RB M w k b c) : RB M' w' k b c := by
  cases k with
  | cells ty op ds =>
    obtain ⟨cur, h1, h2, h3⟩ := hr
    exact ⟨cur, hw.trans h1, h2, fun i d e => ⟨(h3 i d e).1, (h3 i d e).2.mono h⟩⟩
  | dfr => exact hw.trans hr
  | loop l =>
    obtain ⟨fn, ts, dv, h1, h2, h3⟩ := hr
    exact ⟨fn, ts, dv, hw.trans h1, h2.mono h, h3.mono h⟩
  | map es =>
    obtain ⟨arr, h1, h2, h3⟩ := hr
    exact ⟨arr, hw.trans h1, h2, fun i p e => let ⟨x, q1, q2, q3, q4⟩ := h3 i p e; ⟨x, q1, q2, q3.mono h, q4⟩⟩
  | mit ol since seen last =>
    obtain ⟨ob, h1, h2⟩ := hr
    refine ⟨ob, hw.trans h1, ?_⟩
    cases ol <;> cases ob <;> first | exact h2 | exact h2.mono h

/-- Data stand for values, one by one. -/
def Rs (M : Mem) (ds : List D) (vs : Array Value) : Prop := vs.size = ds.length ∧ ∀ (i : Nat) d, ds[i]? = some d → R M d (vs.getD i undef)

theorem Rs.mono {M M' : Mem} (h : M.le M') {ds : List D} {vs : Array Value} (hr : Rs M ds vs) : Rs M' ds vs := ⟨hr.1, fun i d e => (hr.2 i d e).mono h⟩

def DfOk (M : Mem) : DF → Deferred → Prop
  | .mark l, d => ∃ b : Nat, d = { target := .collected b, args := #[] } ∧ M.at l b
  | .fn g caps args, d => ∃ v1 v2, d = { target := .fn (.func g) v2, args := v1 } ∧ Rs M args v1 ∧ Rs M caps v2

theorem DfOk.mono {M M' : Mem} (h : M.le M') {x : DF} {d : Deferred} (hr : DfOk M x d) : DfOk M' x d := by
  cases x with
  | mark l => obtain ⟨b, h1, h2⟩ := hr; exact ⟨b, h1, h2.mono h⟩
  | fn g caps args => obtain ⟨v1, v2, h1, h2, h3⟩ := hr; exact ⟨v1, v2, h1, h2.mono h, h3.mono h⟩

/-- What is deferred. -/
def DfsOk (M : Mem) (xs : List DF) (ds : List Deferred) : Prop := ds.length = xs.length ∧ ∀ (i : Nat) x, xs[i]? = some x → ∃ d, ds[i]? = some d ∧ DfOk M x d

theorem DfsOk.nil {M : Mem} : DfsOk M [] [] := ⟨rfl, fun i x h => by simp at h⟩

theorem DfsOk.cons {M : Mem} {x : DF} {xs : List DF} {d : Deferred} {ds : List Deferred} (h1 : DfOk M x d) (h : DfsOk M xs ds) : DfsOk M (x :: xs) (d :: ds) :=
  ⟨by simp [h.1], fun i y hi => by
    cases i with
    | zero => simp at hi; subst hi; exact ⟨d, rfl, h1⟩
    | succ i => exact h.2 i y (by simpa using hi)⟩

theorem DfsOk.mono {M M' : Mem} (h : M.le M') {xs : List DF} {ds : List Deferred} (hr : DfsOk M xs ds) : DfsOk M' xs ds :=
  ⟨hr.1, fun i x e => let ⟨d, h1, h2⟩ := hr.2 i x e; ⟨d, h1, h2.mono h⟩⟩

/-! ### The state -/
/-- Memory: its parts, the first name that is free. -/
structure H where
  hp : T Blk
  nx : Nat

/-- A part of memory lies in its block; or it is an own slice that holds nothing. -/
def RK (M : Mem) (w : World) (k : Blk) : Place → Prop
  | .dead => False
  | .blk b c => RB M w k b c
  | .nil => ∃ ty sz, k = .cells ty (some sz) []
  | .res => True

theorem RK.mono {M M' : Mem} {w w' : World} (h : M.le M') {k : Blk} {p : Place} (hw : ∀ b c, p = .blk b c → w'.heap[b]? = w.heap[b]?) (hr : RK M w k p) : RK M' w' k p := by
  cases p with
  | dead => exact hr
  | blk b c => exact RB.mono h (hw b c rfl) hr
  | nil => exact hr
  | res => trivial

structure RH (M : Mem) (h : H) (w : World) : Prop where
  inv : Inv M w
  hp : ∀ l b, h.hp.get l = some b → RK M w b (M.μ l)
  nx : h.nx = M.nx

/-- A frame's state. -/
structure St where
  n : Nat
  tm : T D
  h : H
  df : List DF

structure Rep (M : Mem) (s : St) (w : World) (a : Act) : Prop where
  h : RH M s.h w
  t : RT M s.n s.tm a.tmps
  df : DfsOk M s.df a.defers

def St.put (s : St) : Option Tmp → D → St
  | none, _ => s
  | some t, d => { s with tm := s.tm.set t d }

def St.room (s : St) : Option Tmp → Bool
  | none => true
  | some t => Nat.blt t s.n

theorem Rep.put {M : Mem} {s : St} {w : World} {a : Act} (h : Rep M s w a) {dst : Option Tmp} {d : D} {v : Value} (hd : R M d v) (hr : s.room dst = true) : Rep M (s.put dst d) w (a.put dst v) := by
  cases dst with
  | none => exact h
  | some t =>
    have ht : t < a.tmps.size := by rw [h.t.1]; simpa [St.room, Nat.blt_eq] using hr
    refine ⟨h.h, ⟨by simpa [Act.put, St.put] using h.t.1, fun u e hu => ?_⟩, h.df⟩
    simp only [St.put, T.get_set] at hu
    simp only [Act.put]
    by_cases htu : t = u
    · subst htu
      rw [if_pos rfl] at hu
      cases hu
      simpa [Array.getD, ht] using hd
    · rw [if_neg htu] at hu
      have := h.t.2 u e hu
      have e : (a.tmps.setIfInBounds t v).getD u undef = a.tmps.getD u undef := by
        simp [Array.getD_eq_getD_getElem?, Array.getElem?_setIfInBounds_ne htu]
      rw [e]
      exact this

theorem Rep.mono {M M' : Mem} {s : St} {w w' : World} {a : Act} (h : Rep M s w a) (hl : M.le M') {h' : H} (hh : RH M' h' w') : Rep M' { s with h := h' } w' a := by
  exact ⟨hh, h.t.mono hl, h.df.mono hl⟩

def constD : Value → D
  | .agg cs => bif cs.toList.all Aw.litB then .agg (cs.toList.map fun c => .lit c) else .any
  | v => bif Aw.litB v then .lit v else .any

def valT (tm : T D) : Operand → D
  | .tmp t => (tm.get t).getD .any
  | .const v => constD v
  | .func f => .fn (.func f) [] []
  | .global _ => .any

theorem Rep.val {M : Mem} {s : St} {w : World} {a : Act} (h : Rep M s w a) (x : Operand) : R M (valT s.tm x) (a.eval x) := by
  cases x with
  | tmp t =>
    simp only [valT]
    cases hl : s.tm.get t with
    | none => exact .any _
    | some d => exact h.t.2 t d hl
  | const v =>
    simp only [valT, Act.eval, constD]
    split
    · rename_i cs
      cases hc : cs.toList.all Aw.litB with
      | true =>
        have hl : ∀ c, c ∈ cs.toList → litOk c := fun c hm => Aw.litB_ok (List.all_eq_true.1 hc c hm)
        refine .agg _ _ (by simp) (fun i d hi => ?_) (fun i d hi => ?_)
        · simp only [List.getElem?_map, Array.getElem?_toList, Option.map_eq_some_iff] at hi
          obtain ⟨c, hc1, rfl⟩ := hi
          have := hl c (by rw [Array.mem_toList_iff]; exact Array.mem_of_getElem? hc1)
          rw [show cs.getD i undef = c by simp [Array.getD_eq_getD_getElem?, hc1]]
          cases c <;> simp_all [litOk, Value.oneCell']
        · simp only [List.getElem?_map, Array.getElem?_toList, Option.map_eq_some_iff] at hi
          obtain ⟨c, hc1, rfl⟩ := hi
          have := hl c (by rw [Array.mem_toList_iff]; exact Array.mem_of_getElem? hc1)
          rw [show cs.getD i undef = c by simp [Array.getD_eq_getD_getElem?, hc1]]
          exact .lit _ this
      | false => exact .any _
    · rename_i hb
      cases hc : Aw.litB v with
      | true => exact .lit _ (Aw.litB_ok hc)
      | false => exact .any _
  | func f => exact .fn _ _ _ _ _ rfl rfl (fun i d hi => by simp at hi) (fun i d hi => by simp at hi)
  | global g => exact .any _

/-! ### Memory changes -/
def Mem.set (M : Mem) (l : Nat) (p : Place) (nx : Nat) : Mem := { M with μ := fun k => if k = l then p else M.μ k, nx := nx }

theorem Inv.fzlt {M : Mem} {w : World} (h : Inv M w) {b : Nat} {c : Array Value} (hb : M.fz b = some c) : b < w.heap.size := by
  obtain ⟨ty, fr, e⟩ := h.fz b c hb
  exact (Array.getElem?_eq_some_iff.1 e).1

/-- A part of memory is written: only its block has turned. -/
theorem RH.write {M : Mem} {h : H} {w w' : World} (hr : RH M h w) {l n c : Nat} (hl : M.μ l = .blk n c) (k : Blk) (ho : w'.os = w.os) (htp : w'.tape = w.tape) (hou : w'.output = w.output)
    (hsz : w'.heap.size = w.heap.size) (hk : ∀ b, b ≠ n → w'.heap[b]? = w.heap[b]?) (hb : RB M w' k n c) : RH M { h with hp := h.hp.set l k } w' ∧ Ext M w M w' := by
  refine ⟨⟨⟨hr.inv.inj, fun l b c e => by rw [hsz]; exact hr.inv.lt l b c e, hr.inv.nx, fun b q e => by
    obtain ⟨ty, fr, e2⟩ := hr.inv.fz b q e
    exact ⟨ty, fr, (hk b (fun x => hr.inv.sep b q e l c (x ▸ hl))).trans e2⟩, hr.inv.sep⟩, fun m b e => ?_, hr.nx⟩, ⟨ho, htp, hou, Nat.le_of_eq hsz.symm, fun b hb hn => hk b (fun e => hn l c (e ▸ hl)), fun l b c e => .inl ⟨l, c, e⟩, Nat.le_refl _, fun _ _ => .inl rfl, fun _ _ h => h, fun _ _ h => .inl h, fun _ _ h => h⟩⟩
  simp only [T.get_set] at e
  by_cases hm : l = m
  · subst hm
    rw [if_pos rfl] at e
    cases e
    rw [hl]
    exact hb
  · rw [if_neg hm] at e
    exact (hr.hp m b e).mono (.refl M) (fun n' c' h1 => hk n' (fun q => hm (hr.inv.inj l m n c c' hl (q ▸ h1))))

/-- A new part of memory. -/
theorem RH.fresh {M : Mem} {h : H} {w w' : World} (hr : RH M h w) (k : Blk) (n c : Nat) (ho : w'.os = w.os) (htp : w'.tape = w.tape) (hou : w'.output = w.output) (hsz : w.heap.size ≤ w'.heap.size)
    (hk : ∀ b, b < w.heap.size → w'.heap[b]? = w.heap[b]?) (hn : w.heap.size ≤ n ∧ n < w'.heap.size) (hb : M.le (M.set h.nx (.blk n c) (h.nx + 1)) → RB (M.set h.nx (.blk n c) (h.nx + 1)) w' k n c) :
    RH (M.set h.nx (.blk n c) (h.nx + 1)) { hp := h.hp.set h.nx k, nx := h.nx + 1 } w' ∧ Ext M w (M.set h.nx (.blk n c) (h.nx + 1)) w' := by
  have hle : M.le (M.set h.nx (.blk n c) (h.nx + 1)) := ⟨by simp [Mem.set, hr.nx], fun l hl => by
    left
    have : l ≠ h.nx := by rw [hr.nx]; omega
    simp [Mem.set, this], fun _ _ h => h⟩
  have hmono : ∀ l, l < M.nx → (M.set h.nx (.blk n c) (h.nx + 1)).μ l = M.μ l ∨ (M.set h.nx (.blk n c) (h.nx + 1)).μ l = .dead := fun l hl => by
    left
    have : l ≠ h.nx := by rw [hr.nx]; omega
    simp [Mem.set, this]
  refine ⟨⟨⟨fun l l' b c1 c2 h1 h2 => ?_, fun l b c1 h1 => ?_, fun l b c1 h1 => ?_, fun b q e => ?_, fun b q e l k h1 => ?_⟩, fun l b e => ?_, rfl⟩, ⟨ho, htp, hou, hsz, fun b hb _ => hk b hb, fun l b c1 h1 => ?_, hle.nx, hmono, fun _ _ h => h, fun _ _ h => .inl h, fun l hl e => (hmono l hl).elim (fun q => q.trans e) (fun q => by simp only [Mem.set] at q; rw [if_neg (by rw [hr.nx]; omega)] at q; rw [e] at q; cases q)⟩⟩
  · simp only [Mem.set] at h1 h2
    by_cases e1 : l = h.nx <;> by_cases e2 : l' = h.nx
    · rw [e1, e2]
    · rw [if_pos e1] at h1
      rw [if_neg e2] at h2
      cases h1
      have := hr.inv.lt _ _ _ h2
      omega
    · rw [if_neg e1] at h1
      rw [if_pos e2] at h2
      cases h2
      have := hr.inv.lt _ _ _ h1
      omega
    · rw [if_neg e1] at h1
      rw [if_neg e2] at h2
      exact hr.inv.inj _ _ _ _ _ h1 h2
  · simp only [Mem.set] at h1
    by_cases e1 : l = h.nx
    · rw [if_pos e1] at h1; cases h1; exact hn.2
    · rw [if_neg e1] at h1; exact Nat.lt_of_lt_of_le (hr.inv.lt _ _ _ h1) hsz
  · simp only [Mem.set] at h1 ⊢
    by_cases e1 : l = h.nx
    · omega
    · rw [if_neg e1] at h1; have := hr.inv.nx _ _ _ h1; rw [hr.nx]; omega
  · have e : M.fz b = some q := e
    obtain ⟨ty, fr, e2⟩ := hr.inv.fz b q e
    exact ⟨ty, fr, (hk b (hr.inv.fzlt e)).trans e2⟩
  · have e : M.fz b = some q := e
    have hlt := hr.inv.fzlt e
    simp only [Mem.set] at h1
    by_cases e1 : l = h.nx
    · rw [if_pos e1] at h1; cases h1; omega
    · rw [if_neg e1] at h1; exact hr.inv.sep b q e l k h1
  · simp only [T.get_set] at e
    by_cases e1 : h.nx = l
    · subst e1
      rw [if_pos rfl] at e
      cases e
      simp only [Mem.set, if_true]
      exact hb hle
    · rw [if_neg e1] at e
      have := (hr.hp l b e).mono hle (w' := w') (fun n' c' a1 => hk n' (hr.inv.lt _ _ _ a1))
      rw [show (M.set h.nx (.blk n c) (h.nx + 1)).μ l = M.μ l by simp only [Mem.set]; rw [if_neg (fun q => e1 q.symm)]]
      exact this
  · simp only [Mem.set] at h1
    by_cases e1 : l = h.nx
    · rw [if_pos e1] at h1; cases h1; exact .inr hn.1
    · rw [if_neg e1] at h1; exact .inl ⟨l, c1, h1⟩

/-- A part of memory is given up, and another one taken, in whose place it may lie. -/
theorem RH.move {M : Mem} {h : H} {w w' : World} (hr : RH M h w) {l n c : Nat} (hl : M.μ l = .blk n c) (k : Blk) (n' c' : Nat) (ho : w'.os = w.os) (htp : w'.tape = w.tape) (hou : w'.output = w.output) (hsz : w.heap.size ≤ w'.heap.size)
    (hk : ∀ b, b < w.heap.size → b ≠ n → w'.heap[b]? = w.heap[b]?) (hn : (n' = n ∨ w.heap.size ≤ n') ∧ n' < w'.heap.size)
    (hb : M.le ((M.set l .dead h.nx).set h.nx (.blk n' c') (h.nx + 1)) → RB ((M.set l .dead h.nx).set h.nx (.blk n' c') (h.nx + 1)) w' k n' c') :
    RH ((M.set l .dead h.nx).set h.nx (.blk n' c') (h.nx + 1)) { hp := (h.hp.del l).set h.nx k, nx := h.nx + 1 } w' ∧ Ext M w ((M.set l .dead h.nx).set h.nx (.blk n' c') (h.nx + 1)) w' := by
  have hll : l < h.nx := by rw [hr.nx]; exact hr.inv.nx _ _ _ hl
  have hμ : ∀ m, ((M.set l .dead h.nx).set h.nx (.blk n' c') (h.nx + 1)).μ m = if m = h.nx then .blk n' c' else if m = l then .dead else M.μ m := fun m => rfl
  have hle : M.le ((M.set l .dead h.nx).set h.nx (.blk n' c') (h.nx + 1)) := ⟨by simp [Mem.set, hr.nx], fun m hm => by
    rw [hμ, if_neg (by rw [hr.nx]; omega)]
    by_cases e : m = l
    · rw [if_pos e]; exact .inr (.inl rfl)
    · rw [if_neg e]; exact .inl rfl, fun _ _ h => h⟩
  have hmono : ∀ m, m < M.nx → ((M.set l .dead h.nx).set h.nx (.blk n' c') (h.nx + 1)).μ m = M.μ m ∨ ((M.set l .dead h.nx).set h.nx (.blk n' c') (h.nx + 1)).μ m = .dead := fun m hm => by
    rw [hμ, if_neg (by rw [hr.nx]; omega)]
    by_cases e : m = l
    · rw [if_pos e]; exact .inr rfl
    · rw [if_neg e]; exact .inl rfl
  have old : ∀ m b c1, m ≠ h.nx → ((M.set l .dead h.nx).set h.nx (.blk n' c') (h.nx + 1)).μ m = .blk b c1 → m ≠ l ∧ M.μ m = .blk b c1 := fun m b c1 hm e => by
    rw [hμ, if_neg hm] at e
    by_cases e1 : m = l
    · rw [if_pos e1] at e; cases e
    · rw [if_neg e1] at e; exact ⟨e1, e⟩
  have newp : ∀ b c1, ((M.set l .dead h.nx).set h.nx (.blk n' c') (h.nx + 1)).μ h.nx = .blk b c1 → b = n' := fun b c1 e => by
    rw [hμ, if_pos rfl] at e; cases e; rfl
  have clash : ∀ m c1, m ≠ l → M.μ m = .blk n' c1 → False := fun m c1 hm e => by
    rcases hn.1 with q | q
    · exact hm (hr.inv.inj _ _ _ _ _ (q ▸ e) hl)
    · have := hr.inv.lt _ _ _ e; omega
  refine ⟨⟨⟨fun m m' b c1 c2 h1 h2 => ?_, fun m b c1 h1 => ?_, fun m b c1 h1 => ?_, fun b q e => ?_, fun b q e m k h1 => ?_⟩, fun m b e => ?_, rfl⟩, ⟨ho, htp, hou, hsz, fun b hb hnn => hk b hb (fun e => hnn l c (e ▸ hl)), fun m b c1 h1 => ?_, hle.nx, hmono, fun _ _ h => h, fun _ _ h => .inl h, fun m hm e => (by rw [hμ, if_neg (by rw [hr.nx]; omega), if_neg (fun q => by rw [q, hl] at e; cases e)]; exact e)⟩⟩
  · by_cases e1 : m = h.nx <;> by_cases e2 : m' = h.nx
    · rw [e1, e2]
    · subst e1
      obtain ⟨q1, q2⟩ := old _ _ _ e2 h2
      rw [newp _ _ h1] at q2
      exact (clash _ _ q1 q2).elim
    · subst e2
      obtain ⟨q1, q2⟩ := old _ _ _ e1 h1
      rw [newp _ _ h2] at q2
      exact (clash _ _ q1 q2).elim
    · exact hr.inv.inj _ _ _ _ _ (old _ _ _ e1 h1).2 (old _ _ _ e2 h2).2
  · by_cases e1 : m = h.nx
    · subst e1; rw [newp _ _ h1]; exact hn.2
    · exact Nat.lt_of_lt_of_le (hr.inv.lt _ _ _ (old _ _ _ e1 h1).2) hsz
  · by_cases e1 : m = h.nx
    · rw [e1]; simp [Mem.set]
    · have := hr.inv.nx _ _ _ (old _ _ _ e1 h1).2
      simp only [Mem.set]
      rw [hr.nx]; omega
  · have e : M.fz b = some q := e
    obtain ⟨ty, fr, e2⟩ := hr.inv.fz b q e
    exact ⟨ty, fr, (hk b (hr.inv.fzlt e) (fun x => hr.inv.sep b q e l c (x ▸ hl))).trans e2⟩
  · have e : M.fz b = some q := e
    by_cases e1 : m = h.nx
    · subst e1
      have := newp _ _ h1
      subst this
      rcases hn.1 with x | x
      · exact hr.inv.sep b q e l c (x ▸ hl)
      · have := hr.inv.fzlt e; omega
    · exact hr.inv.sep b q e m k (old _ _ _ e1 h1).2
  · simp only [T.get_set, T.get_del] at e
    by_cases e1 : h.nx = m
    · subst e1
      rw [if_pos rfl] at e
      cases e
      rw [hμ, if_pos rfl]
      exact hb hle
    · rw [if_neg e1] at e
      by_cases e2 : l = m
      · rw [if_pos e2] at e; cases e
      · rw [if_neg e2] at e
        have := (hr.hp m b e).mono hle (w' := w') (fun p q a1 => hk p (hr.inv.lt _ _ _ a1) (fun x => e2 (hr.inv.inj _ _ _ _ _ hl (x ▸ a1))))
        rw [hμ, if_neg (fun x => e1 x.symm), if_neg (fun x => e2 x.symm)]
        exact this
  · by_cases e1 : m = h.nx
    · subst e1
      rw [newp _ _ h1]
      rcases hn.1 with q | q
      · exact .inl ⟨l, c, q ▸ hl⟩
      · exact .inr q
    · exact .inl ⟨m, c1, (old _ _ _ e1 h1).2⟩

/-- Orders drawn from the tape change nothing that is known. -/
theorem RH.drawn {M : Mem} {h : H} {w : World} (hr : RH M h w) (k : Nat) : RH M h { w with drawn := k } ∧ Ext M w M { w with drawn := k } :=
  ⟨⟨⟨hr.inv.inj, hr.inv.lt, hr.inv.nx, hr.inv.fz, hr.inv.sep⟩, fun l b e => (hr.hp l b e).mono (.refl M) (fun _ _ _ => rfl), hr.nx⟩,
    ⟨rfl, rfl, rfl, Nat.le_refl _, fun _ _ _ => rfl, fun l _ c e => .inl ⟨l, c, e⟩, Nat.le_refl _, fun _ _ => .inl rfl, fun _ _ h => h, fun _ _ h => .inl h, fun _ _ h => h⟩⟩
end Go.Ev
